/- What the program computes, in plain words: part 5. No condition. -/
import Derived.Test.YtcikhcfofnlegaaGreatSgC
import Derived.Below
import Derived.Shelf.Strings.Repeat
import Derived.WalkKit
import Derived.BigCall
import Derived.Test.YtcikhcfofnlegaaGreatProg
import Derived.Shelf.LaysM
import Derived.Shelf.Lays
set_option linter.unusedVariables false
set_option linter.unusedSimpArgs false
section
namespace Go.Rf
set_option linter.unusedSectionVars false
variable [T : Laid]
theorem ofInt_cast (n a : Nat) : BitVec.ofInt n (a : Int) = BitVec.ofNat n a := by
 apply BitVec.eq_of_toNat_eq
 simp
theorem wrap_u32 (n : Int) : IntKind.wrap .u32 n = n % 4294967296 := by
 unfold IntKind.wrap
 simp [IntKind.signed, IntKind.bits]
theorem wrap_u8 (n : Int) : IntKind.wrap .u8 n = n % 256 := by
 unfold IntKind.wrap
 simp [IntKind.signed, IntKind.bits]
theorem wrap_u64 (n : Int) : IntKind.wrap .u64 n = n % 18446744073709551616 := by
 unfold IntKind.wrap
 simp [IntKind.signed, IntKind.bits]
theorem wrapN_u32 (n : Nat) : IntKind.wrap .u32 (n : Int) = ((n % 4294967296 : Nat) : Int) := by rw [wrap_u32]; omega
theorem wrapN_u8 (n : Nat) : IntKind.wrap .u8 (n : Int) = ((n % 256 : Nat) : Int) := by rw [wrap_u8]; omega
theorem wrapN_i64 {n : Nat} (h : n < 9223372036854775808) : IntKind.wrap .i64 (n : Int) = (n : Int) := wrap_id (by omega) (by omega)
def kmax : IntKind → Nat
 | .i8 => 128 | .i16 => 32768 | .i32 => 2147483648 | .i64 => 9223372036854775808
 | .u8 => 256 | .u16 => 65536 | .u32 => 4294967296 | .u64 => 18446744073709551616
theorem kmax_le (k : IntKind) : kmax k ≤ 2 ^ k.bits := by cases k <;> decide
theorem wrapN {k : IntKind} {n : Nat} (h : n < kmax k) : IntKind.wrap k (n : Int) = (n : Int) := by
 cases k <;> simp only [kmax] at h <;> (unfold IntKind.wrap; simp [IntKind.signed, IntKind.bits]) <;> omega
theorem pow_of (k : IntKind) : ∃ e, kmax k = 2 ^ e := by
 cases k
 ·exact ⟨7, rfl⟩
 ·exact ⟨15, rfl⟩
 ·exact ⟨31, rfl⟩
 ·exact ⟨63, rfl⟩
 ·exact ⟨8, rfl⟩
 ·exact ⟨16, rfl⟩
 ·exact ⟨32, rfl⟩
 ·exact ⟨64, rfl⟩
theorem bit_and {k : IntKind} {a b : Nat} (ha : a < kmax k) (hb : b < kmax k) : bitI .and k (a : Int) (b : Int) = ((a &&& b : Nat) : Int) := by
 have h := kmax_le k
 unfold bitI
 simp only [ofInt_cast, BitVec.toNat_and, BitVec.toNat_ofNat]
 rw [Nat.mod_eq_of_lt (by omega), Nat.mod_eq_of_lt (by omega), wrapN (Nat.lt_of_le_of_lt Nat.and_le_left ha)]
theorem bit_or {k : IntKind} {a b : Nat} (ha : a < kmax k) (hb : b < kmax k) : bitI .or k (a : Int) (b : Int) = ((a ||| b : Nat) : Int) := by
 have h := kmax_le k
 obtain ⟨e, he⟩ := pow_of k
 unfold bitI
 simp only [ofInt_cast, BitVec.toNat_or, BitVec.toNat_ofNat]
 rw [Nat.mod_eq_of_lt (by omega), Nat.mod_eq_of_lt (by omega), wrapN (by rw [he] at ha hb ⊢; exact Nat.or_lt_two_pow ha hb)]
theorem bit_xor {k : IntKind} {a b : Nat} (ha : a < kmax k) (hb : b < kmax k) : bitI .xor k (a : Int) (b : Int) = ((a ^^^ b : Nat) : Int) := by
 have h := kmax_le k
 obtain ⟨e, he⟩ := pow_of k
 unfold bitI
 simp only [ofInt_cast, BitVec.toNat_xor, BitVec.toNat_ofNat]
 rw [Nat.mod_eq_of_lt (by omega), Nat.mod_eq_of_lt (by omega), wrapN (by rw [he] at ha hb ⊢; exact Nat.xor_lt_two_pow ha hb)]
theorem fdivN (a n : Nat) : Int.fdiv (a : Int) (2 ^ n : Int) = ((a / 2 ^ n : Nat) : Int) := by
 have : (2 ^ n : Int) = ((2 ^ n : Nat) : Int) := by simp
 rw [this]; exact (Int.ofNat_fdiv a (2 ^ n)).symm
theorem mulpN (a n : Nat) : (a : Int) * (2 ^ n : Int) = ((a * 2 ^ n : Nat) : Int) := by simp
theorem and_m32 (a : Nat) : a &&& 4294967295 = a % 4294967296 := Nat.and_two_pow_sub_one_eq_mod a 32
theorem and_m26 (a : Nat) : a &&& 67108863 = a % 67108864 := Nat.and_two_pow_sub_one_eq_mod a 26
end Go.Rf

end
section
namespace Go.Rf
set_option linter.unusedSectionVars false
variable [T : Laid]
def loopN {α : Type} (f : Nat → α → α) : (n i : Nat) → α → α
 | 0, _, a => a
 | n + 1, i, a => loopN f n (i + 1) (f i a)
theorem gen_for {α γ : Type} (F : α → Int → Option γ) (f : Nat → α → α) (Inv : Nat → α → Prop) (n : Nat) (K : α → Option γ)
  (stop : ∀ a, Inv n a → F a (n : Nat) = K a) (step : ∀ a i, i < n → Inv i a → F a (i : Nat) = F (f i a) ((i + 1 : Nat) : Int) ∧ Inv (i + 1) (f i a)) :
  ∀ (m i : Nat) (a : α), n - i = m → i ≤ n → Inv i a → F a i = K (loopN f m i a) ∧ Inv n (loopN f m i a)
 | 0, i, a, hm, hi, ha => by
  have : i = n := by omega
  subst this
  exact ⟨stop a ha, ha⟩
 | m + 1, i, a, hm, hi, ha => by
  obtain ⟨h1, h2⟩ := step a i (by omega) ha
  obtain ⟨h3, h4⟩ := gen_for F f Inv n K stop step m (i + 1) (f i a) (by omega) (by omega) h2
  exact ⟨h1.trans h3, h4⟩
theorem gen_for0 {α γ : Type} (F : α → Int → Option γ) (f : Nat → α → α) (Inv : Nat → α → Prop) (n : Nat) (K : α → Option γ)
  (stop : ∀ a, Inv n a → F a (n : Nat) = K a) (step : ∀ a i, i < n → Inv i a → F a (i : Nat) = F (f i a) ((i + 1 : Nat) : Int) ∧ Inv (i + 1) (f i a)) (a : α) (ha : Inv 0 a) :
  F a 0 = K (loopN f n 0 a) ∧ Inv n (loopN f n 0 a) := gen_for F f Inv n K stop step n 0 a rfl (Nat.zero_le _) ha
def cl (l : List Nat) : List Int := List.map (fun (x : Nat) => (x : Int)) l
theorem cl_len (l : List Nat) : (cl l).length = l.length := by unfold cl; exact List.length_map _
theorem cl_getD (l : List Nat) (i : Nat) : (cl l).getD i (0 : Int) = ((l.getD i 0 : Nat) : Int) := by
 unfold cl
 rw [List.getD_eq_getElem?_getD, List.getD_eq_getElem?_getD, List.getElem?_map]
 cases l[i]? <;> rfl
theorem cl_set (l : List Nat) (i a : Nat) : (cl l).set i (a : Int) = cl (l.set i a) := by
 unfold cl
 rw [List.map_set]
def Bd (B : Nat) (l : List Nat) : Prop := ∀ x ∈ l, x < B
theorem Bd.get {B : Nat} {l : List Nat} (h : Bd B l) (hB : 0 < B) (i : Nat) : l.getD i 0 < B := by
 rw [List.getD_eq_getElem?_getD]
 cases e : l[i]? with
 | none => exact hB
 | some x => exact h x (List.mem_of_getElem? e)
theorem Bd.set {B : Nat} {l : List Nat} (h : Bd B l) {i a : Nat} (ha : a < B) : Bd B (l.set i a) := fun x hx => by
 rcases List.mem_or_eq_of_mem_set hx with hx | rfl
 ·exact h x hx
 ·exact ha
theorem Bd.rep {B n : Nat} (hB : 0 < B) : Bd B (List.replicate n 0) := fun x hx => by
 rw [(List.mem_replicate.1 hx).2]; exact hB
end Go.Rf

end
section
namespace Go.Rf
set_option linter.unusedSectionVars false
variable [T : Laid]
def PP : Nat := 1361129467683753853853498429727072845819
def val (a b c d e : Nat) : Nat := a + 67108864 * b + 4503599627370496 * c + 302231454903657293676544 * d + 20282409603651670423947251286016 * e
def car (a b c d e : Nat) : List Nat :=
  [a % 67108864 + 5 * ((e + (d + (c + (b + a / 67108864) / 67108864) / 67108864) / 67108864) / 67108864),
   (b + a / 67108864) % 67108864,
   (c + (b + a / 67108864) / 67108864) % 67108864,
   (d + (c + (b + a / 67108864) / 67108864) / 67108864) % 67108864,
   (e + (d + (c + (b + a / 67108864) / 67108864) / 67108864) / 67108864) % 67108864]
theorem car_val (a b c d e : Nat) : ∃ a' b' c' d' e' q, car a b c d e = [a', b', c', d', e'] ∧ val a' b' c' d' e' + q * PP = val a b c d e ∧
  b' < 67108864 ∧ c' < 67108864 ∧ d' < 67108864 ∧ e' < 67108864 ∧
  q = (e + (d + (c + (b + a / 67108864) / 67108864) / 67108864) / 67108864) / 67108864 ∧ a' = a % 67108864 + 5 * q := by
 refine ⟨_, _, _, _, _, (e + (d + (c + (b + a / 67108864) / 67108864) / 67108864) / 67108864) / 67108864, rfl, ?_, ?_, ?_, ?_, ?_, rfl, rfl⟩
 ·unfold val PP
  generalize h1 : b + a / 67108864 = b1
  generalize h2 : c + b1 / 67108864 = c1
  generalize h3 : d + c1 / 67108864 = d1
  generalize h4 : e + d1 / 67108864 = e1
  omega
 all_goals exact Nat.mod_lt _ (by decide)
theorem car3 (a b c d e : Nat) (ha : a < 288230376151711744) (hb : b < 288230376151711744) (hc : c < 288230376151711744) (hd : d < 288230376151711744) (he : e < 288230376151711744) :
  ∃ a1 b1 c1 d1 e1 a2 b2 c2 d2 e2 a3 b3 c3 d3 e3, car a b c d e = [a1, b1, c1, d1, e1] ∧ car a1 b1 c1 d1 e1 = [a2, b2, c2, d2, e2] ∧ car a2 b2 c2 d2 e2 = [a3, b3, c3, d3, e3] ∧
   val a3 b3 c3 d3 e3 % PP = val a b c d e % PP ∧ a3 < 67108864 ∧ b3 < 67108864 ∧ c3 < 67108864 ∧ d3 < 67108864 ∧ e3 < 67108864 ∧
   a1 < 1152921504606846976 ∧ b1 < 67108864 ∧ c1 < 67108864 ∧ d1 < 67108864 ∧ e1 < 67108864 ∧ a2 < 1152921504606846976 ∧ b2 < 67108864 ∧ c2 < 67108864 ∧ d2 < 67108864 ∧ e2 < 67108864 := by
 obtain ⟨a1, b1, c1, d1, e1, q1, h1, v1, hb1, hc1, hd1, he1, hq1, ha1⟩ := car_val a b c d e
 obtain ⟨a2, b2, c2, d2, e2, q2, h2, v2, hb2, hc2, hd2, he2, hq2, ha2⟩ := car_val a1 b1 c1 d1 e1
 obtain ⟨a3, b3, c3, d3, e3, q3, h3, v3, hb3, hc3, hd3, he3, hq3, ha3⟩ := car_val a2 b2 c2 d2 e2
 have hq1' : q1 < 8589934592 := by rw [hq1]; omega
 have ha1' : a1 < 67108864 + 5 * 8589934592 := by omega
 have hq2' : q2 ≤ 1 := by rw [hq2]; omega
 have ha2' : a2 < 67108864 + 5 := by omega
 have ha3' : a3 < 67108864 := by
  rcases Nat.lt_or_ge a2 67108864 with h | h
  ·have : q3 = 0 := by rw [hq3]; omega
   omega
  ·have : q3 ≤ 1 := by rw [hq3]; omega
   omega
 refine ⟨a1, b1, c1, d1, e1, a2, b2, c2, d2, e2, a3, b3, c3, d3, e3, h1, h2, h3, ?_, ha3', hb3, hc3, hd3, he3, by omega, hb1, hc1, hd1, he1, by omega, hb2, hc2, hd2, he2⟩
 rw [← v1, ← v2, ← v3]
 simp [Nat.add_mul_mod_self_right]
theorem car_id {a b c d e : Nat} (ha : a < 67108864) (hb : b < 67108864) (hc : c < 67108864) (hd : d < 67108864) (he : e < 67108864) : car a b c d e = [a, b, c, d, e] := by
 unfold car
 rw [show a / 67108864 = 0 by omega, Nat.add_zero, show b / 67108864 = 0 by omega, Nat.add_zero, show c / 67108864 = 0 by omega, Nat.add_zero, show d / 67108864 = 0 by omega, Nat.add_zero, show e / 67108864 = 0 by omega,
  Nat.mod_eq_of_lt ha, Nat.mod_eq_of_lt hb, Nat.mod_eq_of_lt hc, Nat.mod_eq_of_lt hd, Nat.mod_eq_of_lt he, Nat.mul_zero, Nat.add_zero]
theorem sc (α β x y : Nat) : (α * x) * (β * y) = (α * β) * (x * y) := Nat.mul_mul_mul_comm α x β y
theorem mul_val (x0 x1 x2 x3 x4 y0 y1 y2 y3 y4 : Nat) : ∃ q, val x0 x1 x2 x3 x4 * val y0 y1 y2 y3 y4 =
  val (x0 * y0 + 5 * (x1 * y4) + 5 * (x2 * y3) + 5 * (x3 * y2) + 5 * (x4 * y1)) (x0 * y1 + x1 * y0 + 5 * (x2 * y4) + 5 * (x3 * y3) + 5 * (x4 * y2))
   (x0 * y2 + x1 * y1 + x2 * y0 + 5 * (x3 * y4) + 5 * (x4 * y3)) (x0 * y3 + x1 * y2 + x2 * y1 + x3 * y0 + 5 * (x4 * y4)) (x0 * y4 + x1 * y3 + x2 * y2 + x3 * y1 + x4 * y0) + q * PP := by
 refine ⟨(x1 * y4 + x2 * y3 + x3 * y2 + x4 * y1) + 67108864 * (x2 * y4 + x3 * y3 + x4 * y2) + 4503599627370496 * (x3 * y4 + x4 * y3) + 302231454903657293676544 * (x4 * y4), ?_⟩
 unfold val PP
 have e : (x0 + 67108864 * x1 + 4503599627370496 * x2 + 302231454903657293676544 * x3 + 20282409603651670423947251286016 * x4) * (y0 + 67108864 * y1 + 4503599627370496 * y2 + 302231454903657293676544 * y3 + 20282409603651670423947251286016 * y4) =
   (x0 * y0) + 67108864 * (x0 * y1) + 4503599627370496 * (x0 * y2) + 302231454903657293676544 * (x0 * y3) + 20282409603651670423947251286016 * (x0 * y4)
   + (67108864 * (x1 * y0) + (67108864 * 67108864) * (x1 * y1) + (67108864 * 4503599627370496) * (x1 * y2) + (67108864 * 302231454903657293676544) * (x1 * y3) + (67108864 * 20282409603651670423947251286016) * (x1 * y4))
   + (4503599627370496 * (x2 * y0) + (4503599627370496 * 67108864) * (x2 * y1) + (4503599627370496 * 4503599627370496) * (x2 * y2) + (4503599627370496 * 302231454903657293676544) * (x2 * y3) + (4503599627370496 * 20282409603651670423947251286016) * (x2 * y4))
   + (302231454903657293676544 * (x3 * y0) + (302231454903657293676544 * 67108864) * (x3 * y1) + (302231454903657293676544 * 4503599627370496) * (x3 * y2) + (302231454903657293676544 * 302231454903657293676544) * (x3 * y3) + (302231454903657293676544 * 20282409603651670423947251286016) * (x3 * y4))
   + (20282409603651670423947251286016 * (x4 * y0) + (20282409603651670423947251286016 * 67108864) * (x4 * y1) + (20282409603651670423947251286016 * 4503599627370496) * (x4 * y2) + (20282409603651670423947251286016 * 302231454903657293676544) * (x4 * y3) + (20282409603651670423947251286016 * 20282409603651670423947251286016) * (x4 * y4)) := by
  rw [Nat.add_mul, Nat.add_mul, Nat.add_mul, Nat.add_mul]
  congr 1
  ·congr 1
   ·congr 1
    ·congr 1
     ·rw [Nat.mul_add, Nat.mul_add, Nat.mul_add, Nat.mul_add, Nat.mul_left_comm x0, Nat.mul_left_comm x0, Nat.mul_left_comm x0, Nat.mul_left_comm x0]
     ·rw [Nat.mul_add, Nat.mul_add, Nat.mul_add, Nat.mul_add, sc _ _ x1 y1, sc _ _ x1 y2, sc _ _ x1 y3, sc _ _ x1 y4, Nat.mul_assoc _ x1 y0]
    ·rw [Nat.mul_add, Nat.mul_add, Nat.mul_add, Nat.mul_add, sc _ _ x2 y1, sc _ _ x2 y2, sc _ _ x2 y3, sc _ _ x2 y4, Nat.mul_assoc _ x2 y0]
   ·rw [Nat.mul_add, Nat.mul_add, Nat.mul_add, Nat.mul_add, sc _ _ x3 y1, sc _ _ x3 y2, sc _ _ x3 y3, sc _ _ x3 y4, Nat.mul_assoc _ x3 y0]
  ·rw [Nat.mul_add, Nat.mul_add, Nat.mul_add, Nat.mul_add, sc _ _ x4 y1, sc _ _ x4 y2, sc _ _ x4 y3, sc _ _ x4 y4, Nat.mul_assoc _ x4 y0]
 rw [e]
 generalize x0 * y0 = p00; generalize x0 * y1 = p01; generalize x0 * y2 = p02; generalize x0 * y3 = p03; generalize x0 * y4 = p04
 generalize x1 * y0 = p10; generalize x1 * y1 = p11; generalize x1 * y2 = p12; generalize x1 * y3 = p13; generalize x1 * y4 = p14
 generalize x2 * y0 = p20; generalize x2 * y1 = p21; generalize x2 * y2 = p22; generalize x2 * y3 = p23; generalize x2 * y4 = p24
 generalize x3 * y0 = p30; generalize x3 * y1 = p31; generalize x3 * y2 = p32; generalize x3 * y3 = p33; generalize x3 * y4 = p34
 generalize x4 * y0 = p40; generalize x4 * y1 = p41; generalize x4 * y2 = p42; generalize x4 * y3 = p43; generalize x4 * y4 = p44
 clear e
 omega
def leV : List UInt8 → Nat
 | [] => 0
 | c :: cs => c.toNat + 256 * leV cs
theorem leV_lt : ∀ (l : List UInt8), leV l < 256 ^ l.length
 | [] => by simp [leV]
 | c :: cs => by
  have := leV_lt cs
  have hc := c.toNat_lt
  simp only [leV, List.length_cons, Nat.pow_succ]
  omega
theorem leV_append : ∀ (a b : List UInt8), leV (a ++ b) = leV a + 256 ^ a.length * leV b
 | [], b => by simp [leV]
 | c :: cs, b => by
  simp only [List.cons_append, leV, leV_append cs b, List.length_cons, Nat.pow_succ, Nat.mul_add]
  rw [show 256 ^ cs.length * 256 * leV b = 256 * (256 ^ cs.length * leV b) by rw [Nat.mul_comm (256 ^ cs.length) 256, Nat.mul_assoc]]
  omega
theorem leV_zeros : ∀ (n : Nat), leV (List.replicate n 0) = 0
 | 0 => rfl
 | n + 1 => by simp [List.replicate_succ, leV, leV_zeros n]
def L5 (n : Nat) : List Nat := [n % 67108864, n / 67108864 % 67108864, n / 4503599627370496 % 67108864, n / 302231454903657293676544 % 67108864, n / 20282409603651670423947251286016 % 67108864]
theorem L5_val {n : Nat} (h : n < 1361129467683753853853498429727072845824) : val (n % 67108864) (n / 67108864 % 67108864) (n / 4503599627370496 % 67108864) (n / 302231454903657293676544 % 67108864) (n / 20282409603651670423947251286016 % 67108864) = n := by
 unfold val; omega
theorem L5_of {a b c d e : Nat} (ha : a < 67108864) (hb : b < 67108864) (hc : c < 67108864) (hd : d < 67108864) (he : e < 67108864) : L5 (val a b c d e) = [a, b, c, d, e] := by
 unfold L5 val
 congr 1
 ·omega
 ·congr 1
  ·omega
  ·congr 1
   ·omega
   ·congr 1
    ·omega
    ·congr 1; omega
theorem val_lt {a b c d e : Nat} (ha : a < 67108864) (hb : b < 67108864) (hc : c < 67108864) (hd : d < 67108864) (he : e < 67108864) : val a b c d e < 1361129467683753853853498429727072845824 := by
 unfold val; omega
theorem red_eq {x y : Nat} (hx : x < 1361129467683753853853498429727072845824) (hy : y < 1361129467683753853853498429727072845824) (h : x % PP = y % PP) : (if PP ≤ x then x - PP else x) = (if PP ≤ y then y - PP else y) := by
 have e : ∀ z, z < 1361129467683753853853498429727072845824 → (if PP ≤ z then z - PP else z) = z % PP := fun z hz => by
  unfold PP at *
  split <;> omega
 rw [e x hx, e y hy, h]
end Go.Rf

end
section
namespace Go.Rf
set_option linter.unusedSectionVars false
variable [T : Laid]
theorem or_m32 (a b : Nat) : (a ||| b) % 4294967296 = (a % 4294967296) ||| (b % 4294967296) := Nat.or_mod_two_pow (n := 32)
theorem lt32_or {a b : Nat} (ha : a < 4294967296) (hb : b < 4294967296) : a ||| b < 4294967296 := Nat.or_lt_two_pow (n := 32) ha hb
theorem lt32_xor {a b : Nat} (ha : a < 4294967296) (hb : b < 4294967296) : a ^^^ b < 4294967296 := Nat.xor_lt_two_pow (n := 32) ha hb
theorem lt32_and {a b : Nat} (ha : a < 4294967296) : a &&& b < 4294967296 := Nat.lt_of_le_of_lt Nat.and_le_left ha
theorem lt32_mod (a : Nat) : a % 4294967296 < 4294967296 := Nat.mod_lt _ (by decide)
theorem lt32_div {a : Nat} (n : Nat) (ha : a < 4294967296) : a / n < 4294967296 := Nat.lt_of_le_of_lt (Nat.div_le_self _ _) ha
def rl (s x : Nat) : Nat := (x * 2 ^ s % 4294967296) ||| (x / 2 ^ (32 - s))
theorem rl_lt {s x : Nat} (hx : x < 4294967296) : rl s x < 4294967296 := lt32_or (lt32_mod _) (lt32_div _ hx)
def rr (n x : Nat) : Nat := rl (32 - n) x
theorem rr_lt {s x : Nat} (hx : x < 4294967296) : rr s x < 4294967296 := rl_lt hx
theorem rr_spec {n x : Nat} (hn : n ≤ 32) (hx : x < 4294967296) : (x / 2 ^ n ||| x * 2 ^ (32 - n)) % 4294967296 = rr n x := by
 rw [or_m32, Nat.mod_eq_of_lt (lt32_div _ hx), Nat.or_comm]
 unfold rr rl
 rw [show 32 - (32 - n) = n by omega]
theorem rl_spec {n x : Nat} (hx : x < 4294967296) : (x * 2 ^ n ||| x / 2 ^ (32 - n)) % 4294967296 = rl n x := by
 rw [or_m32, Nat.mod_eq_of_lt (lt32_div _ hx)]; rfl
def g0 (x : Nat) : Nat := rr 7 x ^^^ rr 18 x ^^^ x / 2 ^ 3
def g1 (x : Nat) : Nat := rr 17 x ^^^ rr 19 x ^^^ x / 2 ^ 10
def S1 (e : Nat) : Nat := rr 6 e ^^^ rr 11 e ^^^ rr 25 e
def S0 (a : Nat) : Nat := rr 2 a ^^^ rr 13 a ^^^ rr 22 a
def ch (e f g : Nat) : Nat := (e &&& f) ^^^ ((4294967295 ^^^ e) &&& g)
def mj (a b c : Nat) : Nat := (a &&& b) ^^^ (a &&& c) ^^^ (b &&& c)
theorem g0_lt {x : Nat} (h : x < 4294967296) : g0 x < 4294967296 := lt32_xor (lt32_xor (rr_lt h) (rr_lt h)) (lt32_div _ h)
theorem g1_lt {x : Nat} (h : x < 4294967296) : g1 x < 4294967296 := lt32_xor (lt32_xor (rr_lt h) (rr_lt h)) (lt32_div _ h)
theorem S1_lt {x : Nat} (h : x < 4294967296) : S1 x < 4294967296 := lt32_xor (lt32_xor (rr_lt h) (rr_lt h)) (rr_lt h)
theorem S0_lt {x : Nat} (h : x < 4294967296) : S0 x < 4294967296 := lt32_xor (lt32_xor (rr_lt h) (rr_lt h)) (rr_lt h)
theorem ch_lt {e f g : Nat} (he : e < 4294967296) : ch e f g < 4294967296 := lt32_xor (lt32_and he) (lt32_and (lt32_xor (by decide) he))
theorem mj_lt {a b c : Nat} (ha : a < 4294967296) (hb : b < 4294967296) : mj a b c < 4294967296 := lt32_xor (lt32_xor (lt32_and ha) (lt32_and ha)) (lt32_and hb)
def bt (t : List UInt8) (i : Nat) : Nat := (t.getD i 0).toNat
theorem bt_lt (t : List UInt8) (i : Nat) : bt t i < 256 := UInt8.toNat_lt _
def wBE (t : List UInt8) (i : Nat) : Nat := bt t i * 2 ^ 24 ||| bt t (i + 1) * 2 ^ 16 ||| bt t (i + 2) * 2 ^ 8 ||| bt t (i + 3)
def wLE (t : List UInt8) (i : Nat) : Nat := bt t i ||| bt t (i + 1) * 2 ^ 8 ||| bt t (i + 2) * 2 ^ 16 ||| bt t (i + 3) * 2 ^ 24
theorem wBE_lt (t : List UInt8) (i : Nat) : wBE t i < 4294967296 := by
 have h0 := bt_lt t i; have h1 := bt_lt t (i + 1); have h2 := bt_lt t (i + 2); have h3 := bt_lt t (i + 3)
 exact lt32_or (lt32_or (lt32_or (by omega) (by omega)) (by omega)) (by omega)
theorem wLE_lt (t : List UInt8) (i : Nat) : wLE t i < 4294967296 := by
 have h0 := bt_lt t i; have h1 := bt_lt t (i + 1); have h2 := bt_lt t (i + 2); have h3 := bt_lt t (i + 3)
 exact lt32_or (lt32_or (lt32_or (by omega) (by omega)) (by omega)) (by omega)
def stA (t : List UInt8) (i : Nat) (w : List Nat) : List Nat := w.set i (wBE t (4 * i))
def stB (i : Nat) (w : List Nat) : List Nat := w.set (i + 16) ((w.getD i 0 + g0 (w.getD (i + 1) 0) + w.getD (i + 9) 0 + g1 (w.getD (i + 14) 0)) % 4294967296)
def stC (k w : List Nat) (i : Nat) (v : List Nat) : List Nat :=
 let x := v.getD 7 0 + S1 (v.getD 4 0) + ch (v.getD 4 0) (v.getD 5 0) (v.getD 6 0) + k.getD i 0 + w.getD i 0
 [(x + S0 (v.getD 0 0) + mj (v.getD 0 0) (v.getD 1 0) (v.getD 2 0)) % 4294967296, v.getD 0 0, v.getD 1 0, v.getD 2 0, (v.getD 3 0 + x) % 4294967296, v.getD 4 0, v.getD 5 0, v.getD 6 0]
def stD (v : List Nat) (i : Nat) (h : List Nat) : List Nat := h.set i ((h.getD i 0 + v.getD i 0) % 4294967296)
def shaW (t : List UInt8) : List Nat := loopN stB 48 0 (loopN (stA t) 16 0 (List.replicate 64 0))
def shaB (k h : List Nat) (t : List UInt8) : List Nat := loopN (stD (loopN (stC k (shaW t)) 64 0 h)) 8 0 h
def shaM (k : List Nat) : Nat → List Nat → List UInt8 → List Nat × List UInt8
 | 0, h, t => (h, t)
 | n + 1, h, t => if 64 ≤ t.length then shaM k n (shaB k h t) (t.drop 64) else (h, t)
def qr (a b c d : Nat) : Nat × Nat × Nat × Nat :=
 let a1 := (a + b) % 4294967296
 let d1 := rl 16 (d ^^^ a1)
 let c1 := (c + d1) % 4294967296
 let b1 := rl 12 (b ^^^ c1)
 let a2 := (a1 + b1) % 4294967296
 let d2 := rl 8 (d1 ^^^ a2)
 let c2 := (c1 + d2) % 4294967296
 let b2 := rl 7 (b1 ^^^ c2)
 (a2, b2, c2, d2)
theorem qr_lt {a b c d : Nat} (hb : b < 4294967296) (hd : d < 4294967296) : (qr a b c d).1 < 4294967296 ∧ (qr a b c d).2.1 < 4294967296 ∧ (qr a b c d).2.2.1 < 4294967296 ∧ (qr a b c d).2.2.2 < 4294967296 := by
 refine ⟨lt32_mod _, rl_lt (lt32_xor (rl_lt (lt32_xor hb (lt32_mod _))) (lt32_mod _)), lt32_mod _, rl_lt (lt32_xor (rl_lt (lt32_xor hd (lt32_mod _))) (lt32_mod _))⟩
def qs (a b c d : Nat) (y : List Nat) : List Nat :=
 let q := qr (y.getD a 0) (y.getD b 0) (y.getD c 0) (y.getD d 0)
 (((y.set a q.1).set b q.2.1).set c q.2.2.1).set d q.2.2.2
def dr (y : List Nat) : List Nat :=
 qs 3 4 9 14 (qs 2 7 8 13 (qs 1 6 11 12 (qs 0 5 10 15 (qs 3 7 11 15 (qs 2 6 10 14 (qs 1 5 9 13 (qs 0 4 8 12 y)))))))
theorem qs_Bd {a b c d : Nat} {y : List Nat} (h : Bd 4294967296 y) : Bd 4294967296 (qs a b c d y) := by
 have := qr_lt (a := y.getD a 0) (c := y.getD c 0) (h.get (by decide) b) (h.get (by decide) d)
 exact (((h.set this.1).set this.2.1).set this.2.2.1).set this.2.2.2
theorem qs_len {a b c d : Nat} {y : List Nat} : (qs a b c d y).length = y.length := by simp [qs]
def xorL : List UInt8 → List UInt8 → List UInt8
 | a :: xs, b :: ys => (a ^^^ b) :: xorL xs ys
 | _, _ => []
end Go.Rf

end
section
namespace Go.Rf.S
def ub (l : List Nat) : List UInt8 := List.map UInt8.ofNat l
def stL (v i : Nat) (o : List Nat) : List Nat := o ++ [v / 2 ^ (8 * i) % 256]
def lit (v n : Nat) : List Nat := loopN (stL v) n 0 []
def exC : List UInt8 := [101, 120, 112, 97, 110, 100, 32, 51, 50, 45, 98, 121, 116, 101, 32, 107]
def chI (key nonce : List UInt8) (count : Nat) : List Nat :=
 [wLE exC 0, wLE exC 4, wLE exC 8, wLE exC 12, wLE key 0, wLE key 4, wLE key 8, wLE key 12, wLE key 16, wLE key 20, wLE key 24, wLE key 28, count, wLE nonce 0, wLE nonce 4, wLE nonce 8]
def rk (k : Nat) (y : List Nat) : List Nat := loopN (fun i y => qs i (4 + (i + k) % 4) (8 + (i + 2 * k) % 4) (12 + (i + 3 * k) % 4) y) 4 0 y
def r10 (y : List Nat) : List Nat := loopN (fun _ y => rk 1 (rk 0 y)) 10 0 y
def stF (x y : List Nat) (i : Nat) (o : List Nat) : List Nat := o ++ lit ((y.getD i 0 + x.getD i 0) % 4294967296) 4
def chO (x : List Nat) : List Nat := loopN (stF x (r10 x)) 16 0 []
def chB (key nonce : List UInt8) (count : Nat) : List UInt8 := ub (chO (chI key nonce count))
def chX (key nonce : List UInt8) : Nat → Nat → List UInt8 → List UInt8
 | 0, _, _ => []
 | n + 1, count, t => if t = [] then [] else xorL (t.take 64) (chB key nonce count) ++ chX key nonce n (count + 1) (t.drop 64)
end Go.Rf.S

end
section
namespace Go.Rf
set_option linter.unusedSectionVars false
variable [T : Laid]
theorem dT {p : Prop} [Decidable p] (h : p) : decide p = true := decide_eq_true h
theorem dF {p : Prop} [Decidable p] (h : ¬ p) : decide p = false := decide_eq_false h
theorem st : (∀ i : Nat, nonneg (i : Int) = true) ∧ (∀ i : Int, 0 ≤ i → nonneg i = true) ∧ (∀ i : Nat, Int.toNat (i : Int) = i) ∧ (∀ i n : Nat, i < n → Nat.blt i n = true) ∧ (∀ i n : Nat, i ≤ n → Nat.ble i n = true)
    ∧ (∀ n : Nat, n ≤ 1099511627776 → lenOK n = true) ∧ (∀ n : Int, -9223372036854775808 ≤ n → n ≤ 9223372036854775807 → IntKind.wrap .i64 n = n)
    ∧ (∀ (α : Type) (a b : α), cond true a b = a) ∧ (∀ (α : Type) (a b : α), cond false a b = b) ∧ (∀ (α β : Type) (a : α) (f : α → Option β), (some a).bind f = f a)
    ∧ (∀ (α : Type) (a : α), [a].length = 1) ∧ (∀ (α : Type) (a b : List α), (a ++ b).length = a.length + b.length) ∧ (∀ a b : Int, a = b → eqI a b = true) ∧ (∀ a b : Int, a ≠ b → eqI a b = false) :=
  ⟨nn, fun i h => by simp [nonneg]; omega, tn, fun i n h => blt_t h, fun i n h => by simpa [Nat.ble_eq] using h, fun n h => lenOK_t h, fun n h1 h2 => wrap_id h1 h2,
   fun _ _ _ => rfl, fun _ _ _ => rfl, fun _ _ _ _ => rfl, fun _ _ => rfl, fun _ _ _ => List.length_append, fun a b h => by rw [eqI_iff]; exact decide_eq_true h, fun a b h => by rw [eqI_iff]; exact decide_eq_false h⟩
theorem gen_flat {α β γ : Type} (F : List β → Int → Option γ) (v : List α) (d : α) (g : α → List β) (K : List β → Option γ) (o0 : List β) (c : Nat) (hc : ∀ x ∈ v, (g x).length ≤ c)
  (stop : ∀ o, o.length ≤ o0.length + v.length * c → F o (v.length : Nat) = K o)
  (step : ∀ o (i : Nat), i < v.length → o.length ≤ o0.length + i * c → v.getD i d ∈ v → F o (i : Nat) = F (o ++ g (v.getD i d)) ((i + 1 : Nat) : Int)) : F o0 0 = K (o0 ++ v.flatMap g) := by
 have h : ∀ (n i : Nat) (o : List β), v.length - i = n → i ≤ v.length → o.length ≤ o0.length + i * c → F o (i : Nat) = K (o ++ (v.drop i).flatMap g) := by
  intro n
  induction n with
  | zero =>
   intro i o hn hi ho
   have : i = v.length := by omega
   subst this
   rw [List.drop_length, stop o ho]; simp
  | succ n ih =>
   intro i o hn hi ho
   have hm : v.getD i d ∈ v := getD_mem (by omega)
   have := hc _ hm
   rw [step o i (by omega) ho hm, ih (i + 1) _ (by omega) (by omega) (by rw [List.length_append, Nat.add_mul]; omega), drop_getD (d := d) (show i < v.length by omega), List.flatMap_cons, List.append_assoc]
 have := h v.length 0 o0 rfl (Nat.zero_le _) (by omega)
 simpa using this
end Go.Rf

end
section
namespace Go.Rf
set_option linter.unusedSectionVars false
variable [T : Laid]
open Go.RowKit
def FnOKc (E : Env) (c : FCfg) (f : FuncId) (ds : List Dyn) (x : c.rt.D) : Prop :=
 ∀ (w : World) (S : Nat → Prop) (β : Key → Option Nat) (cs : List (List Value)), Sane w S β → ArgsAt S β w c.modes ds cs 0 → CallRes E.P f (argVals ds cs).toArray w (Ret c x cs w S β)
def slOf (τ : Ty) (d : Dyn) : Option (List τ.D) := castD d.t (.sl τ) d.x
def i64Of (d : Dyn) : Option Int := castD d.t (.int .i64) d.x
theorem i64Of_some {d : Dyn} {n : Int} (h : i64Of d = some n) : d = ⟨.int .i64, n⟩ := by
 obtain ⟨t, x⟩ := d
 obtain ⟨e, h⟩ := castD_some h
 cases e; cases h; rfl
section
variable {E : Env} {w w' : World} {S : Nat → Prop} {β : Key → Option Nat} {keep : List Nat} {mv : List (Nat × Nat)} {ms : List Mode} {ax : List (List Value)}
theorem below_step (hs : Sane w S β) (h : Below w.heap.size w w') : Sane w' S β ∧ Step w S β w' S β :=
 ⟨⟨hs.inj, hs.sep, fun k b hk => Nat.lt_of_lt_of_le (hs.live k b hk) h.size, fun b hb => Nat.lt_of_lt_of_le (hs.liveS b hb) h.size, hs.tabs fun b hb => ⟨hb, h.block b (hs.liveS b hb)⟩⟩,
  ⟨h.size, fun b hb _ => h.block b hb, fun k b hk => .inl ⟨k, hk⟩, fun _ h => h, fun _ h => .inl h, ⟨h.os, h.tape, h.output⟩⟩⟩
theorem ret_str (hs : Sane w S β) (h : Below w.heap.size w w') {t : List UInt8} (hio : IoAt S β w' ms ax 0 .unit ()) :
  Ret ⟨ms, 1, .pair .str .unit, .sh, keep, mv⟩ (t, ()) ax w S β (.string ⟨⟨t⟩⟩) w' := by
 obtain ⟨h1, h2⟩ := below_step hs h
 refine ⟨S, β, [[.string ⟨⟨t⟩⟩]], h1, h2, ?_, rfl, hio⟩
 simp only [ResAt]
 refine ⟨?_, trivial⟩
 refine VRel_sh.2 ?_
 simp [Rd]
def strOf (d : Dyn) : Option (List UInt8) := castD d.t .str d.x
theorem strOf_some {d : Dyn} {s : List UInt8} (h : strOf d = some s) : d = ⟨.str, s⟩ := by
 obtain ⟨t, x⟩ := d
 obtain ⟨e, h⟩ := castD_some h
 cases e; cases h; rfl
end
end Go.Rf

end
section
namespace Go.Rf
set_option linter.unusedSectionVars false
variable [T : Laid]
open Go.Shelf Go.RowKit Go.Lib Go.Proofs
section
variable {E : Env} {ρ : Ren} {w w' : World} {S : Nat → Prop} {β : Key → Option Nat} {keep : List Nat} {mv : List (Nat × Nat)} {ms : List Mode} {ax : List (List Value)}
def repH : List Dyn → Option (Ty.pair .str .unit).D
 | [a, b] => (strOf a).bind fun s => (i64Of b).bind fun n => cond (decide (0 ≤ n) && (Nat.blt 0 s.length && Nat.ble (s.length * n.toNat) 1099511627776)) (some (repeatL s n.toNat, ())) none
 | _ => none
theorem repH_some {ds : List Dyn} {x : (Ty.pair .str .unit).D} (h : repH ds = some x) : ∃ (s : List UInt8) (n : Nat), ds = [⟨.str, s⟩, ⟨.int .i64, (n : Int)⟩] ∧ 0 < s.length ∧ s.length * n ≤ 1099511627776 ∧ x = (repeatL s n, ()) := by
 unfold repH at h
 split at h
 ·rename_i a b
  obtain ⟨s, h1, h⟩ := Option.bind_eq_some_iff.1 h
  obtain ⟨n, h2, h⟩ := Option.bind_eq_some_iff.1 h
  rw [strOf_some h1, i64Of_some h2]
  cases hb : (decide (0 ≤ n) && (Nat.blt 0 s.length && Nat.ble (s.length * n.toNat) 1099511627776)) with
  | false => rw [hb] at h; cases h
  | true =>
   rw [hb] at h
   simp only [Bool.and_eq_true, decide_eq_true_eq, Nat.ble_eq, Nat.blt_eq] at hb
   exact ⟨s, n.toNat, by rw [Int.toNat_of_nonneg hb.1], hb.2.1, hb.2.2, (Option.some.inj h).symm⟩
 ·cases h
theorem repeat_fn {f : FuncId} {fn : Func} (L : Lays.n105 E.P ρ) (X : Builder.Extra E.P ρ) (hf : ρ.f 105 = f) (hfn : E.P.funcs[f]? = some fn) (hnm : (fn.name == "runtime.NumGoroutine") = false) (hbd : fn.body.isNone = false)
  (s : List UInt8) (n : Nat) (h1 : 0 < s.length) (h2 : s.length * n ≤ 1099511627776) :
  FnOKc E ⟨[.ro .str, .ro (.int .i64)], 1, .pair .str .unit, .sh, keep, mv⟩ f [⟨.str, s⟩, ⟨.int .i64, (n : Int)⟩] (repeatL s n, ()) := by
 intro w S β cs hs ha
 match cs, ha with
 | [c1, c2], ha =>
  simp only [ArgsAt] at ha
  obtain ⟨_, hv, _, hv2, _⟩ := ha
  simp only [Rd] at hv hv2
  subst hv hv2
  refine .inl ⟨fn, hfn, hnm, hbd, ?_⟩
  have hn : n ≤ 1099511627776 := by
   have : 1 * n ≤ s.length * n := Nat.mul_le_mul_right _ h1
   omega
  by_cases h0 : n = 0
  ·subst h0
   have hcall := Any.strings_Repeat_zero L ⟨⟨s⟩⟩ w
   rw [hf] at hcall
   refine hcall.mono ?_
   rintro e w' ⟨rfl, rfl⟩
   have e0 : repeatL s 0 = [] := by simp [repeatL]
   rw [e0]
   exact ret_str (t := []) hs (Below.refl _ _) (by simp [IoAt])
  ·by_cases h1' : n = 1
   ·subst h1'
    have hcall := Any.strings_Repeat_one L ⟨⟨s⟩⟩ w
    rw [hf] at hcall
    refine hcall.mono ?_
    rintro e w' ⟨rfl, rfl⟩
    have e0 : repeatL s 1 = s := by simp [repeatL]
    rw [e0]
    exact ret_str (t := s) hs (Below.refl _ _) (by simp [IoAt])
   ·have hcall := Any.strings_Repeat_main L X ⟨⟨s⟩⟩ n w (by omega) (by omega) (Nat.le_trans h2 (by decide)) h1
    rw [hf] at hcall
    refine hcall.mono ?_
    rintro e w' ⟨rfl, hw⟩
    exact ret_str (t := repeatL s n) hs hw (by simp [IoAt])
 | [], ha | [_], ha => simp [ArgsAt] at ha
 | _ :: _ :: _ :: _, ha => simp [ArgsAt] at ha
noncomputable def okH (E : Env) (f : FuncId) (h : List Dyn → Option (E.cfg f).rt.D) : List Dyn → Option (E.cfg f).rt.D := fun ds =>
 (h ds).bind fun x => @ite _ (FnOK E f ds x) (Classical.propDecidable _) (some x) none
theorem okH_ok {f : FuncId} {h : List Dyn → Option (E.cfg f).rt.D} {ds : List Dyn} {x : (E.cfg f).rt.D} (e : okH E f h ds = some x) : FnOK E f ds x := by
 unfold okH at e
 obtain ⟨y, h1, h2⟩ := Option.bind_eq_some_iff.1 e
 split at h2
 ·rename_i hk
  cases h2; exact hk
 ·cases h2
theorem okH_eq {f : FuncId} {h : List Dyn → Option (E.cfg f).rt.D} {ds : List Dyn} {x : (E.cfg f).rt.D} (e : h ds = some x) (hk : FnOK E f ds x) : okH E f h ds = some x := by
 unfold okH
 rw [e]
 exact if_pos hk
end
end Go.Rf

end
section
namespace Go.Rf
set_option linter.unusedSectionVars false
variable [T : Laid]
open Go.Shelf Go.RowKit Go.Lib Go.Proofs
section
variable {E : Env} {w w' : World} {S : Nat → Prop} {β : Key → Option Nat} {keep : List Nat} {mv : List (Nat × Nat)} {ms : List Mode}
theorem sane_none (hs : Sane w S β) (h : Below w.heap.size w w') : Sane w' S (fun _ => none) :=
 ⟨fun _ _ _ h => (by cases h), fun _ _ h => (by cases h), fun _ _ h => (by cases h), fun b hb => Nat.lt_of_lt_of_le (hs.liveS b hb) h.size, hs.tabs fun b hb => ⟨hb, h.block b (hs.liveS b hb)⟩⟩
theorem str_call {f : FuncId} {ds : List Dyn} {t : List UInt8} (h : FnOKc E ⟨ms, 1, .pair .str .unit, .sh, keep, mv⟩ f ds (t, ())) {cs : List (List Value)} (hs : Sane w S (fun _ => none)) (ha : ArgsAt S (fun _ => none) w ms ds cs 0)
  (he : (callFunc f (argVals ds cs).toArray).run E.P w = .ok (.enter f (argVals ds cs).toArray) w) :
  Calls E.P f (argVals ds cs).toArray w fun e w' => e = .returned (.string ⟨⟨t⟩⟩) ∧ Below w.heap.size w w' := by
 rcases h w S _ cs hs ha with ⟨fn, h1, h2, h3, h4⟩ | ⟨v, w', h1, _⟩
 ·refine h4.mono fun e w' he => ?_
  cases e with
  | returned v =>
   obtain ⟨S', β', crs, h5, h6, h7, h8, _⟩ := he
   match crs, h7 with
   | [c], h7 =>
    simp only [ResAt] at h7
    have h9 := VRel_sh.1 h7.1
    simp only [Rd] at h9
    subst h9
    refine ⟨by rw [h8]; rfl, h6.out.os, h6.out.tape, h6.out.output, h6.size, fun k hk => h6.old k hk fun _ e => (by cases e)⟩
   | [], h7 => simp [ResAt] at h7
   | _ :: _ :: _, h7 => simp [ResAt] at h7
  | _ => exact he.elim
 ·rw [he] at h1; cases h1
theorem isb_same {T' e : TypeId} {B b : Nat} {bs : List Value} (h : IsBuilder T' e B b bs w) (hb : Below w.heap.size w w') : IsBuilder T' e B b bs w' := by
 have k : ∀ p, BuilderAt T' e B b p bs w → BuilderAt T' e B b p bs w' := fun p h => by
  have hl := h.lt
  obtain ⟨hB, v, h1, h2, h3⟩ := h
  exact ⟨hB, v, by rw [hb.block b hl]; exact h1, h2.kept (row := none) ⟨hb.os, hb.tape, hb.output, hb.size, fun k hk _ => hb.block k hk⟩ (by cases v.ownBlock <;> simp), h3⟩
 exact h.imp (k _) (k _)
theorem below_up {B : Nat} (h : Below w.heap.size w w') (hB : B ≤ w.heap.size) : Below B w w' := ⟨h.os, h.tape, h.output, h.size, fun k hk => h.block k (Nat.lt_of_lt_of_le hk hB)⟩
end
end Go.Rf

end
section
namespace Go.Proofs
open Go.Shelf Go.RowKit
def Tryz.laysRep_ren : Go.Shelf.Ren := ⟨fun | 105 => 311 | 212 => 345 | 99 => 346 | 165 => 347 | 166 => 320 | 170 => 348 | 169 => 323 | 263 => 368 | 264 => 369 | 206 => 370 | 240 => 353 | 241 => 371 | 276 => 378 | 277 => 380 | n => n, fun | 9 => 9 | 3 => 3 | 4 => 4 | 20 => 20 | 0 => 0 | 46 => 161 | 109 => 321 | 5 => 5 | 72 => 298 | 76 => 301 | 51 => 288 | 146 => 338 | 53 => 329 | 148 => 340 | 70 => 296 | 37 => 94 | 75 => 300 | 127 => 328 | 164 => 348 | 80 => 150 | n => n, fun | n => n⟩
theorem Tryz.laysRep : Go.Proofs.Lays.n105 Tryz.prog Tryz.laysRep_ren := {
 mixed := by kernel_rfl
 f99 := Tryz.func346.trans (congrArg some (by kernel_rfl))
 f105 := Tryz.func311.trans (congrArg some (by kernel_rfl))
 f165 := Tryz.func347.trans (congrArg some (by kernel_rfl))
 f166 := Tryz.func320.trans (congrArg some (by kernel_rfl))
 f169 := Tryz.func323.trans (congrArg some (by kernel_rfl))
 f170 := Tryz.func348.trans (congrArg some (by kernel_rfl))
 f206 := Tryz.func370.trans (congrArg some (by kernel_rfl))
 f212 := Tryz.func345.trans (congrArg some (by kernel_rfl))
 f240 := Tryz.func353.trans (congrArg some (by kernel_rfl))
 f241 := Tryz.func371.trans (congrArg some (by kernel_rfl))
 f263 := Tryz.func368.trans (congrArg some (by kernel_rfl))
 f264 := Tryz.func369.trans (congrArg some (by kernel_rfl))
 f276 := Tryz.func378.trans (congrArg some (by kernel_rfl))
 f277 := Tryz.func380.trans (congrArg some (by kernel_rfl))
 t0 := Tryz.underlying0
 a0 := Tryz.isAgg0
 z0 := Tryz.sizeOf0
 v0 := Tryz.zeroValue0
 t3 := Tryz.underlying3
 a3 := Tryz.isAgg3
 z3 := Tryz.sizeOf3
 v3 := Tryz.zeroValue3
 t4 := Tryz.underlying4
 a4 := Tryz.isAgg4
 z4 := Tryz.sizeOf4
 v4 := Tryz.zeroValue4
 t5 := Tryz.underlying5
 a5 := Tryz.isAgg5
 z5 := Tryz.sizeOf5
 v5 := Tryz.zeroValue5
 t9 := Tryz.underlying9
 a9 := Tryz.isAgg9
 z9 := Tryz.sizeOf9
 v9 := Tryz.zeroValue9
 t20 := Tryz.underlying20
 a20 := Tryz.isAgg20
 z20 := Tryz.sizeOf20
 v20 := Tryz.zeroValue20
 t37 := Tryz.underlying94
 a37 := Tryz.isAgg94
 z37 := Tryz.sizeOf94
 v37 := Tryz.zeroValue94
 t46 := Tryz.underlying161
 a46 := Tryz.isAgg161
 z46 := Tryz.sizeOf161
 v46 := Tryz.zeroValue161
 t51 := Tryz.underlying288
 a51 := Tryz.isAgg288
 z51 := Tryz.sizeOf288
 v51 := Tryz.zeroValue288
 t53 := Tryz.underlying329
 a53 := Tryz.isAgg329
 z53 := Tryz.sizeOf329
 v53 := Tryz.zeroValue329
 t70 := Tryz.underlying296
 a70 := Tryz.isAgg296
 z70 := Tryz.sizeOf296
 v70 := Tryz.zeroValue296
 t72 := Tryz.underlying298
 a72 := Tryz.isAgg298
 z72 := Tryz.sizeOf298
 v72 := Tryz.zeroValue298
 t75 := Tryz.underlying300
 a75 := Tryz.isAgg300
 z75 := Tryz.sizeOf300
 v75 := Tryz.zeroValue300
 t76 := Tryz.underlying301
 a76 := Tryz.isAgg301
 z76 := Tryz.sizeOf301
 v76 := Tryz.zeroValue301
 t109 := Tryz.underlying321
 a109 := Tryz.isAgg321
 z109 := Tryz.sizeOf321
 v109 := Tryz.zeroValue321
 t127 := Tryz.underlying328
 a127 := Tryz.isAgg328
 z127 := Tryz.sizeOf328
 v127 := Tryz.zeroValue328
 t146 := Tryz.underlying338
 a146 := Tryz.isAgg338
 z146 := Tryz.sizeOf338
 v146 := Tryz.zeroValue338
 t148 := Tryz.underlying340
 a148 := Tryz.isAgg340
 z148 := Tryz.sizeOf340
 v148 := Tryz.zeroValue340
 t164 := Tryz.underlying348
 a164 := Tryz.isAgg348
 z164 := Tryz.sizeOf348
 v164 := Tryz.zeroValue348 }
theorem Tryz.extra : Builder.Extra Tryz.prog Tryz.laysRep_ren := {
 sizeBuilder := by kernel_rfl
 liesBuilder := by kernel_rfl
 t5 := Tryz.laysRep.t5
 a5 := Tryz.laysRep.a5
 z5 := Tryz.laysRep.z5
 v5 := Tryz.laysRep.v5
 infoByte := by kernel_rfl
 cellsByte := by kernel_rfl
 sizeByte := by kernel_rfl
 neB5 := by decide }
end Go.Proofs

end
section
namespace Go.Rf
set_option linter.unusedSectionVars false
variable [T : Laid]
open Go.Shelf Go.RowKit Go.Lib Go.Proofs
section
variable {E : Env} {w w' : World} {S : Nat → Prop} {β : Key → Option Nat} {keep keep' : List Nat} {mv mv' : List (Nat × Nat)} {ms : List Mode}
theorem strCells_bc (t : List UInt8) : strCells ⟨⟨t⟩⟩ = Lib.byteCells t := by simp [strCells, Lib.byteCells]
theorem bc_app (a b : List UInt8) : Lib.byteCells a ++ Lib.byteCells b = Lib.byteCells (a ++ b) := by simp [Lib.byteCells]
set_option maxHeartbeats 6400000 in
set_option maxRecDepth 100000 in
theorem intsText_fn (hE : E.P = Tryz.prog) (lt : Int → List UInt8) (l : List Int) (hl : (l.flatMap lt).length ≤ 1048576) (hn : l.length ≤ 1048576)
  (hlt : ∀ x ∈ l, FnOKc E ⟨[.ro (.int .i64), .ro (.int .i64)], 1, .pair .str .unit, .sh, keep, mv⟩ 139 [⟨.int .i64, x⟩, ⟨.int .i64, (4 : Int)⟩] (lt x, ())) :
  FnOKc E ⟨[.ro (.sl (.int .i64))], 1, .pair .str .unit, .sh, keep', mv'⟩ 275 [⟨.sl (.int .i64), l⟩] (l.flatMap lt, ()) := by
 intro w S β cs hs ha
 match cs, ha with
 | [c1], ha =>
  simp only [ArgsAt] at ha
  obtain ⟨_, hv, _⟩ := ha
  simp only [Rd] at hv
  obtain ⟨ad, cap, rfl, hcap, hel⟩ := hv
  have hcell : ∀ i (x : Int), l[i]? = some x → ∃ b o, ad = some ⟨b, o, none⟩ ∧ b < w.heap.size ∧ w.cell? ⟨b, o + i, none⟩ = some (.int .i64 x) := fun i x hx => by
   have hi := (List.getElem?_eq_some_iff.1 hx).1
   rcases hel with rfl | ⟨b, o, cs, rfl, hS, ⟨e, fz, hb⟩, hsz, hel⟩
   ·exact absurd hi (Nat.not_lt_zero _)
   ·have h1 := hel i x hx
    have hs1 : (Ty.int IntKind.i64).size = 1 := rfl
    rw [hs1] at h1 hsz
    refine ⟨b, o, rfl, hs.liveS b hS, ?_⟩
    have e2 : w.cell? ⟨b, o + i, none⟩ = cs[o + i]? := Lib.cell_of_heap hb (o + i)
    have e3 : cs[o + i]? = some (.int .i64 x) := by
     have h2 := congrArg (fun l : List Value => l[0]?) h1
     simp only [win, List.getElem?_take, List.getElem?_drop] at h2
     simpa using h2
    exact e2.trans e3
  rw [hE]
  refine .inl ⟨Tryz.f275, Tryz.func275, by kernel_rfl, by kernel_rfl, ?_⟩
  show Calls Tryz.prog 275 #[.slice ad l.length cap] w _
  have hlit : ∀ (x : Int), x ∈ l → ∀ wr, Below w.heap.size w wr → Calls Tryz.prog 139 #[.int .i64 x, .int .i64 4] wr fun e w' => e = .returned (.string ⟨⟨lt x⟩⟩) ∧ Below wr.heap.size wr w' := fun x hx wr hb => by
   have := str_call (cs := [[.int .i64 x], [.int .i64 4]]) (hlt x hx) (sane_none hs hb) ⟨rfl, by simp only [Rd], rfl, by simp only [Rd], trivial⟩ (by rw [hE]; exact enters_of Tryz.func139 (by kernel_rfl) rfl _ _)
   rw [hE] at this
   exact this
  go_enter Tryz.func275, Tryz.ntmps275
  go_wp2
  go_loopw [8] (fun i wr => ∃ k : Nat, k ≤ l.length ∧ i = .int .i64 k ∧ Lib.IsBuilder 298 5 w.heap.size w.heap.size (Lib.byteCells ((l.take k).flatMap lt)) wr ∧ Below w.heap.size w wr)
   (fun i _ => l.length - (RowKit.intOf i).toNat)
  case atStart => exact ⟨0, Nat.zero_le _, rfl, Lib.fresh_isBuilder 298 5 w, (Below.refl _ w).alloc (Nat.le_refl _) _⟩
  case round =>
   obtain ⟨k, hk, rfl, hI, hnx⟩ := hrel
   by_cases hp : k < l.length
   ·have hx : l[k]? = some l[k] := List.getElem?_eq_getElem hp
    obtain ⟨b, o, rfl, hb, hcl⟩ := hcell k _ hx
    have hcl' : wr.cell? ⟨b, o + k, none⟩ = some (.int .i64 l[k]) := by rw [hnx.cell (p := ⟨b, o + k, none⟩) hb]; exact hcl
    have hmem : l[k] ∈ l := List.getElem_mem hp
    have htk : (l.take (k + 1)).flatMap lt = (l.take k).flatMap lt ++ lt l[k] := by rw [List.take_add_one, hx, List.flatMap_append]; simp
    have hln : ((l.take (k + 1)).flatMap lt).length ≤ 1048576 := by
     have := List.take_append_drop (k + 1) l
     have h2 : (l.flatMap lt).length = ((l.take (k + 1)).flatMap lt).length + ((l.drop (k + 1)).flatMap lt).length := by rw [← List.length_append, ← List.flatMap_append, this]
     omega
    go_wp2_with (go_at_call 139; refine (hlit _ hmem wr hnx).mono ?_; rintro e W1 ⟨rfl, hb1⟩)
    have hI1 := isb_same hI hb1
    go_wp2_with (go_at_call 320; refine (Any.Builder_WriteString { Tryz.laysRep with } Tryz.extra w.heap.size w.heap.size _ ⟨⟨lt l[k]⟩⟩ W1 hI1 ?c1 (Nat.le_trans hnx.size hb1.size)).mono ?_)
    case c1 =>
     rw [htk, List.length_append] at hln
     show _ + (lt l[k]).length ≤ _
     simp only [Lib.byteCells, List.length_map]
     omega
    rintro e W2 ⟨rfl, hI2, hb2⟩
    rw [strCells_bc, bc_app, ← htk] at hI2
    go_wp2
    go_roundw
    case rel => exact ⟨k + 1, by omega, by go_num, .inr hI2, (hnx.trans (below_up hb1 hnx.size)).trans hb2⟩
    case measure => simp [RowKit.intOf]; omega
   ·have : l.take k = l := List.take_of_length_le (by omega)
    rw [this] at hI
    go_wp2_with (go_at_call 323; refine (Any.Builder_String_any { Tryz.laysRep with } Tryz.extra w.heap.size w.heap.size _ wr hI hnx.size).mono ?_)
    rintro e W2 ⟨rfl, hb2⟩
    go_wp2
    go_ret
    exact ret_str (t := l.flatMap lt) hs (hnx.trans hb2) (by simp [IoAt])
 | [], ha => simp [ArgsAt] at ha
 | _ :: _ :: _, ha => simp [ArgsAt] at ha
def xcat (x : List UInt8 → List UInt8 → List UInt8) (bl : Nat → List UInt8) (count : Nat) (t : List UInt8) : Nat → List UInt8
 | 0 => []
 | k + 1 => xcat x bl count t k ++ x ((t.drop (64 * k)).take 64) (bl (count + k))
set_option maxHeartbeats 6400000 in
set_option maxRecDepth 100000 in
theorem chaXor_fn {k1 k2 : List Nat} {m1 m2 : List (Nat × Nat)} (hE : E.P = Tryz.prog) (x : List UInt8 → List UInt8 → List UInt8) (bl : Nat → List UInt8) (key nonce t : List UInt8) (count : Nat) (ht : t.length ≤ 1048576) (hc : count ≤ 1000000)
  (hst : ∀ c : Nat, c ≤ 2000000 → FnOKc E ⟨[.ro .str, .ro .str, .ro (.int .i64)], 1, .pair .str .unit, .sh, k1, m1⟩ 322 [⟨.str, key⟩, ⟨.str, nonce⟩, ⟨.int .i64, (c : Int)⟩] (bl c, ()))
  (hx : ∀ (a : List UInt8) (c : Nat), c ≤ 2000000 → a.length ≤ 64 → FnOKc E ⟨[.ro .str, .ro .str], 1, .pair .str .unit, .sh, k2, m2⟩ 321 [⟨.str, a⟩, ⟨.str, bl c⟩] (x a (bl c), ()))
  (hxl : ∀ (a : List UInt8) (c : Nat), c ≤ 2000000 → a.length ≤ 64 → (x a (bl c)).length ≤ 64) :
  FnOKc E ⟨[.ro .str, .ro .str, .ro (.int .i64), .ro .str], 1, .pair .str .unit, .sh, keep', mv'⟩ 273 [⟨.str, key⟩, ⟨.str, nonce⟩, ⟨.int .i64, (count : Int)⟩, ⟨.str, t⟩] (xcat x bl count t ((t.length + 63) / 64), ()) := by
 intro w S β cs hs ha
 match cs, ha with
 | [c1, c2, c3, c4], ha =>
  simp only [ArgsAt] at ha
  obtain ⟨_, v1, _, v2, _, v3, _, v4, _⟩ := ha
  simp only [Rd] at v1 v2 v3 v4
  subst v1 v2 v3 v4
  rw [hE]
  refine .inl ⟨Tryz.f273, Tryz.func273, by kernel_rfl, by kernel_rfl, ?_⟩
  show Calls Tryz.prog 273 #[.string ⟨⟨key⟩⟩, .string ⟨⟨nonce⟩⟩, .int .i64 count, .string ⟨⟨t⟩⟩] w _
  have hs1 : ∀ (c : Nat), c ≤ 2000000 → ∀ wr, Below w.heap.size w wr → Calls Tryz.prog 322 #[.string ⟨⟨key⟩⟩, .string ⟨⟨nonce⟩⟩, .int .i64 c] wr fun e w' => e = .returned (.string ⟨⟨bl c⟩⟩) ∧ Below wr.heap.size wr w' := fun c hc wr hb => by
   have := str_call (cs := [[.string ⟨⟨key⟩⟩], [.string ⟨⟨nonce⟩⟩], [.int .i64 c]]) (hst c hc) (sane_none hs hb) ⟨rfl, by simp only [Rd], rfl, by simp only [Rd], rfl, by simp only [Rd], trivial⟩ (by rw [hE]; exact enters_of Tryz.func322 (by kernel_rfl) rfl _ _)
   rw [hE] at this
   exact this
  have hs2 : ∀ (a : List UInt8) (c : Nat), c ≤ 2000000 → a.length ≤ 64 → ∀ wr, Below w.heap.size w wr → Calls Tryz.prog 321 #[.string ⟨⟨a⟩⟩, .string ⟨⟨bl c⟩⟩] wr fun e w' => e = .returned (.string ⟨⟨x a (bl c)⟩⟩) ∧ Below wr.heap.size wr w' := fun a c hc hl wr hb => by
   have := str_call (cs := [[.string ⟨⟨a⟩⟩], [.string ⟨⟨bl c⟩⟩]]) (hx a c hc hl) (sane_none hs hb) ⟨rfl, by simp only [Rd], rfl, by simp only [Rd], trivial⟩ (by rw [hE]; exact enters_of Tryz.func321 (by kernel_rfl) rfl _ _)
   rw [hE] at this
   exact this
  have hxc : ∀ k, count + k ≤ 2000000 → (xcat x bl count t k).length ≤ 64 * k := fun k => by
   induction k with
   | zero => exact fun _ => Nat.le_refl _
   | succ k ih =>
    intro h
    have := hxl ((t.drop (64 * k)).take 64) (count + k) (by omega) (by rw [List.length_take]; omega)
    have := ih (by omega)
    rw [xcat, List.length_append]; omega
  go_enter Tryz.func273, Tryz.ntmps273
  go_wp2
  go_loopw [10] (fun i wr => ∃ k : Nat, k ≤ (t.length + 63) / 64 ∧ i = .int .i64 ((64 * k : Nat) : Int) ∧ Lib.IsBuilder 298 5 w.heap.size w.heap.size (Lib.byteCells (xcat x bl count t k)) wr ∧ Below w.heap.size w wr)
   (fun i _ => t.length + 64 - (RowKit.intOf i).toNat)
  case atStart => exact ⟨0, Nat.zero_le _, rfl, Lib.fresh_isBuilder 298 5 w, (Below.refl _ w).alloc (Nat.le_refl _) _⟩
  case round =>
   obtain ⟨k, hk, rfl, hI, hnx⟩ := hrel
   by_cases hp : 64 * k < t.length
   ·have hsl : (Instr.slice 9 (.string ⟨⟨t⟩⟩) (some (.int .i64 (64 * (k : Int)))) (some (.int .i64 (min (64 * (k : Int) + 64) (t.length : Int)))) none).run Tryz.prog wr = .ok (.string ⟨⟨(t.drop (64 * k)).take 64⟩⟩) wr := by
     have hz : (⟨⟨t⟩⟩ : ByteArray).size = t.length := rfl
     rw [run_slice_string wr 9 ⟨⟨t⟩⟩ .i64 .i64 (64 * (k : Int)) (min (64 * (k : Int) + 64) (t.length : Int)) (by kernel_rfl) (by omega) (by omega) (by rw [hz]; omega), show (64 * (k : Int)).toNat = 64 * k by omega]
     have he := ByteArray.extract_mk t (64 * k) (min (64 * (k : Int) + 64) (t.length : Int)).toNat
     have hm : ((t.drop (64 * k)).take ((min (64 * (k : Int) + 64) (t.length : Int)).toNat - 64 * k)) = (t.drop (64 * k)).take 64 := by
      rw [List.take_eq_take_min, List.take_eq_take_min (i := 64), List.length_drop]
      congr 1; omega
     rw [hm] at he
     exact congrArg (fun b => Result.ok (Value.string b) wr) he
    have hdl : ((t.drop (64 * k)).take 64).length ≤ 64 := by rw [List.length_take]; omega
    go_wp2_with (go_at_call 322; refine (hs1 (count + k) (by omega) wr hnx).mono ?_)
    rintro e W1 ⟨rfl, hb1⟩
    have hn1 : Below w.heap.size w W1 := hnx.trans (below_up hb1 hnx.size)
    go_wp2_with (go_at_call 321; refine (hs2 ((t.drop (64 * k)).take 64) (count + k) (by omega) hdl W1 hn1).mono ?_)
    rintro e W2 ⟨rfl, hb2⟩
    have hI2 := isb_same (isb_same hI hb1) hb2
    have hn2 : Below w.heap.size w W2 := hn1.trans (below_up hb2 hn1.size)
    go_wp2_with (go_at_call 320; refine (Any.Builder_WriteString { Tryz.laysRep with } Tryz.extra w.heap.size w.heap.size _ ⟨⟨x ((t.drop (64 * k)).take 64) (bl (count + k))⟩⟩ W2 hI2 ?c1 hn2.size).mono ?_)
    case c1 =>
     have := hxl ((t.drop (64 * k)).take 64) (count + k) (by omega) hdl
     have := hxc k (by omega)
     show _ + (x ((t.drop (64 * k)).take 64) (bl (count + k))).length ≤ _
     simp only [Lib.byteCells, List.length_map]
     omega
    rintro e W3 ⟨rfl, hI3, hb3⟩
    rw [strCells_bc, bc_app] at hI3
    go_wp2
    go_roundw
    case rel => exact ⟨k + 1, by omega, by go_num, .inr hI3, hn2.trans hb3⟩
    case measure => simp [RowKit.intOf]; omega
   ·have : k = (t.length + 63) / 64 := by omega
    subst this
    go_wp2_with (go_at_call 323; refine (Any.Builder_String_any { Tryz.laysRep with } Tryz.extra w.heap.size w.heap.size _ wr hI hnx.size).mono ?_)
    rintro e W2 ⟨rfl, hb2⟩
    go_wp2
    go_ret
    exact ret_str (t := xcat x bl count t ((t.length + 63) / 64)) hs (hnx.trans hb2) (by simp [IoAt])
 | [], ha | [_], ha | [_, _], ha | [_, _, _], ha => simp [ArgsAt] at ha
 | _ :: _ :: _ :: _ :: _ :: _, ha => simp [ArgsAt] at ha
end
end Go.Rf

end
