/- What the program computes, in plain words: part 5. No condition. -/
import Derived.Test.YtcikhcfofnlegaaGreatRfC
import Derived.Below
import Derived.Shelf.Strings.Repeat
import Derived.WalkKit
import Derived.BigCall
import Derived.Test.YtcikhcfofnlegaaGreatProg
import Derived.Shelf.LaysM
import Derived.Shelf.Lays
import Derived.KernelRfl
set_option linter.unusedVariables false
set_option linter.unusedSimpArgs false
section
namespace Go.Rf
set_option linter.unusedSectionVars false
variable [T : Laid]
theorem ofInt_cast (n a : Nat) : BitVec.ofInt n (a : Int) = BitVec.ofNat n a := by
 apply BitVec.eq_of_toNat_eq
 simp
theorem wrap_u32 (n : Int) : IntKind.wrap .u32 n = n % 4294967296 := by
 unfold IntKind.wrap
 simp [IntKind.signed, IntKind.bits]
theorem wrap_u8 (n : Int) : IntKind.wrap .u8 n = n % 256 := by
 unfold IntKind.wrap
 simp [IntKind.signed, IntKind.bits]
theorem wrap_u64 (n : Int) : IntKind.wrap .u64 n = n % 18446744073709551616 := by
 unfold IntKind.wrap
 simp [IntKind.signed, IntKind.bits]
theorem wrapN_u32 (n : Nat) : IntKind.wrap .u32 (n : Int) = ((n % 4294967296 : Nat) : Int) := by rw [wrap_u32]; omega
theorem wrapN_u8 (n : Nat) : IntKind.wrap .u8 (n : Int) = ((n % 256 : Nat) : Int) := by rw [wrap_u8]; omega
theorem wrapN_i64 {n : Nat} (h : n < 9223372036854775808) : IntKind.wrap .i64 (n : Int) = (n : Int) := wrap_id (by omega) (by omega)
def kmax : IntKind → Nat
 | .i8 => 128 | .i16 => 32768 | .i32 => 2147483648 | .i64 => 9223372036854775808
 | .u8 => 256 | .u16 => 65536 | .u32 => 4294967296 | .u64 => 18446744073709551616
theorem kmax_le (k : IntKind) : kmax k ≤ 2 ^ k.bits := by cases k <;> decide
theorem wrapN {k : IntKind} {n : Nat} (h : n < kmax k) : IntKind.wrap k (n : Int) = (n : Int) := by
 cases k <;> simp only [kmax] at h <;> (unfold IntKind.wrap; simp [IntKind.signed, IntKind.bits]) <;> omega
theorem pow_of (k : IntKind) : ∃ e, kmax k = 2 ^ e := by
 cases k
 ·exact ⟨7, rfl⟩
 ·exact ⟨15, rfl⟩
 ·exact ⟨31, rfl⟩
 ·exact ⟨63, rfl⟩
 ·exact ⟨8, rfl⟩
 ·exact ⟨16, rfl⟩
 ·exact ⟨32, rfl⟩
 ·exact ⟨64, rfl⟩
theorem bit_and {k : IntKind} {a b : Nat} (ha : a < kmax k) (hb : b < kmax k) : bitI .and k (a : Int) (b : Int) = ((a &&& b : Nat) : Int) := by
 have h := kmax_le k
 unfold bitI
 simp only [ofInt_cast, BitVec.toNat_and, BitVec.toNat_ofNat]
 rw [Nat.mod_eq_of_lt (by omega), Nat.mod_eq_of_lt (by omega), wrapN (Nat.lt_of_le_of_lt Nat.and_le_left ha)]
theorem bit_or {k : IntKind} {a b : Nat} (ha : a < kmax k) (hb : b < kmax k) : bitI .or k (a : Int) (b : Int) = ((a ||| b : Nat) : Int) := by
 have h := kmax_le k
 obtain ⟨e, he⟩ := pow_of k
 unfold bitI
 simp only [ofInt_cast, BitVec.toNat_or, BitVec.toNat_ofNat]
 rw [Nat.mod_eq_of_lt (by omega), Nat.mod_eq_of_lt (by omega), wrapN (by rw [he] at ha hb ⊢; exact Nat.or_lt_two_pow ha hb)]
theorem bit_xor {k : IntKind} {a b : Nat} (ha : a < kmax k) (hb : b < kmax k) : bitI .xor k (a : Int) (b : Int) = ((a ^^^ b : Nat) : Int) := by
 have h := kmax_le k
 obtain ⟨e, he⟩ := pow_of k
 unfold bitI
 simp only [ofInt_cast, BitVec.toNat_xor, BitVec.toNat_ofNat]
 rw [Nat.mod_eq_of_lt (by omega), Nat.mod_eq_of_lt (by omega), wrapN (by rw [he] at ha hb ⊢; exact Nat.xor_lt_two_pow ha hb)]
theorem fdivN (a n : Nat) : Int.fdiv (a : Int) (2 ^ n : Int) = ((a / 2 ^ n : Nat) : Int) := by
 have : (2 ^ n : Int) = ((2 ^ n : Nat) : Int) := by simp
 rw [this]; exact (Int.ofNat_fdiv a (2 ^ n)).symm
theorem mulpN (a n : Nat) : (a : Int) * (2 ^ n : Int) = ((a * 2 ^ n : Nat) : Int) := by simp
theorem and_m32 (a : Nat) : a &&& 4294967295 = a % 4294967296 := Nat.and_two_pow_sub_one_eq_mod a 32
theorem and_m26 (a : Nat) : a &&& 67108863 = a % 67108864 := Nat.and_two_pow_sub_one_eq_mod a 26
end Go.Rf

end
section
namespace Go.Rf
set_option linter.unusedSectionVars false
variable [T : Laid]
def loopN {α : Type} (f : Nat → α → α) : (n i : Nat) → α → α
 | 0, _, a => a
 | n + 1, i, a => loopN f n (i + 1) (f i a)
theorem gen_for {α γ : Type} (F : α → Int → Option γ) (f : Nat → α → α) (Inv : Nat → α → Prop) (n : Nat) (K : α → Option γ)
  (stop : ∀ a, Inv n a → F a (n : Nat) = K a) (step : ∀ a i, i < n → Inv i a → F a (i : Nat) = F (f i a) ((i + 1 : Nat) : Int) ∧ Inv (i + 1) (f i a)) :
  ∀ (m i : Nat) (a : α), n - i = m → i ≤ n → Inv i a → F a i = K (loopN f m i a) ∧ Inv n (loopN f m i a)
 | 0, i, a, hm, hi, ha => by
  have : i = n := by omega
  subst this
  exact ⟨stop a ha, ha⟩
 | m + 1, i, a, hm, hi, ha => by
  obtain ⟨h1, h2⟩ := step a i (by omega) ha
  obtain ⟨h3, h4⟩ := gen_for F f Inv n K stop step m (i + 1) (f i a) (by omega) (by omega) h2
  exact ⟨h1.trans h3, h4⟩
theorem gen_for0 {α γ : Type} (F : α → Int → Option γ) (f : Nat → α → α) (Inv : Nat → α → Prop) (n : Nat) (K : α → Option γ)
  (stop : ∀ a, Inv n a → F a (n : Nat) = K a) (step : ∀ a i, i < n → Inv i a → F a (i : Nat) = F (f i a) ((i + 1 : Nat) : Int) ∧ Inv (i + 1) (f i a)) (a : α) (ha : Inv 0 a) :
  F a 0 = K (loopN f n 0 a) ∧ Inv n (loopN f n 0 a) := gen_for F f Inv n K stop step n 0 a rfl (Nat.zero_le _) ha
def cl (l : List Nat) : List Int := List.map (fun (x : Nat) => (x : Int)) l
theorem cl_len (l : List Nat) : (cl l).length = l.length := by unfold cl; exact List.length_map _
theorem cl_getD (l : List Nat) (i : Nat) : (cl l).getD i (0 : Int) = ((l.getD i 0 : Nat) : Int) := by
 unfold cl
 rw [List.getD_eq_getElem?_getD, List.getD_eq_getElem?_getD, List.getElem?_map]
 cases l[i]? <;> rfl
theorem cl_set (l : List Nat) (i a : Nat) : (cl l).set i (a : Int) = cl (l.set i a) := by
 unfold cl
 rw [List.map_set]
def Bd (B : Nat) (l : List Nat) : Prop := ∀ x ∈ l, x < B
theorem Bd.get {B : Nat} {l : List Nat} (h : Bd B l) (hB : 0 < B) (i : Nat) : l.getD i 0 < B := by
 rw [List.getD_eq_getElem?_getD]
 cases e : l[i]? with
 | none => exact hB
 | some x => exact h x (List.mem_of_getElem? e)
theorem Bd.set {B : Nat} {l : List Nat} (h : Bd B l) {i a : Nat} (ha : a < B) : Bd B (l.set i a) := fun x hx => by
 rcases List.mem_or_eq_of_mem_set hx with hx | rfl
 ·exact h x hx
 ·exact ha
theorem Bd.rep {B n : Nat} (hB : 0 < B) : Bd B (List.replicate n 0) := fun x hx => by
 rw [(List.mem_replicate.1 hx).2]; exact hB
end Go.Rf

end
section
namespace Go.Rf
set_option linter.unusedSectionVars false
set_option linter.unusedVariables false
variable [T : Laid]
def PP : Nat := 1361129467683753853853498429727072845819
def val (a b c d e : Nat) : Nat := a + 67108864 * b + 4503599627370496 * c + 302231454903657293676544 * d + 20282409603651670423947251286016 * e
def car (a b c d e : Nat) : List Nat :=
  [a % 67108864 + 5 * ((e + (d + (c + (b + a / 67108864) / 67108864) / 67108864) / 67108864) / 67108864),
   (b + a / 67108864) % 67108864,
   (c + (b + a / 67108864) / 67108864) % 67108864,
   (d + (c + (b + a / 67108864) / 67108864) / 67108864) % 67108864,
   (e + (d + (c + (b + a / 67108864) / 67108864) / 67108864) / 67108864) % 67108864]
theorem car_val (a b c d e : Nat) : ∃ a' b' c' d' e' q, car a b c d e = [a', b', c', d', e'] ∧ val a' b' c' d' e' + q * PP = val a b c d e ∧
  b' < 67108864 ∧ c' < 67108864 ∧ d' < 67108864 ∧ e' < 67108864 ∧
  q = (e + (d + (c + (b + a / 67108864) / 67108864) / 67108864) / 67108864) / 67108864 ∧ a' = a % 67108864 + 5 * q := by
 refine ⟨_, _, _, _, _, (e + (d + (c + (b + a / 67108864) / 67108864) / 67108864) / 67108864) / 67108864, rfl, ?_, ?_, ?_, ?_, ?_, rfl, rfl⟩
 ·unfold val PP
  generalize h1 : b + a / 67108864 = b1
  generalize h2 : c + b1 / 67108864 = c1
  generalize h3 : d + c1 / 67108864 = d1
  generalize h4 : e + d1 / 67108864 = e1
  omega
 all_goals exact Nat.mod_lt _ (by decide)
theorem car3 (a b c d e : Nat) (ha : a < 288230376151711744) (hb : b < 288230376151711744) (hc : c < 288230376151711744) (hd : d < 288230376151711744) (he : e < 288230376151711744) :
  ∃ a1 b1 c1 d1 e1 a2 b2 c2 d2 e2 a3 b3 c3 d3 e3, car a b c d e = [a1, b1, c1, d1, e1] ∧ car a1 b1 c1 d1 e1 = [a2, b2, c2, d2, e2] ∧ car a2 b2 c2 d2 e2 = [a3, b3, c3, d3, e3] ∧
   val a3 b3 c3 d3 e3 % PP = val a b c d e % PP ∧ a3 < 67108864 ∧ b3 < 67108864 ∧ c3 < 67108864 ∧ d3 < 67108864 ∧ e3 < 67108864 ∧
   a1 < 1152921504606846976 ∧ b1 < 67108864 ∧ c1 < 67108864 ∧ d1 < 67108864 ∧ e1 < 67108864 ∧ a2 < 1152921504606846976 ∧ b2 < 67108864 ∧ c2 < 67108864 ∧ d2 < 67108864 ∧ e2 < 67108864 := by
 obtain ⟨a1, b1, c1, d1, e1, q1, h1, v1, hb1, hc1, hd1, he1, hq1, ha1⟩ := car_val a b c d e
 obtain ⟨a2, b2, c2, d2, e2, q2, h2, v2, hb2, hc2, hd2, he2, hq2, ha2⟩ := car_val a1 b1 c1 d1 e1
 obtain ⟨a3, b3, c3, d3, e3, q3, h3, v3, hb3, hc3, hd3, he3, hq3, ha3⟩ := car_val a2 b2 c2 d2 e2
 have hq1' : q1 < 8589934592 := by rw [hq1]; omega
 have ha1' : a1 < 67108864 + 5 * 8589934592 := by omega
 have hq2' : q2 ≤ 1 := by rw [hq2]; omega
 have ha2' : a2 < 67108864 + 5 := by omega
 have ha3' : a3 < 67108864 := by
  rcases Nat.lt_or_ge a2 67108864 with h | h
  ·have : q3 = 0 := by rw [hq3]; omega
   omega
  ·have : q3 ≤ 1 := by rw [hq3]; omega
   omega
 refine ⟨a1, b1, c1, d1, e1, a2, b2, c2, d2, e2, a3, b3, c3, d3, e3, h1, h2, h3, ?_, ha3', hb3, hc3, hd3, he3, by omega, hb1, hc1, hd1, he1, by omega, hb2, hc2, hd2, he2⟩
 rw [← v1, ← v2, ← v3]
 simp [Nat.add_mul_mod_self_right]
theorem car_id {a b c d e : Nat} (ha : a < 67108864) (hb : b < 67108864) (hc : c < 67108864) (hd : d < 67108864) (he : e < 67108864) : car a b c d e = [a, b, c, d, e] := by
 unfold car
 rw [show a / 67108864 = 0 by omega, Nat.add_zero, show b / 67108864 = 0 by omega, Nat.add_zero, show c / 67108864 = 0 by omega, Nat.add_zero, show d / 67108864 = 0 by omega, Nat.add_zero, show e / 67108864 = 0 by omega,
  Nat.mod_eq_of_lt ha, Nat.mod_eq_of_lt hb, Nat.mod_eq_of_lt hc, Nat.mod_eq_of_lt hd, Nat.mod_eq_of_lt he, Nat.mul_zero, Nat.add_zero]
theorem sc (α β x y : Nat) : (α * x) * (β * y) = (α * β) * (x * y) := Nat.mul_mul_mul_comm α x β y
theorem mul_val (x0 x1 x2 x3 x4 y0 y1 y2 y3 y4 : Nat) : ∃ q, val x0 x1 x2 x3 x4 * val y0 y1 y2 y3 y4 =
  val (x0 * y0 + 5 * (x1 * y4) + 5 * (x2 * y3) + 5 * (x3 * y2) + 5 * (x4 * y1)) (x0 * y1 + x1 * y0 + 5 * (x2 * y4) + 5 * (x3 * y3) + 5 * (x4 * y2))
   (x0 * y2 + x1 * y1 + x2 * y0 + 5 * (x3 * y4) + 5 * (x4 * y3)) (x0 * y3 + x1 * y2 + x2 * y1 + x3 * y0 + 5 * (x4 * y4)) (x0 * y4 + x1 * y3 + x2 * y2 + x3 * y1 + x4 * y0) + q * PP := by
 refine ⟨(x1 * y4 + x2 * y3 + x3 * y2 + x4 * y1) + 67108864 * (x2 * y4 + x3 * y3 + x4 * y2) + 4503599627370496 * (x3 * y4 + x4 * y3) + 302231454903657293676544 * (x4 * y4), ?_⟩
 unfold val PP
 have e : (x0 + 67108864 * x1 + 4503599627370496 * x2 + 302231454903657293676544 * x3 + 20282409603651670423947251286016 * x4) * (y0 + 67108864 * y1 + 4503599627370496 * y2 + 302231454903657293676544 * y3 + 20282409603651670423947251286016 * y4) =
   (x0 * y0) + 67108864 * (x0 * y1) + 4503599627370496 * (x0 * y2) + 302231454903657293676544 * (x0 * y3) + 20282409603651670423947251286016 * (x0 * y4)
   + (67108864 * (x1 * y0) + (67108864 * 67108864) * (x1 * y1) + (67108864 * 4503599627370496) * (x1 * y2) + (67108864 * 302231454903657293676544) * (x1 * y3) + (67108864 * 20282409603651670423947251286016) * (x1 * y4))
   + (4503599627370496 * (x2 * y0) + (4503599627370496 * 67108864) * (x2 * y1) + (4503599627370496 * 4503599627370496) * (x2 * y2) + (4503599627370496 * 302231454903657293676544) * (x2 * y3) + (4503599627370496 * 20282409603651670423947251286016) * (x2 * y4))
   + (302231454903657293676544 * (x3 * y0) + (302231454903657293676544 * 67108864) * (x3 * y1) + (302231454903657293676544 * 4503599627370496) * (x3 * y2) + (302231454903657293676544 * 302231454903657293676544) * (x3 * y3) + (302231454903657293676544 * 20282409603651670423947251286016) * (x3 * y4))
   + (20282409603651670423947251286016 * (x4 * y0) + (20282409603651670423947251286016 * 67108864) * (x4 * y1) + (20282409603651670423947251286016 * 4503599627370496) * (x4 * y2) + (20282409603651670423947251286016 * 302231454903657293676544) * (x4 * y3) + (20282409603651670423947251286016 * 20282409603651670423947251286016) * (x4 * y4)) := by
  rw [Nat.add_mul, Nat.add_mul, Nat.add_mul, Nat.add_mul]
  congr 1
  ·congr 1
   ·congr 1
    ·congr 1
     ·rw [Nat.mul_add, Nat.mul_add, Nat.mul_add, Nat.mul_add, Nat.mul_left_comm x0, Nat.mul_left_comm x0, Nat.mul_left_comm x0, Nat.mul_left_comm x0]
     ·rw [Nat.mul_add, Nat.mul_add, Nat.mul_add, Nat.mul_add, sc _ _ x1 y1, sc _ _ x1 y2, sc _ _ x1 y3, sc _ _ x1 y4, Nat.mul_assoc _ x1 y0]
    ·rw [Nat.mul_add, Nat.mul_add, Nat.mul_add, Nat.mul_add, sc _ _ x2 y1, sc _ _ x2 y2, sc _ _ x2 y3, sc _ _ x2 y4, Nat.mul_assoc _ x2 y0]
   ·rw [Nat.mul_add, Nat.mul_add, Nat.mul_add, Nat.mul_add, sc _ _ x3 y1, sc _ _ x3 y2, sc _ _ x3 y3, sc _ _ x3 y4, Nat.mul_assoc _ x3 y0]
  ·rw [Nat.mul_add, Nat.mul_add, Nat.mul_add, Nat.mul_add, sc _ _ x4 y1, sc _ _ x4 y2, sc _ _ x4 y3, sc _ _ x4 y4, Nat.mul_assoc _ x4 y0]
 rw [e]
 generalize x0 * y0 = p00; generalize x0 * y1 = p01; generalize x0 * y2 = p02; generalize x0 * y3 = p03; generalize x0 * y4 = p04
 generalize x1 * y0 = p10; generalize x1 * y1 = p11; generalize x1 * y2 = p12; generalize x1 * y3 = p13; generalize x1 * y4 = p14
 generalize x2 * y0 = p20; generalize x2 * y1 = p21; generalize x2 * y2 = p22; generalize x2 * y3 = p23; generalize x2 * y4 = p24
 generalize x3 * y0 = p30; generalize x3 * y1 = p31; generalize x3 * y2 = p32; generalize x3 * y3 = p33; generalize x3 * y4 = p34
 generalize x4 * y0 = p40; generalize x4 * y1 = p41; generalize x4 * y2 = p42; generalize x4 * y3 = p43; generalize x4 * y4 = p44
 clear e
 omega
def leV : List UInt8 → Nat
 | [] => 0
 | c :: cs => c.toNat + 256 * leV cs
theorem leV_lt : ∀ (l : List UInt8), leV l < 256 ^ l.length
 | [] => by simp [leV]
 | c :: cs => by
  have := leV_lt cs
  have hc := c.toNat_lt
  simp only [leV, List.length_cons, Nat.pow_succ]
  omega
theorem leV_append : ∀ (a b : List UInt8), leV (a ++ b) = leV a + 256 ^ a.length * leV b
 | [], b => by simp [leV]
 | c :: cs, b => by
  simp only [List.cons_append, leV, leV_append cs b, List.length_cons, Nat.pow_succ, Nat.mul_add]
  rw [show 256 ^ cs.length * 256 * leV b = 256 * (256 ^ cs.length * leV b) by rw [Nat.mul_comm (256 ^ cs.length) 256, Nat.mul_assoc]]
  omega
theorem leV_zeros : ∀ (n : Nat), leV (List.replicate n 0) = 0
 | 0 => rfl
 | n + 1 => by simp [List.replicate_succ, leV, leV_zeros n]
def L5 (n : Nat) : List Nat := [n % 67108864, n / 67108864 % 67108864, n / 4503599627370496 % 67108864, n / 302231454903657293676544 % 67108864, n / 20282409603651670423947251286016 % 67108864]
theorem L5_val {n : Nat} (h : n < 1361129467683753853853498429727072845824) : val (n % 67108864) (n / 67108864 % 67108864) (n / 4503599627370496 % 67108864) (n / 302231454903657293676544 % 67108864) (n / 20282409603651670423947251286016 % 67108864) = n := by
 unfold val; omega
theorem L5_of {a b c d e : Nat} (ha : a < 67108864) (hb : b < 67108864) (hc : c < 67108864) (hd : d < 67108864) (he : e < 67108864) : L5 (val a b c d e) = [a, b, c, d, e] := by
 unfold L5 val
 congr 1
 ·omega
 ·congr 1
  ·omega
  ·congr 1
   ·omega
   ·congr 1
    ·omega
    ·congr 1; omega
theorem val_lt {a b c d e : Nat} (ha : a < 67108864) (hb : b < 67108864) (hc : c < 67108864) (hd : d < 67108864) (he : e < 67108864) : val a b c d e < 1361129467683753853853498429727072845824 := by
 unfold val; omega
theorem red_eq {x y : Nat} (hx : x < 1361129467683753853853498429727072845824) (hy : y < 1361129467683753853853498429727072845824) (h : x % PP = y % PP) : (if PP ≤ x then x - PP else x) = (if PP ≤ y then y - PP else y) := by
 have e : ∀ z, z < 1361129467683753853853498429727072845824 → (if PP ≤ z then z - PP else z) = z % PP := fun z hz => by
  unfold PP at *
  split <;> omega
 rw [e x hx, e y hy, h]
end Go.Rf

end
section
namespace Go.Rf
set_option linter.unusedSectionVars false
set_option linter.unusedVariables false
variable [T : Laid]
theorem or_m32 (a b : Nat) : (a ||| b) % 4294967296 = (a % 4294967296) ||| (b % 4294967296) := Nat.or_mod_two_pow (n := 32)
theorem lt32_or {a b : Nat} (ha : a < 4294967296) (hb : b < 4294967296) : a ||| b < 4294967296 := Nat.or_lt_two_pow (n := 32) ha hb
theorem lt32_xor {a b : Nat} (ha : a < 4294967296) (hb : b < 4294967296) : a ^^^ b < 4294967296 := Nat.xor_lt_two_pow (n := 32) ha hb
theorem lt32_and {a b : Nat} (ha : a < 4294967296) : a &&& b < 4294967296 := Nat.lt_of_le_of_lt Nat.and_le_left ha
theorem lt32_mod (a : Nat) : a % 4294967296 < 4294967296 := Nat.mod_lt _ (by decide)
theorem lt32_div {a : Nat} (n : Nat) (ha : a < 4294967296) : a / n < 4294967296 := Nat.lt_of_le_of_lt (Nat.div_le_self _ _) ha
def rl (s x : Nat) : Nat := (x * 2 ^ s % 4294967296) ||| (x / 2 ^ (32 - s))
theorem rl_lt {s x : Nat} (hx : x < 4294967296) : rl s x < 4294967296 := lt32_or (lt32_mod _) (lt32_div _ hx)
def rr (n x : Nat) : Nat := rl (32 - n) x
theorem rr_lt {s x : Nat} (hx : x < 4294967296) : rr s x < 4294967296 := rl_lt hx
theorem rr_spec {n x : Nat} (hn : n ≤ 32) (hx : x < 4294967296) : (x / 2 ^ n ||| x * 2 ^ (32 - n)) % 4294967296 = rr n x := by
 rw [or_m32, Nat.mod_eq_of_lt (lt32_div _ hx), Nat.or_comm]
 unfold rr rl
 rw [show 32 - (32 - n) = n by omega]
theorem rl_spec {n x : Nat} (hx : x < 4294967296) : (x * 2 ^ n ||| x / 2 ^ (32 - n)) % 4294967296 = rl n x := by
 rw [or_m32, Nat.mod_eq_of_lt (lt32_div _ hx)]; rfl
def g0 (x : Nat) : Nat := rr 7 x ^^^ rr 18 x ^^^ x / 2 ^ 3
def g1 (x : Nat) : Nat := rr 17 x ^^^ rr 19 x ^^^ x / 2 ^ 10
def S1 (e : Nat) : Nat := rr 6 e ^^^ rr 11 e ^^^ rr 25 e
def S0 (a : Nat) : Nat := rr 2 a ^^^ rr 13 a ^^^ rr 22 a
def ch (e f g : Nat) : Nat := (e &&& f) ^^^ ((4294967295 ^^^ e) &&& g)
def mj (a b c : Nat) : Nat := (a &&& b) ^^^ (a &&& c) ^^^ (b &&& c)
theorem g0_lt {x : Nat} (h : x < 4294967296) : g0 x < 4294967296 := lt32_xor (lt32_xor (rr_lt h) (rr_lt h)) (lt32_div _ h)
theorem g1_lt {x : Nat} (h : x < 4294967296) : g1 x < 4294967296 := lt32_xor (lt32_xor (rr_lt h) (rr_lt h)) (lt32_div _ h)
theorem S1_lt {x : Nat} (h : x < 4294967296) : S1 x < 4294967296 := lt32_xor (lt32_xor (rr_lt h) (rr_lt h)) (rr_lt h)
theorem S0_lt {x : Nat} (h : x < 4294967296) : S0 x < 4294967296 := lt32_xor (lt32_xor (rr_lt h) (rr_lt h)) (rr_lt h)
theorem ch_lt {e f g : Nat} (he : e < 4294967296) : ch e f g < 4294967296 := lt32_xor (lt32_and he) (lt32_and (lt32_xor (by decide) he))
theorem mj_lt {a b c : Nat} (ha : a < 4294967296) (hb : b < 4294967296) : mj a b c < 4294967296 := lt32_xor (lt32_xor (lt32_and ha) (lt32_and ha)) (lt32_and hb)
def bt (t : List UInt8) (i : Nat) : Nat := (t.getD i 0).toNat
theorem bt_lt (t : List UInt8) (i : Nat) : bt t i < 256 := UInt8.toNat_lt _
def wBE (t : List UInt8) (i : Nat) : Nat := bt t i * 2 ^ 24 ||| bt t (i + 1) * 2 ^ 16 ||| bt t (i + 2) * 2 ^ 8 ||| bt t (i + 3)
def wLE (t : List UInt8) (i : Nat) : Nat := bt t i ||| bt t (i + 1) * 2 ^ 8 ||| bt t (i + 2) * 2 ^ 16 ||| bt t (i + 3) * 2 ^ 24
theorem wBE_lt (t : List UInt8) (i : Nat) : wBE t i < 4294967296 := by
 have h0 := bt_lt t i; have h1 := bt_lt t (i + 1); have h2 := bt_lt t (i + 2); have h3 := bt_lt t (i + 3)
 exact lt32_or (lt32_or (lt32_or (by omega) (by omega)) (by omega)) (by omega)
theorem wLE_lt (t : List UInt8) (i : Nat) : wLE t i < 4294967296 := by
 have h0 := bt_lt t i; have h1 := bt_lt t (i + 1); have h2 := bt_lt t (i + 2); have h3 := bt_lt t (i + 3)
 exact lt32_or (lt32_or (lt32_or (by omega) (by omega)) (by omega)) (by omega)
def stA (t : List UInt8) (i : Nat) (w : List Nat) : List Nat := w.set i (wBE t (4 * i))
def stB (i : Nat) (w : List Nat) : List Nat := w.set (i + 16) ((w.getD i 0 + g0 (w.getD (i + 1) 0) + w.getD (i + 9) 0 + g1 (w.getD (i + 14) 0)) % 4294967296)
def stC (k w : List Nat) (i : Nat) (v : List Nat) : List Nat :=
 let x := v.getD 7 0 + S1 (v.getD 4 0) + ch (v.getD 4 0) (v.getD 5 0) (v.getD 6 0) + k.getD i 0 + w.getD i 0
 [(x + S0 (v.getD 0 0) + mj (v.getD 0 0) (v.getD 1 0) (v.getD 2 0)) % 4294967296, v.getD 0 0, v.getD 1 0, v.getD 2 0, (v.getD 3 0 + x) % 4294967296, v.getD 4 0, v.getD 5 0, v.getD 6 0]
def stD (v : List Nat) (i : Nat) (h : List Nat) : List Nat := h.set i ((h.getD i 0 + v.getD i 0) % 4294967296)
def shaW (t : List UInt8) : List Nat := loopN stB 48 0 (loopN (stA t) 16 0 (List.replicate 64 0))
def shaB (k h : List Nat) (t : List UInt8) : List Nat := loopN (stD (loopN (stC k (shaW t)) 64 0 h)) 8 0 h
def shaM (k : List Nat) : Nat → List Nat → List UInt8 → List Nat × List UInt8
 | 0, h, t => (h, t)
 | n + 1, h, t => if 64 ≤ t.length then shaM k n (shaB k h t) (t.drop 64) else (h, t)
def qr (a b c d : Nat) : Nat × Nat × Nat × Nat :=
 let a1 := (a + b) % 4294967296
 let d1 := rl 16 (d ^^^ a1)
 let c1 := (c + d1) % 4294967296
 let b1 := rl 12 (b ^^^ c1)
 let a2 := (a1 + b1) % 4294967296
 let d2 := rl 8 (d1 ^^^ a2)
 let c2 := (c1 + d2) % 4294967296
 let b2 := rl 7 (b1 ^^^ c2)
 (a2, b2, c2, d2)
theorem qr_lt {a b c d : Nat} (hb : b < 4294967296) (hd : d < 4294967296) : (qr a b c d).1 < 4294967296 ∧ (qr a b c d).2.1 < 4294967296 ∧ (qr a b c d).2.2.1 < 4294967296 ∧ (qr a b c d).2.2.2 < 4294967296 := by
 refine ⟨lt32_mod _, rl_lt (lt32_xor (rl_lt (lt32_xor hb (lt32_mod _))) (lt32_mod _)), lt32_mod _, rl_lt (lt32_xor (rl_lt (lt32_xor hd (lt32_mod _))) (lt32_mod _))⟩
def qs (a b c d : Nat) (y : List Nat) : List Nat :=
 let q := qr (y.getD a 0) (y.getD b 0) (y.getD c 0) (y.getD d 0)
 (((y.set a q.1).set b q.2.1).set c q.2.2.1).set d q.2.2.2
def dr (y : List Nat) : List Nat :=
 qs 3 4 9 14 (qs 2 7 8 13 (qs 1 6 11 12 (qs 0 5 10 15 (qs 3 7 11 15 (qs 2 6 10 14 (qs 1 5 9 13 (qs 0 4 8 12 y)))))))
theorem qs_Bd {a b c d : Nat} {y : List Nat} (h : Bd 4294967296 y) : Bd 4294967296 (qs a b c d y) := by
 have := qr_lt (a := y.getD a 0) (c := y.getD c 0) (h.get (by decide) b) (h.get (by decide) d)
 exact (((h.set this.1).set this.2.1).set this.2.2.1).set this.2.2.2
theorem qs_len {a b c d : Nat} {y : List Nat} : (qs a b c d y).length = y.length := by simp [qs]
def xorL : List UInt8 → List UInt8 → List UInt8
 | a :: xs, b :: ys => (a ^^^ b) :: xorL xs ys
 | _, _ => []
end Go.Rf

end
section
namespace Go.Rf.S
def ub (l : List Nat) : List UInt8 := List.map UInt8.ofNat l
def stL (v i : Nat) (o : List Nat) : List Nat := o ++ [v / 2 ^ (8 * i) % 256]
def lit (v n : Nat) : List Nat := loopN (stL v) n 0 []
def exC : List UInt8 := [101, 120, 112, 97, 110, 100, 32, 51, 50, 45, 98, 121, 116, 101, 32, 107]
def chI (key nonce : List UInt8) (count : Nat) : List Nat :=
 [wLE exC 0, wLE exC 4, wLE exC 8, wLE exC 12, wLE key 0, wLE key 4, wLE key 8, wLE key 12, wLE key 16, wLE key 20, wLE key 24, wLE key 28, count, wLE nonce 0, wLE nonce 4, wLE nonce 8]
def rk (k : Nat) (y : List Nat) : List Nat := loopN (fun i y => qs i (4 + (i + k) % 4) (8 + (i + 2 * k) % 4) (12 + (i + 3 * k) % 4) y) 4 0 y
def r10 (y : List Nat) : List Nat := loopN (fun _ y => rk 1 (rk 0 y)) 10 0 y
def stF (x y : List Nat) (i : Nat) (o : List Nat) : List Nat := o ++ lit ((y.getD i 0 + x.getD i 0) % 4294967296) 4
def chO (x : List Nat) : List Nat := loopN (stF x (r10 x)) 16 0 []
def chB (key nonce : List UInt8) (count : Nat) : List UInt8 := ub (chO (chI key nonce count))
def chX (key nonce : List UInt8) : Nat → Nat → List UInt8 → List UInt8
 | 0, _, _ => []
 | n + 1, count, t => if t = [] then [] else xorL (t.take 64) (chB key nonce count) ++ chX key nonce n (count + 1) (t.drop 64)
end Go.Rf.S

end
section
namespace Go.Rf
set_option linter.unusedSectionVars false
variable [T : Laid]
theorem dT {p : Prop} [Decidable p] (h : p) : decide p = true := decide_eq_true h
theorem dF {p : Prop} [Decidable p] (h : ¬ p) : decide p = false := decide_eq_false h
theorem st : (∀ i : Nat, nonneg (i : Int) = true) ∧ (∀ i : Int, 0 ≤ i → nonneg i = true) ∧ (∀ i : Nat, Int.toNat (i : Int) = i) ∧ (∀ i n : Nat, i < n → Nat.blt i n = true) ∧ (∀ i n : Nat, i ≤ n → Nat.ble i n = true)
    ∧ (∀ n : Nat, n ≤ 1099511627776 → lenOK n = true) ∧ (∀ n : Int, -9223372036854775808 ≤ n → n ≤ 9223372036854775807 → IntKind.wrap .i64 n = n)
    ∧ (∀ (α : Type) (a b : α), cond true a b = a) ∧ (∀ (α : Type) (a b : α), cond false a b = b) ∧ (∀ (α β : Type) (a : α) (f : α → Option β), (some a).bind f = f a)
    ∧ (∀ (α : Type) (a : α), [a].length = 1) ∧ (∀ (α : Type) (a b : List α), (a ++ b).length = a.length + b.length) ∧ (∀ a b : Int, a = b → eqI a b = true) ∧ (∀ a b : Int, a ≠ b → eqI a b = false) :=
  ⟨nn, fun i h => by simp [nonneg]; omega, tn, fun i n h => blt_t h, fun i n h => by simpa [Nat.ble_eq] using h, fun n h => lenOK_t h, fun n h1 h2 => wrap_id h1 h2,
   fun _ _ _ => rfl, fun _ _ _ => rfl, fun _ _ _ _ => rfl, fun _ _ => rfl, fun _ _ _ => List.length_append, fun a b h => by rw [eqI_iff]; exact decide_eq_true h, fun a b h => by rw [eqI_iff]; exact decide_eq_false h⟩
theorem gen_flat {α β γ : Type} (F : List β → Int → Option γ) (v : List α) (d : α) (g : α → List β) (K : List β → Option γ) (o0 : List β) (c : Nat) (hc : ∀ x ∈ v, (g x).length ≤ c)
  (stop : ∀ o, o.length ≤ o0.length + v.length * c → F o (v.length : Nat) = K o)
  (step : ∀ o (i : Nat), i < v.length → o.length ≤ o0.length + i * c → v.getD i d ∈ v → F o (i : Nat) = F (o ++ g (v.getD i d)) ((i + 1 : Nat) : Int)) : F o0 0 = K (o0 ++ v.flatMap g) := by
 have h : ∀ (n i : Nat) (o : List β), v.length - i = n → i ≤ v.length → o.length ≤ o0.length + i * c → F o (i : Nat) = K (o ++ (v.drop i).flatMap g) := by
  intro n
  induction n with
  | zero =>
   intro i o hn hi ho
   have : i = v.length := by omega
   subst this
   rw [List.drop_length, stop o ho]; simp
  | succ n ih =>
   intro i o hn hi ho
   have hm : v.getD i d ∈ v := getD_mem (by omega)
   have := hc _ hm
   rw [step o i (by omega) ho hm, ih (i + 1) _ (by omega) (by omega) (by rw [List.length_append, Nat.add_mul]; omega), drop_getD (d := d) (show i < v.length by omega), List.flatMap_cons, List.append_assoc]
 have := h v.length 0 o0 rfl (Nat.zero_le _) (by omega)
 simpa using this
end Go.Rf

end
section
namespace Go.Rf
set_option linter.unusedSectionVars false
variable [T : Laid]
open Go.RowKit
set_option linter.unusedVariables false
set_option linter.unusedSimpArgs false
def FnOKc (E : Env) (c : FCfg) (f : FuncId) (ds : List Dyn) (x : c.rt.D) : Prop :=
 ∀ (w : World) (S : Nat → Prop) (β : Key → Option Nat) (cs : List (List Value)), Sane w S β → ArgsAt S β w c.modes ds cs 0 → CallRes E.P f (argVals ds cs).toArray w (Ret c x cs w S β)
def slOf (τ : Ty) (d : Dyn) : Option (List τ.D) := castD d.t (.sl τ) d.x
def i64Of (d : Dyn) : Option Int := castD d.t (.int .i64) d.x
theorem i64Of_some {d : Dyn} {n : Int} (h : i64Of d = some n) : d = ⟨.int .i64, n⟩ := by
 obtain ⟨t, x⟩ := d
 obtain ⟨e, h⟩ := castD_some h
 cases e; cases h; rfl
section
variable {E : Env} {w w' : World} {S : Nat → Prop} {β : Key → Option Nat} {keep : List Nat} {mv : List (Nat × Nat)} {ms : List Mode} {ax : List (List Value)}
theorem below_step (hs : Sane w S β) (h : Below w.heap.size w w') : Sane w' S β ∧ Step w S β w' S β :=
 ⟨⟨hs.inj, hs.sep, fun k b hk => Nat.lt_of_lt_of_le (hs.live k b hk) h.size, fun b hb => Nat.lt_of_lt_of_le (hs.liveS b hb) h.size, hs.tabs fun b hb => ⟨hb, h.block b (hs.liveS b hb)⟩⟩,
  ⟨h.size, fun b hb _ => h.block b hb, fun k b hk => .inl ⟨k, hk⟩, fun _ h => h, fun _ h => .inl h, ⟨h.os, h.tape, h.output⟩⟩⟩
theorem ret_str (hs : Sane w S β) (h : Below w.heap.size w w') {t : List UInt8} (hio : IoAt S β w' ms ax 0 .unit ()) :
  Ret ⟨ms, 1, .pair .str .unit, .sh, keep, mv⟩ (t, ()) ax w S β (.string ⟨⟨t⟩⟩) w' := by
 obtain ⟨h1, h2⟩ := below_step hs h
 refine ⟨S, β, [[.string ⟨⟨t⟩⟩]], h1, h2, ?_, rfl, hio⟩
 simp only [ResAt]
 refine ⟨?_, trivial⟩
 refine VRel_sh.2 ?_
 simp [Rd]
def strOf (d : Dyn) : Option (List UInt8) := castD d.t .str d.x
theorem strOf_some {d : Dyn} {s : List UInt8} (h : strOf d = some s) : d = ⟨.str, s⟩ := by
 obtain ⟨t, x⟩ := d
 obtain ⟨e, h⟩ := castD_some h
 cases e; cases h; rfl
end
end Go.Rf

end
section
namespace Go.Rf
set_option linter.unusedSectionVars false
variable [T : Laid]
open Go.Shelf Go.RowKit Go.Lib Go.Proofs
set_option linter.unusedVariables false
set_option linter.unusedSimpArgs false
section
variable {E : Env} {ρ : Ren} {w w' : World} {S : Nat → Prop} {β : Key → Option Nat} {keep : List Nat} {mv : List (Nat × Nat)} {ms : List Mode} {ax : List (List Value)}
def repH : List Dyn → Option (Ty.pair .str .unit).D
 | [a, b] => (strOf a).bind fun s => (i64Of b).bind fun n => cond (decide (0 ≤ n) && (Nat.blt 0 s.length && Nat.ble (s.length * n.toNat) 1099511627776)) (some (repeatL s n.toNat, ())) none
 | _ => none
theorem repH_some {ds : List Dyn} {x : (Ty.pair .str .unit).D} (h : repH ds = some x) : ∃ (s : List UInt8) (n : Nat), ds = [⟨.str, s⟩, ⟨.int .i64, (n : Int)⟩] ∧ 0 < s.length ∧ s.length * n ≤ 1099511627776 ∧ x = (repeatL s n, ()) := by
 unfold repH at h
 split at h
 ·rename_i a b
  obtain ⟨s, h1, h⟩ := Option.bind_eq_some_iff.1 h
  obtain ⟨n, h2, h⟩ := Option.bind_eq_some_iff.1 h
  rw [strOf_some h1, i64Of_some h2]
  cases hb : (decide (0 ≤ n) && (Nat.blt 0 s.length && Nat.ble (s.length * n.toNat) 1099511627776)) with
  | false => rw [hb] at h; cases h
  | true =>
   rw [hb] at h
   simp only [Bool.and_eq_true, decide_eq_true_eq, Nat.ble_eq, Nat.blt_eq] at hb
   exact ⟨s, n.toNat, by rw [Int.toNat_of_nonneg hb.1], hb.2.1, hb.2.2, (Option.some.inj h).symm⟩
 ·cases h
theorem repeat_fn {f : FuncId} {fn : Func} (L : Lays.n105 E.P ρ) (X : Builder.Extra E.P ρ) (hf : ρ.f 105 = f) (hfn : E.P.funcs[f]? = some fn) (hnm : (fn.name == "runtime.NumGoroutine") = false) (hbd : fn.body.isNone = false)
  (s : List UInt8) (n : Nat) (h1 : 0 < s.length) (h2 : s.length * n ≤ 1099511627776) :
  FnOKc E ⟨[.ro .str, .ro (.int .i64)], 1, .pair .str .unit, .sh, keep, mv⟩ f [⟨.str, s⟩, ⟨.int .i64, (n : Int)⟩] (repeatL s n, ()) := by
 intro w S β cs hs ha
 match cs, ha with
 | [c1, c2], ha =>
  simp only [ArgsAt] at ha
  obtain ⟨_, hv, _, hv2, _⟩ := ha
  simp only [Rd] at hv hv2
  subst hv hv2
  refine .inl ⟨fn, hfn, hnm, hbd, ?_⟩
  have hn : n ≤ 1099511627776 := by
   have : 1 * n ≤ s.length * n := Nat.mul_le_mul_right _ h1
   omega
  by_cases h0 : n = 0
  ·subst h0
   have hcall := Any.strings_Repeat_zero L ⟨⟨s⟩⟩ w
   rw [hf] at hcall
   refine hcall.mono ?_
   rintro e w' ⟨rfl, rfl⟩
   have e0 : repeatL s 0 = [] := by simp [repeatL]
   rw [e0]
   exact ret_str (t := []) hs (Below.refl _ _) (by simp [IoAt])
  ·by_cases h1' : n = 1
   ·subst h1'
    have hcall := Any.strings_Repeat_one L ⟨⟨s⟩⟩ w
    rw [hf] at hcall
    refine hcall.mono ?_
    rintro e w' ⟨rfl, rfl⟩
    have e0 : repeatL s 1 = s := by simp [repeatL]
    rw [e0]
    exact ret_str (t := s) hs (Below.refl _ _) (by simp [IoAt])
   ·have hcall := Any.strings_Repeat_main L X ⟨⟨s⟩⟩ n w (by omega) (by omega) (Nat.le_trans h2 (by decide)) h1
    rw [hf] at hcall
    refine hcall.mono ?_
    rintro e w' ⟨rfl, hw⟩
    exact ret_str (t := repeatL s n) hs hw (by simp [IoAt])
 | [], ha | [_], ha => simp [ArgsAt] at ha
 | _ :: _ :: _ :: _, ha => simp [ArgsAt] at ha
noncomputable def okH (E : Env) (f : FuncId) (h : List Dyn → Option (E.cfg f).rt.D) : List Dyn → Option (E.cfg f).rt.D := fun ds =>
 (h ds).bind fun x => @ite _ (FnOK E f ds x) (Classical.propDecidable _) (some x) none
theorem okH_ok {f : FuncId} {h : List Dyn → Option (E.cfg f).rt.D} {ds : List Dyn} {x : (E.cfg f).rt.D} (e : okH E f h ds = some x) : FnOK E f ds x := by
 unfold okH at e
 obtain ⟨y, h1, h2⟩ := Option.bind_eq_some_iff.1 e
 split at h2
 ·rename_i hk
  cases h2; exact hk
 ·cases h2
theorem okH_eq {f : FuncId} {h : List Dyn → Option (E.cfg f).rt.D} {ds : List Dyn} {x : (E.cfg f).rt.D} (e : h ds = some x) (hk : FnOK E f ds x) : okH E f h ds = some x := by
 unfold okH
 rw [e]
 exact if_pos hk
end
end Go.Rf

end
section
namespace Go.Rf
set_option linter.unusedSectionVars false
variable [T : Laid]
open Go.Shelf Go.RowKit Go.Lib Go.Proofs
set_option linter.unusedVariables false
set_option linter.unusedSimpArgs false
section
variable {E : Env} {w w' : World} {S : Nat → Prop} {β : Key → Option Nat} {keep : List Nat} {mv : List (Nat × Nat)} {ms : List Mode}
theorem sane_none (hs : Sane w S β) (h : Below w.heap.size w w') : Sane w' S (fun _ => none) :=
 ⟨fun _ _ _ h => (by cases h), fun _ _ h => (by cases h), fun _ _ h => (by cases h), fun b hb => Nat.lt_of_lt_of_le (hs.liveS b hb) h.size, hs.tabs fun b hb => ⟨hb, h.block b (hs.liveS b hb)⟩⟩
theorem str_call {f : FuncId} {ds : List Dyn} {t : List UInt8} (h : FnOKc E ⟨ms, 1, .pair .str .unit, .sh, keep, mv⟩ f ds (t, ())) {cs : List (List Value)} (hs : Sane w S (fun _ => none)) (ha : ArgsAt S (fun _ => none) w ms ds cs 0)
  (he : (callFunc f (argVals ds cs).toArray).run E.P w = .ok (.enter f (argVals ds cs).toArray) w) :
  Calls E.P f (argVals ds cs).toArray w fun e w' => e = .returned (.string ⟨⟨t⟩⟩) ∧ Below w.heap.size w w' := by
 rcases h w S _ cs hs ha with ⟨fn, h1, h2, h3, h4⟩ | ⟨v, w', h1, _⟩
 ·refine h4.mono fun e w' he => ?_
  cases e with
  | returned v =>
   obtain ⟨S', β', crs, h5, h6, h7, h8, _⟩ := he
   match crs, h7 with
   | [c], h7 =>
    simp only [ResAt] at h7
    have h9 := VRel_sh.1 h7.1
    simp only [Rd] at h9
    subst h9
    refine ⟨by rw [h8]; rfl, h6.out.os, h6.out.tape, h6.out.output, h6.size, fun k hk => h6.old k hk fun _ e => (by cases e)⟩
   | [], h7 => simp [ResAt] at h7
   | _ :: _ :: _, h7 => simp [ResAt] at h7
  | _ => exact he.elim
 ·rw [he] at h1; cases h1
theorem isb_same {T' e : TypeId} {B b : Nat} {bs : List Value} (h : IsBuilder T' e B b bs w) (hb : Below w.heap.size w w') : IsBuilder T' e B b bs w' := by
 have k : ∀ p, BuilderAt T' e B b p bs w → BuilderAt T' e B b p bs w' := fun p h => by
  have hl := h.lt
  obtain ⟨hB, v, h1, h2, h3⟩ := h
  exact ⟨hB, v, by rw [hb.block b hl]; exact h1, h2.kept (row := none) ⟨hb.os, hb.tape, hb.output, hb.size, fun k hk _ => hb.block k hk⟩ (by cases v.ownBlock <;> simp), h3⟩
 exact h.imp (k _) (k _)
theorem below_up {B : Nat} (h : Below w.heap.size w w') (hB : B ≤ w.heap.size) : Below B w w' := ⟨h.os, h.tape, h.output, h.size, fun k hk => h.block k (Nat.lt_of_lt_of_le hk hB)⟩
end
end Go.Rf

end
section
namespace Go.Proofs
open Go.Shelf Go.RowKit
def Tryz.laysRep_ren : Go.Shelf.Ren := ⟨fun | 105 => 311 | 212 => 345 | 99 => 346 | 165 => 347 | 166 => 320 | 170 => 348 | 169 => 323 | 263 => 368 | 264 => 369 | 206 => 370 | 240 => 353 | 241 => 371 | 276 => 378 | 277 => 380 | n => n, fun | 9 => 9 | 3 => 3 | 4 => 4 | 20 => 20 | 0 => 0 | 46 => 161 | 109 => 321 | 5 => 5 | 72 => 298 | 76 => 301 | 51 => 288 | 146 => 338 | 53 => 329 | 148 => 340 | 70 => 296 | 37 => 94 | 75 => 300 | 127 => 328 | 164 => 348 | 80 => 150 | n => n, fun | n => n⟩
theorem Tryz.laysRep : Go.Proofs.Lays.n105 Tryz.prog Tryz.laysRep_ren := {
 mixed := by kernel_rfl
 f99 := Tryz.func346.trans (congrArg some (by kernel_rfl))
 f105 := Tryz.func311.trans (congrArg some (by kernel_rfl))
 f165 := Tryz.func347.trans (congrArg some (by kernel_rfl))
 f166 := Tryz.func320.trans (congrArg some (by kernel_rfl))
 f169 := Tryz.func323.trans (congrArg some (by kernel_rfl))
 f170 := Tryz.func348.trans (congrArg some (by kernel_rfl))
 f206 := Tryz.func370.trans (congrArg some (by kernel_rfl))
 f212 := Tryz.func345.trans (congrArg some (by kernel_rfl))
 f240 := Tryz.func353.trans (congrArg some (by kernel_rfl))
 f241 := Tryz.func371.trans (congrArg some (by kernel_rfl))
 f263 := Tryz.func368.trans (congrArg some (by kernel_rfl))
 f264 := Tryz.func369.trans (congrArg some (by kernel_rfl))
 f276 := Tryz.func378.trans (congrArg some (by kernel_rfl))
 f277 := Tryz.func380.trans (congrArg some (by kernel_rfl))
 t0 := Tryz.underlying0
 a0 := Tryz.isAgg0
 z0 := Tryz.sizeOf0
 v0 := Tryz.zeroValue0
 t3 := Tryz.underlying3
 a3 := Tryz.isAgg3
 z3 := Tryz.sizeOf3
 v3 := Tryz.zeroValue3
 t4 := Tryz.underlying4
 a4 := Tryz.isAgg4
 z4 := Tryz.sizeOf4
 v4 := Tryz.zeroValue4
 t5 := Tryz.underlying5
 a5 := Tryz.isAgg5
 z5 := Tryz.sizeOf5
 v5 := Tryz.zeroValue5
 t9 := Tryz.underlying9
 a9 := Tryz.isAgg9
 z9 := Tryz.sizeOf9
 v9 := Tryz.zeroValue9
 t20 := Tryz.underlying20
 a20 := Tryz.isAgg20
 z20 := Tryz.sizeOf20
 v20 := Tryz.zeroValue20
 t37 := Tryz.underlying94
 a37 := Tryz.isAgg94
 z37 := Tryz.sizeOf94
 v37 := Tryz.zeroValue94
 t46 := Tryz.underlying161
 a46 := Tryz.isAgg161
 z46 := Tryz.sizeOf161
 v46 := Tryz.zeroValue161
 t51 := Tryz.underlying288
 a51 := Tryz.isAgg288
 z51 := Tryz.sizeOf288
 v51 := Tryz.zeroValue288
 t53 := Tryz.underlying329
 a53 := Tryz.isAgg329
 z53 := Tryz.sizeOf329
 v53 := Tryz.zeroValue329
 t70 := Tryz.underlying296
 a70 := Tryz.isAgg296
 z70 := Tryz.sizeOf296
 v70 := Tryz.zeroValue296
 t72 := Tryz.underlying298
 a72 := Tryz.isAgg298
 z72 := Tryz.sizeOf298
 v72 := Tryz.zeroValue298
 t75 := Tryz.underlying300
 a75 := Tryz.isAgg300
 z75 := Tryz.sizeOf300
 v75 := Tryz.zeroValue300
 t76 := Tryz.underlying301
 a76 := Tryz.isAgg301
 z76 := Tryz.sizeOf301
 v76 := Tryz.zeroValue301
 t109 := Tryz.underlying321
 a109 := Tryz.isAgg321
 z109 := Tryz.sizeOf321
 v109 := Tryz.zeroValue321
 t127 := Tryz.underlying328
 a127 := Tryz.isAgg328
 z127 := Tryz.sizeOf328
 v127 := Tryz.zeroValue328
 t146 := Tryz.underlying338
 a146 := Tryz.isAgg338
 z146 := Tryz.sizeOf338
 v146 := Tryz.zeroValue338
 t148 := Tryz.underlying340
 a148 := Tryz.isAgg340
 z148 := Tryz.sizeOf340
 v148 := Tryz.zeroValue340
 t164 := Tryz.underlying348
 a164 := Tryz.isAgg348
 z164 := Tryz.sizeOf348
 v164 := Tryz.zeroValue348 }
theorem Tryz.extra : Builder.Extra Tryz.prog Tryz.laysRep_ren := {
 sizeBuilder := by kernel_rfl
 liesBuilder := by kernel_rfl
 t5 := Tryz.laysRep.t5
 a5 := Tryz.laysRep.a5
 z5 := Tryz.laysRep.z5
 v5 := Tryz.laysRep.v5
 infoByte := by kernel_rfl
 cellsByte := by kernel_rfl
 sizeByte := by kernel_rfl
 neB5 := by decide }
end Go.Proofs

end
section
namespace Go.Rf
set_option linter.unusedSectionVars false
variable [T : Laid]
open Go.Shelf Go.RowKit Go.Lib Go.Proofs
set_option linter.unusedVariables false
set_option linter.unusedSimpArgs false
section
variable {E : Env} {w w' : World} {S : Nat → Prop} {β : Key → Option Nat} {keep keep' : List Nat} {mv mv' : List (Nat × Nat)} {ms : List Mode}
theorem strCells_bc (t : List UInt8) : strCells ⟨⟨t⟩⟩ = Lib.byteCells t := by simp [strCells, Lib.byteCells]
theorem bc_app (a b : List UInt8) : Lib.byteCells a ++ Lib.byteCells b = Lib.byteCells (a ++ b) := by simp [Lib.byteCells]
set_option maxHeartbeats 6400000 in
set_option maxRecDepth 100000 in
theorem intsText_fn (hE : E.P = Tryz.prog) (lt : Int → List UInt8) (l : List Int) (hl : (l.flatMap lt).length ≤ 1048576) (hn : l.length ≤ 1048576)
  (hlt : ∀ x ∈ l, FnOKc E ⟨[.ro (.int .i64), .ro (.int .i64)], 1, .pair .str .unit, .sh, keep, mv⟩ 139 [⟨.int .i64, x⟩, ⟨.int .i64, (4 : Int)⟩] (lt x, ())) :
  FnOKc E ⟨[.ro (.sl (.int .i64))], 1, .pair .str .unit, .sh, keep', mv'⟩ 275 [⟨.sl (.int .i64), l⟩] (l.flatMap lt, ()) := by
 intro w S β cs hs ha
 match cs, ha with
 | [c1], ha =>
  simp only [ArgsAt] at ha
  obtain ⟨_, hv, _⟩ := ha
  simp only [Rd] at hv
  obtain ⟨ad, cap, rfl, hcap, hel⟩ := hv
  have hcell : ∀ i (x : Int), l[i]? = some x → ∃ b o, ad = some ⟨b, o, none⟩ ∧ b < w.heap.size ∧ w.cell? ⟨b, o + i, none⟩ = some (.int .i64 x) := fun i x hx => by
   have hi := (List.getElem?_eq_some_iff.1 hx).1
   rcases hel with rfl | ⟨b, o, cs, rfl, hS, ⟨e, fz, hb⟩, hsz, hel⟩
   ·exact absurd hi (Nat.not_lt_zero _)
   ·have h1 := hel i x hx
    have hs1 : (Ty.int IntKind.i64).size = 1 := rfl
    rw [hs1] at h1 hsz
    refine ⟨b, o, rfl, hs.liveS b hS, ?_⟩
    have e2 : w.cell? ⟨b, o + i, none⟩ = cs[o + i]? := Lib.cell_of_heap hb (o + i)
    have e3 : cs[o + i]? = some (.int .i64 x) := by
     have h2 := congrArg (fun l : List Value => l[0]?) h1
     simp only [win, List.getElem?_take, List.getElem?_drop] at h2
     simpa using h2
    exact e2.trans e3
  rw [hE]
  refine .inl ⟨Tryz.f275, Tryz.func275, by kernel_rfl, by kernel_rfl, ?_⟩
  show Calls Tryz.prog 275 #[.slice ad l.length cap] w _
  have hlit : ∀ (x : Int), x ∈ l → ∀ wr, Below w.heap.size w wr → Calls Tryz.prog 139 #[.int .i64 x, .int .i64 4] wr fun e w' => e = .returned (.string ⟨⟨lt x⟩⟩) ∧ Below wr.heap.size wr w' := fun x hx wr hb => by
   have := str_call (cs := [[.int .i64 x], [.int .i64 4]]) (hlt x hx) (sane_none hs hb) ⟨rfl, by simp only [Rd], rfl, by simp only [Rd], trivial⟩ (by rw [hE]; exact enters_of Tryz.func139 (by kernel_rfl) rfl _ _)
   rw [hE] at this
   exact this
  go_enter Tryz.func275, Tryz.ntmps275
  go_wp2
  go_loopw [8] (fun i wr => ∃ k : Nat, k ≤ l.length ∧ i = .int .i64 k ∧ Lib.IsBuilder 298 5 w.heap.size w.heap.size (Lib.byteCells ((l.take k).flatMap lt)) wr ∧ Below w.heap.size w wr)
   (fun i _ => l.length - (RowKit.intOf i).toNat)
  case atStart => exact ⟨0, Nat.zero_le _, rfl, Lib.fresh_isBuilder 298 5 w, (Below.refl _ w).alloc (Nat.le_refl _) _⟩
  case round =>
   obtain ⟨k, hk, rfl, hI, hnx⟩ := hrel
   by_cases hp : k < l.length
   ·have hx : l[k]? = some l[k] := List.getElem?_eq_getElem hp
    obtain ⟨b, o, rfl, hb, hcl⟩ := hcell k _ hx
    have hcl' : wr.cell? ⟨b, o + k, none⟩ = some (.int .i64 l[k]) := by rw [hnx.cell (p := ⟨b, o + k, none⟩) hb]; exact hcl
    have hmem : l[k] ∈ l := List.getElem_mem hp
    have htk : (l.take (k + 1)).flatMap lt = (l.take k).flatMap lt ++ lt l[k] := by rw [List.take_add_one, hx, List.flatMap_append]; simp
    have hln : ((l.take (k + 1)).flatMap lt).length ≤ 1048576 := by
     have := List.take_append_drop (k + 1) l
     have h2 : (l.flatMap lt).length = ((l.take (k + 1)).flatMap lt).length + ((l.drop (k + 1)).flatMap lt).length := by rw [← List.length_append, ← List.flatMap_append, this]
     omega
    go_wp2_with (go_at_call 139; refine (hlit _ hmem wr hnx).mono ?_; rintro e W1 ⟨rfl, hb1⟩)
    have hI1 := isb_same hI hb1
    go_wp2_with (go_at_call 320; refine (Any.Builder_WriteString { Tryz.laysRep with } Tryz.extra w.heap.size w.heap.size _ ⟨⟨lt l[k]⟩⟩ W1 hI1 ?c1 (Nat.le_trans hnx.size hb1.size)).mono ?_)
    case c1 =>
     rw [htk, List.length_append] at hln
     show _ + (lt l[k]).length ≤ _
     simp only [Lib.byteCells, List.length_map]
     omega
    rintro e W2 ⟨rfl, hI2, hb2⟩
    rw [strCells_bc, bc_app, ← htk] at hI2
    go_wp2
    go_roundw
    case rel => exact ⟨k + 1, by omega, by go_num, .inr hI2, (hnx.trans (below_up hb1 hnx.size)).trans hb2⟩
    case measure => simp [RowKit.intOf]; omega
   ·have : l.take k = l := List.take_of_length_le (by omega)
    rw [this] at hI
    go_wp2_with (go_at_call 323; refine (Any.Builder_String_any { Tryz.laysRep with } Tryz.extra w.heap.size w.heap.size _ wr hI hnx.size).mono ?_)
    rintro e W2 ⟨rfl, hb2⟩
    go_wp2
    go_ret
    exact ret_str (t := l.flatMap lt) hs (hnx.trans hb2) (by simp [IoAt])
 | [], ha => simp [ArgsAt] at ha
 | _ :: _ :: _, ha => simp [ArgsAt] at ha
def xcat (x : List UInt8 → List UInt8 → List UInt8) (bl : Nat → List UInt8) (count : Nat) (t : List UInt8) : Nat → List UInt8
 | 0 => []
 | k + 1 => xcat x bl count t k ++ x ((t.drop (64 * k)).take 64) (bl (count + k))
set_option maxHeartbeats 6400000 in
set_option maxRecDepth 100000 in
theorem chaXor_fn {k1 k2 : List Nat} {m1 m2 : List (Nat × Nat)} (hE : E.P = Tryz.prog) (x : List UInt8 → List UInt8 → List UInt8) (bl : Nat → List UInt8) (key nonce t : List UInt8) (count : Nat) (ht : t.length ≤ 1048576) (hc : count ≤ 1000000)
  (hst : ∀ c : Nat, c ≤ 2000000 → FnOKc E ⟨[.ro .str, .ro .str, .ro (.int .i64)], 1, .pair .str .unit, .sh, k1, m1⟩ 322 [⟨.str, key⟩, ⟨.str, nonce⟩, ⟨.int .i64, (c : Int)⟩] (bl c, ()))
  (hx : ∀ (a : List UInt8) (c : Nat), c ≤ 2000000 → a.length ≤ 64 → FnOKc E ⟨[.ro .str, .ro .str], 1, .pair .str .unit, .sh, k2, m2⟩ 321 [⟨.str, a⟩, ⟨.str, bl c⟩] (x a (bl c), ()))
  (hxl : ∀ (a : List UInt8) (c : Nat), c ≤ 2000000 → a.length ≤ 64 → (x a (bl c)).length ≤ 64) :
  FnOKc E ⟨[.ro .str, .ro .str, .ro (.int .i64), .ro .str], 1, .pair .str .unit, .sh, keep', mv'⟩ 273 [⟨.str, key⟩, ⟨.str, nonce⟩, ⟨.int .i64, (count : Int)⟩, ⟨.str, t⟩] (xcat x bl count t ((t.length + 63) / 64), ()) := by
 intro w S β cs hs ha
 match cs, ha with
 | [c1, c2, c3, c4], ha =>
  simp only [ArgsAt] at ha
  obtain ⟨_, v1, _, v2, _, v3, _, v4, _⟩ := ha
  simp only [Rd] at v1 v2 v3 v4
  subst v1 v2 v3 v4
  rw [hE]
  refine .inl ⟨Tryz.f273, Tryz.func273, by kernel_rfl, by kernel_rfl, ?_⟩
  show Calls Tryz.prog 273 #[.string ⟨⟨key⟩⟩, .string ⟨⟨nonce⟩⟩, .int .i64 count, .string ⟨⟨t⟩⟩] w _
  have hs1 : ∀ (c : Nat), c ≤ 2000000 → ∀ wr, Below w.heap.size w wr → Calls Tryz.prog 322 #[.string ⟨⟨key⟩⟩, .string ⟨⟨nonce⟩⟩, .int .i64 c] wr fun e w' => e = .returned (.string ⟨⟨bl c⟩⟩) ∧ Below wr.heap.size wr w' := fun c hc wr hb => by
   have := str_call (cs := [[.string ⟨⟨key⟩⟩], [.string ⟨⟨nonce⟩⟩], [.int .i64 c]]) (hst c hc) (sane_none hs hb) ⟨rfl, by simp only [Rd], rfl, by simp only [Rd], rfl, by simp only [Rd], trivial⟩ (by rw [hE]; exact enters_of Tryz.func322 (by kernel_rfl) rfl _ _)
   rw [hE] at this
   exact this
  have hs2 : ∀ (a : List UInt8) (c : Nat), c ≤ 2000000 → a.length ≤ 64 → ∀ wr, Below w.heap.size w wr → Calls Tryz.prog 321 #[.string ⟨⟨a⟩⟩, .string ⟨⟨bl c⟩⟩] wr fun e w' => e = .returned (.string ⟨⟨x a (bl c)⟩⟩) ∧ Below wr.heap.size wr w' := fun a c hc hl wr hb => by
   have := str_call (cs := [[.string ⟨⟨a⟩⟩], [.string ⟨⟨bl c⟩⟩]]) (hx a c hc hl) (sane_none hs hb) ⟨rfl, by simp only [Rd], rfl, by simp only [Rd], trivial⟩ (by rw [hE]; exact enters_of Tryz.func321 (by kernel_rfl) rfl _ _)
   rw [hE] at this
   exact this
  have hxc : ∀ k, count + k ≤ 2000000 → (xcat x bl count t k).length ≤ 64 * k := fun k => by
   induction k with
   | zero => exact fun _ => Nat.le_refl _
   | succ k ih =>
    intro h
    have := hxl ((t.drop (64 * k)).take 64) (count + k) (by omega) (by rw [List.length_take]; omega)
    have := ih (by omega)
    rw [xcat, List.length_append]; omega
  go_enter Tryz.func273, Tryz.ntmps273
  go_wp2
  go_loopw [10] (fun i wr => ∃ k : Nat, k ≤ (t.length + 63) / 64 ∧ i = .int .i64 ((64 * k : Nat) : Int) ∧ Lib.IsBuilder 298 5 w.heap.size w.heap.size (Lib.byteCells (xcat x bl count t k)) wr ∧ Below w.heap.size w wr)
   (fun i _ => t.length + 64 - (RowKit.intOf i).toNat)
  case atStart => exact ⟨0, Nat.zero_le _, rfl, Lib.fresh_isBuilder 298 5 w, (Below.refl _ w).alloc (Nat.le_refl _) _⟩
  case round =>
   obtain ⟨k, hk, rfl, hI, hnx⟩ := hrel
   by_cases hp : 64 * k < t.length
   ·have hsl : (Instr.slice 9 (.string ⟨⟨t⟩⟩) (some (.int .i64 (64 * (k : Int)))) (some (.int .i64 (min (64 * (k : Int) + 64) (t.length : Int)))) none).run Tryz.prog wr = .ok (.string ⟨⟨(t.drop (64 * k)).take 64⟩⟩) wr := by
     have hz : (⟨⟨t⟩⟩ : ByteArray).size = t.length := rfl
     rw [run_slice_string wr 9 ⟨⟨t⟩⟩ .i64 .i64 (64 * (k : Int)) (min (64 * (k : Int) + 64) (t.length : Int)) (by kernel_rfl) (by omega) (by omega) (by rw [hz]; omega), show (64 * (k : Int)).toNat = 64 * k by omega]
     have he := ByteArray.extract_mk t (64 * k) (min (64 * (k : Int) + 64) (t.length : Int)).toNat
     have hm : ((t.drop (64 * k)).take ((min (64 * (k : Int) + 64) (t.length : Int)).toNat - 64 * k)) = (t.drop (64 * k)).take 64 := by
      rw [List.take_eq_take_min, List.take_eq_take_min (i := 64), List.length_drop]
      congr 1; omega
     rw [hm] at he
     exact congrArg (fun b => Result.ok (Value.string b) wr) he
    have hdl : ((t.drop (64 * k)).take 64).length ≤ 64 := by rw [List.length_take]; omega
    go_wp2_with (go_at_call 322; refine (hs1 (count + k) (by omega) wr hnx).mono ?_)
    rintro e W1 ⟨rfl, hb1⟩
    have hn1 : Below w.heap.size w W1 := hnx.trans (below_up hb1 hnx.size)
    go_wp2_with (go_at_call 321; refine (hs2 ((t.drop (64 * k)).take 64) (count + k) (by omega) hdl W1 hn1).mono ?_)
    rintro e W2 ⟨rfl, hb2⟩
    have hI2 := isb_same (isb_same hI hb1) hb2
    have hn2 : Below w.heap.size w W2 := hn1.trans (below_up hb2 hn1.size)
    go_wp2_with (go_at_call 320; refine (Any.Builder_WriteString { Tryz.laysRep with } Tryz.extra w.heap.size w.heap.size _ ⟨⟨x ((t.drop (64 * k)).take 64) (bl (count + k))⟩⟩ W2 hI2 ?c1 hn2.size).mono ?_)
    case c1 =>
     have := hxl ((t.drop (64 * k)).take 64) (count + k) (by omega) hdl
     have := hxc k (by omega)
     show _ + (x ((t.drop (64 * k)).take 64) (bl (count + k))).length ≤ _
     simp only [Lib.byteCells, List.length_map]
     omega
    rintro e W3 ⟨rfl, hI3, hb3⟩
    rw [strCells_bc, bc_app] at hI3
    go_wp2
    go_roundw
    case rel => exact ⟨k + 1, by omega, by go_num, .inr hI3, hn2.trans hb3⟩
    case measure => simp [RowKit.intOf]; omega
   ·have : k = (t.length + 63) / 64 := by omega
    subst this
    go_wp2_with (go_at_call 323; refine (Any.Builder_String_any { Tryz.laysRep with } Tryz.extra w.heap.size w.heap.size _ wr hI hnx.size).mono ?_)
    rintro e W2 ⟨rfl, hb2⟩
    go_wp2
    go_ret
    exact ret_str (t := xcat x bl count t ((t.length + 63) / 64)) hs (hnx.trans hb2) (by simp [IoAt])
 | [], ha | [_], ha | [_, _], ha | [_, _, _], ha => simp [ArgsAt] at ha
 | _ :: _ :: _ :: _ :: _ :: _, ha => simp [ArgsAt] at ha
end
end Go.Rf

end
section
open Go Go.Rf
set_option maxRecDepth 100000
set_option linter.unusedVariables false
namespace Go.Rf.S
def mvD (l : List (Nat × Nat)) (d : List (Nat × List Nat)) : List (Nat × Nat) := l ++ d.flatMap fun x => x.2.map fun s => (4000000 + x.1, s)
abbrev t0 : Ty := (.sl (.int .i64))
abbrev t1 : Ty := (.pair t0 .unit)
abbrev t2 : Ty := (.pair .str .unit)
abbrev t3 : Ty := (.pair (.int .i64) (.pair (.int .i64) (.pair (.int .i64) .unit)))
abbrev t4 : Ty := (.pair (.sl t3) .unit)
abbrev t5 : Ty := (.sl (.int .u8))
abbrev t6 : Ty := (.pair t5 .unit)
abbrev t7 : Ty := (.arr 8 (.int .i64))
abbrev t8 : Ty := (.pair t7 .unit)
abbrev t9 : Ty := (.pair t7 (.pair .str (.pair (.int .i64) .unit)))
abbrev t10 : Ty := (.pair t9 .unit)
abbrev t11 : Ty := (.pair (.int .i64) .unit)
abbrev t12 : Ty := (.arr 64 (.int .i64))
abbrev t13 : Ty := (.pair t12 .unit)
abbrev t14 : Ty := (.arr 64 (.int .u32))
abbrev t15 : Ty := (.pair t14 .unit)
abbrev t16 : Ty := (.pair (.int .u32) .unit)
abbrev t17 : Ty := (.pair (.ptr t9) .unit)
abbrev t18 : Ty := (.pair (.int .u32) (.pair (.int .u32) (.pair (.int .u32) (.pair (.int .u32) .unit))))
abbrev t19 : Ty := (.arr 4 (.int .i64))
abbrev t20 : Ty := (.pair t19 .unit)
abbrev t21 : Ty := (.arr 16 (.int .i64))
abbrev t22 : Ty := (.pair t21 .unit)
abbrev t23 : Ty := (.pair (.int .i64) (.pair (.int .i64) (.pair (.int .i64) (.pair (.int .i64) (.pair .str (.pair .str (.pair .str .unit)))))))
abbrev t24 : Ty := (.pair (.int .i64) (.pair .str .unit))
abbrev t25 : Ty := (.pair (.sl .str) (.pair (.sl t24) .unit))
abbrev t26 : Ty := (.pair .str (.pair t23 (.pair t25 (.pair .bool (.pair .bool .unit)))))
abbrev t27 : Ty := (.pair t23 .unit)
abbrev t28 : Ty := (.pair (.sl .str) .unit)
abbrev t29 : Ty := (.pair t24 .unit)
abbrev t30 : Ty := (.pair (.sl t24) .unit)
abbrev t31 : Ty := (.pair t25 .unit)
abbrev t32 : Ty := (.pair t26 .unit)
abbrev t33 : Ty := (.pair t3 .unit)
abbrev t34 : Ty := (.pair t4 .unit)
abbrev t35 : Ty := (.pair (.sl t4) .unit)
abbrev t36 : Ty := (.pair .bool .unit)
abbrev t37 : Ty := (.arr 5 (.int .i64))
abbrev t38 : Ty := (.pair t37 .unit)
abbrev t39 : Ty := (.pair t26 (.pair .str .unit))
abbrev t40 : Ty := (.pair t26 (.pair (.int .i64) .unit))
abbrev t41 : Ty := (.arr 5 (.int .u64))
abbrev t42 : Ty := (.pair t41 .unit)
abbrev t43 : Ty := (.pair t25 (.pair t23 (.pair (.int .i64) .unit)))
abbrev t44 : Ty := (.pair (.int .i64) (.pair (.sl .str) .unit))
abbrev t45 : Ty := (.pair (.int .i64) (.pair (.sl t24) .unit))
abbrev t46 : Ty := (.pair (.int .i64) (.pair t25 .unit))
abbrev t47 : Ty := (.pair (.int .i64) (.pair t26 .unit))
abbrev t48 : Ty := (.pair (.int .i64) (.pair (.sl t3) .unit))
abbrev t49 : Ty := (.pair (.int .i64) (.pair (.sl t4) .unit))
abbrev t50 : Ty := (.pair (.int .i64) (.pair t0 .unit))
abbrev d51 : Type := (List Int × Unit)
abbrev d52 : Type := (List UInt8 × Unit)
abbrev d53 : Type := (Int × (Int × (Int × Unit)))
abbrev d54 : Type := (List d53 × Unit)
abbrev d55 : Type := (List Int × (List UInt8 × (Int × Unit)))
abbrev d56 : Type := (d55 × Unit)
abbrev d57 : Type := (Int × Unit)
abbrev d58 : Type := (Int × (Int × (Int × (Int × Unit))))
abbrev d59 : Type := (Int × (Int × (Int × (Int × (List UInt8 × (List UInt8 × (List UInt8 × Unit)))))))
abbrev d60 : Type := (Int × (List UInt8 × Unit))
abbrev d61 : Type := (List (List UInt8) × (List d60 × Unit))
abbrev d62 : Type := (List UInt8 × (d59 × (d61 × (Bool × (Bool × Unit)))))
abbrev d63 : Type := (d59 × Unit)
abbrev d64 : Type := (List (List UInt8) × Unit)
abbrev d65 : Type := (d60 × Unit)
abbrev d66 : Type := (List d60 × Unit)
abbrev d67 : Type := (d61 × Unit)
abbrev d68 : Type := (d62 × Unit)
abbrev d69 : Type := (d53 × Unit)
abbrev d70 : Type := (d54 × Unit)
abbrev d71 : Type := (List d54 × Unit)
abbrev d72 : Type := (Bool × Unit)
abbrev d73 : Type := (d62 × (List UInt8 × Unit))
abbrev d74 : Type := (d62 × (Int × Unit))
abbrev d75 : Type := (d61 × (d59 × (Int × Unit)))
abbrev d76 : Type := (Int × (List (List UInt8) × Unit))
abbrev d77 : Type := (Int × (List d60 × Unit))
abbrev d78 : Type := (Int × (d61 × Unit))
abbrev d79 : Type := (Int × (d62 × Unit))
abbrev d80 : Type := (Int × (List d53 × Unit))
abbrev d81 : Type := (Int × (List d54 × Unit))
abbrev d82 : Type := (Int × (List Int × Unit))
abbrev t83 : Ty := (.arr 8 (.int .u32))
abbrev t84 : Ty := (.arr 2 (.int .i64))
abbrev t85 : Ty := (.arr 2 t84)
abbrev t86 : Ty := (.arr 16 (.int .u32))
noncomputable def cfgs : List (Nat × FCfg) := [
(210, ⟨[.ro t0], 1, t1, (.pr (.own .sh) .sh), [900000, 0, 2, 4], [(3, 3), (2, 0)]⟩),
(275, ⟨[.ro t0], 1, t2, .sh, [], []⟩),
(211, ⟨[.mv t0 (.own .sh), .ro (.int .i64)], 1, t2, .sh, [0, 1, 4], [(1, 7)]⟩),
(142, ⟨[.ro (.sl t4), .ro t0], 1, t2, .sh, [0, 1, 4, 5, 7, 9, 16, 17, 18, 19, 29, 30, 31, 32], mvD [(12, 2)] [(72, [0, 1, 4, 7, 9, 19, 29, 30, 31, 32]), (38, [0, 1, 4, 7, 9, 19, 32])]⟩),
(263, ⟨[.mv t5 (.own .sh), .ro (.int .i64)], 1, t6, (.pr (.own .sh) .sh), [0, 1, 4], [(1, 14)]⟩),
(197, ⟨[.ro t0], 1, t2, .sh, [0, 2, 3, 4, 9], mvD [(6, 2)] [(15, [2, 9])]⟩),
(266, ⟨[.mv t0 (.own .sh), .ro (.int .i64)], 1, t2, .sh, [0, 1, 4, 8], mvD [(3, 2)] [(5, [4, 8])]⟩),
(200, ⟨[.ro (.sl t4), .ro t0], 1, t2, .sh, [0, 1, 4, 5, 6, 7, 8, 19, 38], mvD [(11, 2)] [(60, [1, 4, 7, 8, 19, 38]), (38, [1, 4, 8, 19, 38])]⟩),
(305, ⟨[], 1, t8, .sh, [0], [(1, 1)]⟩),
(250, ⟨[], 1, t10, .sh, [0], [(1, 2)]⟩),
(341, ⟨[.ro .str, .ro (.int .i64)], 1, t11, .sh, [0, 1, 4], [(1, 25)]⟩),
(342, ⟨[.ro (.int .i64), .ro (.int .i64)], 1, t11, .sh, [0, 1, 4], [(1, 9)]⟩),
(343, ⟨[], 1, t13, .sh, [0], [(1, 1)]⟩),
(304, ⟨[.ro t7, .ro .str], 1, t8, .sh, [0, 1, 2, 4, 5, 6, 7, 8, 9, 10, 11, 12, 13, 14, 15, 16, 17, 18, 21, 31, 87, 180], mvD [(27, 1)] [(15, [0, 7, 8, 9, 10, 11, 12, 13, 14, 15, 16, 17, 18, 21, 31, 87, 180]), (50, [0, 1, 6, 8, 9, 10, 11, 12, 13, 14, 15, 16, 17, 18, 21, 31, 87, 180]), (156, [0, 1, 6, 7, 8, 9, 13, 14, 15, 16, 17, 18, 21, 31, 87, 180]), (78, [0, 1, 5, 6, 7, 8, 9, 10, 12, 13, 14, 15, 16, 17, 21, 31, 87, 180])]⟩),
(249, ⟨[.ro t9, .ro .str], 1, t10, .sh, [0, 1, 2, 4, 19], mvD [(6, 1)] [(15, [0, 1, 19])]⟩),
(248, ⟨[.ro t9], 1, t2, .sh, [0, 1, 2, 3, 4, 5, 6, 7, 8, 19, 24, 41, 45], mvD [(18, 2)] [(9, [0, 2, 5, 6, 7, 8, 19, 24, 41, 45]), (24, [0, 2, 6, 7, 8, 19, 24, 41, 45]), (93, [0, 2, 3, 4, 5, 8, 19, 24, 41, 45]), (51, [0, 2, 3, 4, 5, 19, 24, 41, 45])]⟩),
(181, ⟨[.ro .str], 1, t2, .sh, [0, 2], [(1, 4)]⟩),
(257, ⟨[], 1, t10, .sh, [0], [(1, 2)]⟩),
(309, ⟨[], 1, t15, .sh, [0], [(1, 1)]⟩),
(367, ⟨[.ro (.int .u32), .ro (.int .i64)], 1, t16, .sh, [0, 1, 4, 5], [(2, 8)]⟩),
(344, ⟨[.ro (.int .u32), .ro (.int .i64)], 1, t16, .sh, [0, 1, 4], [(1, 4)]⟩),
(310, ⟨[.io (.ptr t9) (.own .sh) (.own .sh) 0 [], .ro .str, .ro (.ptr t14)], 0, t17, (.pr (.own .sh) .sh), [0, 1, 2, 6, 7, 8, 9, 10, 11, 12, 13, 14, 15, 16, 17, 18, 19, 20, 21, 22, 23, 24, 25, 26, 61, 104, 105, 106, 114, 115, 194, 195, 196], mvD [] [(18, [7, 8, 9, 10, 11, 12, 13, 14, 15, 16, 17, 18, 19, 20, 21, 22, 23, 24, 26, 61, 104, 105, 106, 114, 115, 194, 195, 196]), (38, [1, 7, 9, 10, 11, 12, 13, 14, 15, 16, 17, 18, 19, 20, 21, 22, 23, 24, 25, 26, 61, 104, 105, 106, 114, 115, 194, 195, 196]), (62, [1, 7, 8, 9, 10, 12, 13, 14, 15, 16, 17, 18, 19, 20, 21, 22, 23, 24, 25, 26, 61, 106, 114, 115, 194, 195, 196]), (154, [1, 7, 8, 9, 10, 12, 13, 14, 15, 16, 17, 18, 19, 20, 21, 22, 23, 24, 25, 26, 61, 104, 105, 106, 115, 194, 195, 196]), (114, [1, 2, 6, 7, 8, 9, 10, 11, 12, 13, 14, 15, 16, 17, 18, 19, 20, 21, 22, 23, 24, 25, 26, 61, 104, 105, 106, 114, 115, 196])]⟩),
(258, ⟨[.ro t9, .ro .str], 1, t10, .sh, [0, 1, 2, 4, 5, 19], mvD [(8, 1)] [(18, [0, 19])]⟩),
(311, ⟨[.ro .str, .ro (.int .i64)], 1, t2, .sh, [], []⟩),
(259, ⟨[.ro t9], 1, t2, .sh, [0, 1, 2, 3, 4, 5, 6, 8, 20, 35, 36, 37], mvD [(13, 2)] [(18, [0, 2, 6, 8, 20, 35, 36, 37]), (46, [0, 1, 2, 3, 4, 5, 8, 20, 37])]⟩),
(190, ⟨[.ro .str], 1, t2, .sh, [0, 2], [(1, 4)]⟩),
(139, ⟨[.ro (.int .i64), .ro (.int .i64)], 1, t2, .sh, [0, 1, 4, 5, 6, 7, 8, 9], mvD [(7, 2)] [(22, [1, 4, 6, 9])]⟩),
(332, ⟨[.ro .str], 1, t16, .sh, [0, 2], [(1, 18)]⟩),
(354, ⟨[.ro (.int .u32), .ro (.int .u32), .ro (.int .u32), .ro (.int .u32)], 4, t18, .sh, [0, 1, 2, 3, 8, 9, 10, 11, 13, 16, 17, 18], mvD [(9, 4), (9, 5), (9, 6), (9, 7)] [(42, [8, 9, 10, 11, 13, 18])]⟩),
(322, ⟨[.ro .str, .ro .str, .ro (.int .i64)], 1, t2, .sh, [0, 1, 2, 6, 7, 8, 9, 10, 11, 12, 13, 14, 15, 16, 17, 25, 26, 41, 42, 43, 44, 46, 47, 95, 96], mvD [(28, 1)] [(35, [0, 1, 2, 6, 10, 11, 12, 13, 14, 15, 16, 17, 26, 41, 42, 43, 44, 46, 47, 95, 96]), (198, [0, 1, 2, 6, 7, 10, 11, 12, 13, 14, 15, 16, 17, 25, 26, 42, 43, 44, 46, 47, 95, 96]), (153, [0, 1, 2, 6, 7, 10, 11, 12, 13, 14, 15, 16, 17, 25, 26, 42, 44, 46, 47, 95, 96]), (90, [0, 1, 2, 6, 7, 10, 12, 13, 14, 15, 16, 17, 25, 26, 42, 44, 47, 95, 96]), (106, [0, 1, 2, 6, 7, 10, 11, 12, 13, 14, 15, 17, 25, 26, 41, 42, 43, 44, 46, 47, 96])]⟩),
(361, ⟨[.ro .str, .ro (.int .i64)], 1, t11, .sh, [0, 1, 4], [(1, 25)]⟩),
(382, ⟨[.ro (.int .i64), .ro (.int .i64)], 1, t11, .sh, [0, 1, 4], [(1, 9)]⟩),
(381, ⟨[.ro (.int .i64), .ro (.int .i64), .ro (.int .i64), .ro (.int .i64)], 1, t20, .sh, [0, 1, 2, 3, 8], [(9, 5)]⟩),
(372, ⟨[.ro t21, .ro (.int .i64), .ro (.int .i64), .ro (.int .i64), .ro (.int .i64)], 1, t22, .sh, [0, 1, 2, 3, 4, 5, 10, 11], [(6, 1)]⟩),
(349, ⟨[.ro .str, .ro .str, .ro (.int .i64)], 1, t2, .sh, [0, 1, 2, 6, 7, 8, 9, 10, 11, 12, 13, 14, 15, 16, 19, 28, 41, 53, 57, 70, 90], mvD [(32, 2)] [(15, [6, 9, 10, 11, 12, 13, 14, 15, 16, 19, 28, 41, 53, 57, 70, 90]), (27, [6, 8, 10, 11, 12, 13, 14, 15, 16, 19, 28, 41, 53, 57, 70, 90]), (42, [0, 2, 6, 8, 9, 11, 12, 13, 14, 15, 16, 19, 28, 41, 53, 57, 70, 90]), (225, [0, 1, 2, 6, 8, 9, 10, 13, 14, 15, 16, 19, 28, 41, 53, 57, 70, 90]), (66, [0, 1, 2, 6, 8, 9, 10, 14, 15, 16, 19, 28, 41, 53, 57, 70, 90]), (78, [0, 1, 2, 6, 8, 9, 10, 13, 15, 16, 19, 28, 41, 53, 57, 70, 90]), (93, [0, 1, 2, 6, 8, 9, 10, 12, 13, 14, 19, 28, 41, 53, 57, 70, 90])]⟩),
(321, ⟨[.ro .str, .ro .str], 1, t2, .sh, [0, 1, 4, 5, 6, 10, 11, 12], mvD [(7, 2)] [(22, [0, 4, 6, 12])]⟩),
(313, ⟨[.ro .str, .ro .str, .ro (.int .i64), .ro .str], 1, t2, .sh, [0, 1, 2, 3, 8, 9, 10, 11, 16, 21], mvD [(9, 2)] [(35, [8, 16, 21])]⟩),
(60, ⟨[.ro t23, .ro (.int .i64)], 1, t11, .sh, [0, 1, 2, 4, 11, 18, 25], [(3, 0), (6, 0), (10, 1), (9, 0)]⟩),
(122, ⟨[.ro (.sl .str), .ro (.int .i64)], 1, t11, .sh, [0, 1, 4, 5, 11, 15, 26], [(3, 0), (10, 1), (9, 0)]⟩),
(195, ⟨[.ro t24, .ro (.int .i64)], 1, t11, .sh, [0, 1, 2, 4, 11], [(4, 1), (3, 0)]⟩),
(123, ⟨[.ro (.sl t24), .ro (.int .i64)], 1, t11, .sh, [0, 1, 4, 5, 11, 15, 25], [(3, 0), (10, 1), (9, 0)]⟩),
(61, ⟨[.ro t25, .ro (.int .i64)], 1, t11, .sh, [0, 1, 2, 4, 10, 16], [(3, 0), (7, 1), (6, 0)]⟩),
(20, ⟨[.ro t26, .ro (.int .i64)], 1, t11, .sh, [0, 1, 2, 4, 11, 17, 23], [(3, 0), (6, 0), (10, 1), (9, 0)]⟩),
(124, ⟨[.ro (.sl t3), .ro (.int .i64)], 1, t11, .sh, [0, 1, 4, 10], [(4, 1), (3, 0)]⟩),
(62, ⟨[.ro t4, .ro (.int .i64)], 1, t11, .sh, [0, 1, 2, 4, 10], [(4, 1), (3, 0)]⟩),
(21, ⟨[.ro (.sl t4), .ro (.int .i64)], 1, t11, .sh, [0, 1, 4, 5, 11, 15, 25], [(3, 0), (10, 1), (9, 0)]⟩),
(66, ⟨[.ro t23], 1, t27, .sh, [0, 1, 2, 3], [(9, 1)]⟩),
(132, ⟨[.ro (.sl .str)], 1, t28, (.pr (.own .sh) .sh), [0, 2, 3, 4, 11], [(1, 2), (6, 1)]⟩),
(202, ⟨[.ro t24], 1, t29, .sh, [0, 1, 2, 3], [(4, 1)]⟩),
(133, ⟨[.ro (.sl t24)], 1, t30, (.pr (.own .sh) .sh), [0, 2, 3, 4, 11], [(1, 2), (6, 1)]⟩),
(67, ⟨[.ro t25], 1, t31, (.pr (.pr (.own .sh) (.pr (.own .sh) .sh)) .sh), [0, 1, 2, 3], [(4, 1)]⟩),
(23, ⟨[.ro t26], 1, t32, (.pr (.pr .sh (.pr .sh (.pr (.pr (.own .sh) (.pr (.own .sh) .sh)) .sh))) .sh), [0, 1, 2, 3], [(7, 1)]⟩),
(203, ⟨[.ro t3], 1, t33, .sh, [0, 1, 2, 3], [(5, 1)]⟩),
(134, ⟨[.ro (.sl t3)], 1, t4, (.pr (.own .sh) .sh), [0, 2, 3, 4, 11], [(1, 2), (6, 1)]⟩),
(68, ⟨[.ro t4], 1, t34, (.pr (.pr (.own .sh) .sh) .sh), [0, 1, 2, 3], [(3, 1)]⟩),
(24, ⟨[.ro (.sl t4)], 1, t35, (.pr (.own (.pr (.own .sh) .sh)) .sh), [0, 2, 3, 4, 11], [(1, 2), (6, 1)]⟩),
(11, ⟨[.ro t0], 1, t1, (.pr (.own .sh) .sh), [0, 2, 3, 4, 11], [(1, 2), (6, 1)]⟩),
(102, ⟨[.ro (.int .i64), .ro (.int .i64), .ro (.int .i64)], 1, t36, .sh, [0, 1, 2, 6], [(1, 8)]⟩),
(44, ⟨[.ro t0], 1, t36, .sh, [0, 2, 3, 7, 15], mvD [(6, 0), (5, 0)] [(18, [2, 7, 15])]⟩),
(125, ⟨[.ro t0, .ro (.int .i64)], 1, t11, .sh, [0, 1, 4, 5, 9, 14], [(7, 0), (2, 0), (4, 0), (6, 0)]⟩),
(151, ⟨[.ro t23], 1, t36, .sh, [0, 1, 2], [(1, 56)]⟩),
(214, ⟨[.ro (.int .i64)], 1, t36, .sh, [0, 2], [(1, 2)]⟩),
(152, ⟨[.ro t25], 1, t36, .sh, [0, 1, 2, 3, 4, 14, 19, 28, 33, 53], [(2, 0), (7, 0), (13, 0), (12, 0)]⟩),
(80, ⟨[.ro t26], 1, t36, .sh, [0, 1, 2], [(1, 30)]⟩),
(262, ⟨[.ro t3], 1, t36, .sh, [1000015, 0, 1, 2, 12, 14, 15, 21], [(2, 0), (9, 3), (6, 3), (8, 3)]⟩),
(196, ⟨[.ro t4], 1, t36, .sh, [0, 1, 2, 3, 8, 17], [(6, 4), (5, 0)]⟩),
(126, ⟨[.ro (.sl t4)], 1, t36, .sh, [0, 2, 3, 6, 10, 14, 22], [(2, 0), (4, 0), (10, 0), (9, 0)]⟩),
(63, ⟨[.ro t26, .ro (.sl t4), .ro t0], 1, t11, .sh, [0, 1, 2, 3, 6, 7, 11, 15, 23], [(3, 1), (5, 0), (8, 0), (7, 0)]⟩),
(127, ⟨[.ro t26], 1, t11, .sh, [0, 1, 2, 3, 6], [(5, 0), (2, 0), (4, 0)]⟩),
(128, ⟨[.ro t26], 1, t11, .sh, [0, 1, 2, 16], [(3, 0), (2, 0)]⟩),
(199, ⟨[.ro (.int .i64), .ro (.int .i64)], 1, t11, .sh, [0, 1, 4], [(1, 4)]⟩),
(312, ⟨[.ro (.int .i64)], 1, t2, .sh, [0, 2, 3, 4, 7], mvD [(6, 2)] [(15, [2, 7])]⟩),
(264, ⟨[.ro (.int .i64), .ro (.int .i64), .ro (.int .i64)], 1, t2, .sh, [0, 1, 2, 6], [(1, 12)]⟩),
(351, ⟨[.ro .str], 1, t2, .sh, [0, 2, 6], mvD [(3, 1)] [(5, [2, 6])]⟩),
(374, ⟨[.ro .str], 1, t2, .sh, [0, 2, 3, 4, 5, 10, 20], mvD [(10, 2)] [(15, [0, 2, 5, 10, 20]), (27, [0, 2, 4, 10, 20])]⟩),
(373, ⟨[.ro .str], 1, t38, .sh, [0, 2, 3, 4, 5, 6, 9, 36], mvD [(10, 1)] [(49, [5, 6, 9, 36])]⟩),
(377, ⟨[.ro t37], 1, t38, .sh, [0, 1, 2, 3, 4, 6, 10], mvD [(11, 1)] [(63, [0, 4, 6, 10]), (30, [0, 6, 10])]⟩),
(375, ⟨[.ro t37, .ro t37], 1, t38, .sh, [0, 1, 2, 3, 4, 5, 6, 7, 8, 11, 15, 28], mvD [(12, 2)] [(72, [0, 1, 7, 8, 11, 15, 28]), (57, [0, 1, 8, 11, 15, 28])]⟩),
(376, ⟨[.ro t37], 1, t38, .sh, [0, 1, 2, 3, 4, 11, 32], mvD [(9, 1), (11, 1)] [(26, [0, 11, 32])]⟩),
(350, ⟨[.ro .str, .ro .str], 1, t2, .sh, [0, 1, 4, 5, 6, 7, 8, 9, 10, 11, 12, 13, 14, 15, 24, 38, 44, 63, 77], mvD [(28, 2)] [(110, [4, 8, 9, 10, 11, 12, 13, 14, 15, 24, 38, 44, 63, 77]), (17, [4, 9, 10, 11, 12, 13, 14, 15, 24, 38, 44, 63, 77]), (39, [4, 8, 11, 12, 13, 14, 15, 24, 38, 44, 63, 77]), (216, [1, 4, 5, 7, 8, 9, 10, 14, 15, 24, 38, 44, 63, 77])]⟩),
(314, ⟨[.ro .str, .ro .str, .ro .str, .ro .str], 1, t2, .sh, [0, 1, 2, 3, 8, 9], [(2, 15)]⟩),
(265, ⟨[.ro .str, .ro .str, .ro .str, .ro .str], 1, t2, .sh, [0, 1, 2, 3, 8, 9], [(2, 7)]⟩),
(198, ⟨[.ro .str, .ro (.int .i64), .ro (.int .i64), .ro (.int .i64), .ro .str], 1, t2, .sh, [0, 1, 2, 3, 4, 10, 11], [(2, 4)]⟩),
(201, ⟨[.ro t25, .ro (.int .i64), .ro .str], 1, t31, (.pr (.pr .sh (.pr (.own .sh) .sh)) .sh), [0, 1, 2, 3, 6], [(2, 1)]⟩),
(129, ⟨[.ro t26, .ro (.sl t4), .ro t0], 2, t39, (.pr (.pr .sh (.pr .sh (.pr (.pr .sh (.pr (.own .sh) .sh)) .sh))) .sh), [0, 1, 2, 3, 6, 7, 8, 9], [(4, 2), (4, 3)]⟩),
(130, ⟨[.ro t25], 1, t31, (.pr (.pr (.own .sh) (.pr (.own .sh) .sh)) .sh), [0, 1, 2, 3, 4, 15], mvD [(6, 1)] [(15, [0, 15])]⟩),
(131, ⟨[.ro .str, .ro .str], 1, t2, .sh, [0, 1, 4], [(1, 5)]⟩),
(64, ⟨[.ro t26, .ro (.sl t4), .ro t0], 2, t40, .sh, [0, 1, 2, 3, 6, 7, 8, 9, 10, 11, 15, 21], [(3, 2), (3, 3), (6, 2), (6, 3), (11, 1), (11, 2)]⟩),
(103, ⟨[.ro t25], 1, t31, (.pr (.pr (.own .sh) (.pr (.own .sh) .sh)) .sh), [0, 1, 2], [(1, 9)]⟩),
(65, ⟨[.ro t26], 1, t32, (.pr (.pr .sh (.pr .sh (.pr (.pr (.own .sh) (.pr (.own .sh) .sh)) .sh))) .sh), [0, 1, 2], [(2, 1)]⟩),
(22, ⟨[.ro t26, .ro (.sl t4), .ro t0], 2, t40, (.pr (.pr .sh (.pr .sh (.pr (.pr (.own .sh) (.pr (.own .sh) .sh)) .sh))) .sh), [0, 1, 2, 3, 6, 7, 8, 9, 10, 18, 25], [(2, 1), (2, 2), (5, 2), (5, 3), (7, 3), (7, 4)]⟩),
(268, ⟨[.ro (.int .i64), .ro (.ptr .fn)], 1, t36, .sh, [0, 1, 3], [(1, 4)]⟩),
(315, ⟨[.ro t0, .ro .fn], 1, t11, .sh, [0, 1, 4, 5, 7, 8, 9, 16], [(7, 0), (5, 1)]⟩),
(267, ⟨[.ro t0, .ro .fn], 1, t36, .sh, [0, 1, 4], [(1, 4)]⟩),
(204, ⟨[.ro t0, .ro .fn], 1, t36, .sh, [0, 1, 3, 4], [(1, 4)]⟩),
(149, ⟨[.ro (.int .i64), .ro (.int .i64), .ro (.int .i64)], 1, t36, .sh, [0, 1, 2, 6], [(1, 8)]⟩),
(205, ⟨[.ro (.int .i64)], 1, t36, .sh, [0, 2], [(1, 2)]⟩),
(135, ⟨[.ro t0, .ro (.int .i64)], 1, t11, .sh, [0, 1, 4, 5, 10], [(5, 0), (2, 0), (4, 0)]⟩),
(220, ⟨[.ro .str], 1, t36, .sh, [0, 2], [(1, 3)]⟩),
(137, ⟨[.ro t23], 1, t11, .sh, [0, 1, 2], [(1, 5)]⟩),
(156, ⟨[.ro t23], 1, t36, .sh, [0, 1, 2], [(1, 51)]⟩),
(254, ⟨[.ro .str, .ro (.ptr .fn)], 1, t36, .sh, [0, 1, 3], [(1, 4)]⟩),
(308, ⟨[.ro (.sl .str), .ro .fn], 1, t11, .sh, [0, 1, 4, 5, 7, 8, 9, 16], [(7, 0), (5, 1)]⟩),
(253, ⟨[.ro (.sl .str), .ro .fn], 1, t36, .sh, [0, 1, 4], [(1, 4)]⟩),
(185, ⟨[.ro (.sl .str), .ro .fn], 1, t36, .sh, [0, 1, 3, 4], [(1, 4)]⟩),
(285, ⟨[.ro .str], 1, t36, .sh, [0, 2], [(1, 3)]⟩),
(331, ⟨[.ro t24, .ro (.ptr .fn)], 1, t36, .sh, [0, 1, 2, 3], [(1, 4)]⟩),
(363, ⟨[.ro (.sl t24), .ro .fn], 1, t11, .sh, [0, 1, 4, 5, 7, 8, 9, 16], [(7, 0), (5, 1)]⟩),
(330, ⟨[.ro (.sl t24), .ro .fn], 1, t36, .sh, [0, 1, 4], [(1, 4)]⟩),
(286, ⟨[.ro (.sl t24), .ro .fn], 1, t36, .sh, [0, 1, 3, 4], [(1, 4)]⟩),
(288, ⟨[.ro (.int .i64)], 1, t36, .sh, [0, 2], [(1, 2)]⟩),
(287, ⟨[.ro t24], 1, t36, .sh, [0, 1, 2], [(1, 8)]⟩),
(221, ⟨[.ro t25], 1, t36, .sh, [0, 1, 2], [(1, 20)]⟩),
(157, ⟨[.ro t25], 1, t36, .sh, [0, 1, 2], [(1, 8)]⟩),
(82, ⟨[.ro t26], 1, t36, .sh, [0, 1, 2], [(1, 23)]⟩),
(270, ⟨[.ro t4, .ro (.ptr .fn)], 1, t36, .sh, [0, 1, 2, 3], [(1, 4)]⟩),
(316, ⟨[.ro (.sl t4), .ro .fn], 1, t11, .sh, [0, 1, 4, 5, 7, 8, 9, 16], [(7, 0), (5, 1)]⟩),
(269, ⟨[.ro (.sl t4), .ro .fn], 1, t36, .sh, [0, 1, 4], [(1, 4)]⟩),
(206, ⟨[.ro (.sl t4), .ro .fn], 1, t36, .sh, [0, 1, 3, 4], [(1, 4)]⟩),
(318, ⟨[.ro t3, .ro (.ptr .fn)], 1, t36, .sh, [0, 1, 2, 3], [(1, 4)]⟩),
(352, ⟨[.ro (.sl t3), .ro .fn], 1, t11, .sh, [0, 1, 4, 5, 7, 8, 9, 16], [(7, 0), (5, 1)]⟩),
(317, ⟨[.ro (.sl t3), .ro .fn], 1, t36, .sh, [0, 1, 4], [(1, 4)]⟩),
(271, ⟨[.ro (.sl t3), .ro .fn], 1, t36, .sh, [0, 1, 3, 4], [(1, 4)]⟩),
(228, ⟨[.ro (.int .i64)], 1, t36, .sh, [0, 2], [(1, 2)]⟩),
(319, ⟨[.ro (.int .i64)], 1, t36, .sh, [0, 2], [(1, 6)]⟩),
(235, ⟨[.ro (.int .i64)], 1, t36, .sh, [0, 2], [(1, 2)]⟩),
(272, ⟨[.ro t3], 1, t36, .sh, [0, 1, 2, 12, 13, 20], [(2, 0), (7, 3), (4, 3), (6, 3)]⟩),
(207, ⟨[.ro t4], 1, t36, .sh, [0, 1, 2], [(1, 9)]⟩),
(136, ⟨[.ro (.sl t4)], 1, t36, .sh, [0, 2], [(1, 7)]⟩),
(69, ⟨[.ro t26, .ro (.sl t4), .ro t0], 1, t11, .sh, [0, 1, 2, 3, 6, 7, 15, 19, 28], [(2, 0), (5, 1), (8, 0), (7, 0)]⟩),
(87, ⟨[.ro t26], 1, t11, .sh, [0, 1, 2, 3, 6], [(5, 0), (2, 0), (4, 0)]⟩),
(138, ⟨[.ro (.int .i64)], 1, t11, .sh, [0, 2], [(1, 3)]⟩),
(141, ⟨[.ro (.int .i64), .ro (.int .i64)], 1, t11, .sh, [0, 1, 4], [(1, 4)]⟩),
(209, ⟨[.ro (.int .i64), .ro (.int .i64), .ro (.int .i64)], 1, t2, .sh, [0, 1, 2, 6], [(1, 10)]⟩),
(273, ⟨[.ro .str, .ro .str, .ro (.int .i64), .ro .str], 1, t2, .sh, [], []⟩),
(325, ⟨[.ro .str], 1, t2, .sh, [0, 2], [(1, 8)]⟩),
(356, ⟨[.ro .str], 1, t2, .sh, [0, 2, 3, 4, 5, 10, 20], mvD [(10, 2)] [(15, [0, 2, 5, 10, 20]), (27, [0, 2, 4, 10, 20])]⟩),
(355, ⟨[.ro .str], 1, t42, .sh, [0, 2, 3, 4, 5, 6, 7, 9, 10, 11, 12, 16, 17, 27], mvD [(13, 1)] [(85, [0, 4, 5, 6, 7, 12, 16, 17, 27]), (57, [0, 6, 7, 12, 17, 27])]⟩),
(379, ⟨[.ro t41], 1, t42, .sh, [0, 1, 2, 3, 4, 5, 6, 7, 8], mvD [(13, 1)] [(88, [0, 3, 4, 6, 7, 8]), (51, [0, 4, 6, 8])]⟩),
(357, ⟨[.ro t41, .ro t41], 1, t42, .sh, [0, 1, 2, 3, 4, 5, 6, 7], mvD [(6, 2)] [(18, [0, 1, 5, 7])]⟩),
(358, ⟨[.ro t41, .ro t41], 1, t42, .sh, [0, 1, 2, 3, 4, 5, 6, 7, 8, 9, 10, 11, 12, 15, 16, 17, 23], mvD [(13, 2)] [(85, [0, 1, 2, 6, 7, 8, 9, 12, 15, 16, 17, 23]), (57, [0, 1, 2, 8, 9, 12, 17, 23])]⟩),
(359, ⟨[.ro t41], 1, t42, .sh, [0, 1, 2, 3, 4, 5, 10, 19, 26, 28, 29], mvD [(8, 1), (14, 1)] [(35, [0, 5, 10, 19, 26, 28, 29]), (50, [0, 4, 5, 10, 19, 26, 29])]⟩),
(360, ⟨[.ro t41, .ro .str], 1, t2, .sh, [0, 1, 2, 4, 5, 6, 7, 8, 9, 10, 13, 14, 15, 17, 18], mvD [(17, 2)] [(143, [0, 4, 7, 8, 9, 10, 15, 17, 18]), (55, [0, 4, 9, 10, 15, 18])]⟩),
(324, ⟨[.ro .str, .ro .str], 1, t2, .sh, [0, 1, 4, 5, 6, 7, 14], mvD [(7, 5)] [(18, [4, 14])]⟩),
(274, ⟨[.ro .str, .ro .str, .ro .str, .ro .str], 1, t2, .sh, [0, 1, 2, 3, 8], [(1, 18)]⟩),
(208, ⟨[.ro .str, .ro .str, .ro .str, .ro .str], 1, t2, .sh, [0, 1, 2, 3, 8, 9], [(2, 7)]⟩),
(140, ⟨[.ro .str, .ro (.int .i64), .ro (.int .i64), .ro (.int .i64), .ro .str], 1, t2, .sh, [0, 1, 2, 3, 4, 10], [(1, 7)]⟩),
(143, ⟨[.ro .str, .ro .str], 1, t2, .sh, [0, 1, 4], [(1, 5)]⟩),
(112, ⟨[.ro (.sl .str)], 1, t28, (.pr (.own .sh) .sh), [900000, 0, 2, 4], [(3, 3), (2, 0)]⟩),
(113, ⟨[.ro (.sl t24)], 1, t30, (.pr (.own .sh) .sh), [900000, 0, 2, 4], [(3, 3), (2, 0)]⟩),
(48, ⟨[.ro t25], 1, t31, (.pr (.pr (.own .sh) (.pr (.own .sh) .sh)) .sh), [0, 1, 2], [(1, 7)]⟩),
(144, ⟨[.ro t25, .ro (.int .i64), .ro .str], 1, t31, (.pr (.pr (.own .sh) (.pr (.own .sh) .sh)) .sh), [0, 1, 2, 3, 6, 7], [(3, 1)]⟩),
(70, ⟨[.ro t26, .ro (.sl t4), .ro t0], 3, t43, (.pr (.pr (.own .sh) (.pr (.own .sh) .sh)) .sh), [0, 1, 2, 3, 6, 7, 8, 9, 10, 11, 12, 13, 17, 30], [(3, 3), (3, 4), (3, 5), (5, 2), (5, 3), (5, 4), (12, 6), (12, 7), (12, 8)]⟩),
(71, ⟨[.ro t26], 1, t32, (.pr (.pr .sh (.pr .sh (.pr (.pr (.own .sh) (.pr (.own .sh) .sh)) .sh))) .sh), [0, 1, 2], [(2, 1)]⟩),
(145, ⟨[.ro t25, .ro t0], 1, t31, (.pr (.pr (.own .sh) (.pr (.own .sh) .sh)) .sh), [0, 1, 2, 4, 5, 6, 7, 8, 9, 10, 16, 17, 18, 19, 25, 33, 34, 43], mvD [(16, 1)] [(130, [0, 2, 6, 7, 8, 9, 10, 19, 25, 33, 34, 43])]⟩),
(72, ⟨[.ro t25], 1, t31, (.pr (.pr (.own .sh) (.pr (.own .sh) .sh)) .sh), [0, 1, 2], [(1, 3)]⟩),
(25, ⟨[.ro t26, .ro (.sl t4), .ro t0], 2, t40, (.pr (.pr .sh (.pr .sh (.pr (.pr (.own .sh) (.pr (.own .sh) .sh)) .sh))) .sh), [0, 1, 2, 3, 6, 7, 8, 9, 10, 11, 17, 29], [(3, 2), (3, 3), (6, 3), (6, 4), (8, 1), (8, 2)]⟩),
(73, ⟨[.ro t23, .ro t23], 1, t36, .sh, [0, 1, 2, 3, 4, 9, 14, 19, 24, 29, 34, 39], [(2, 0), (4, 0), (6, 0), (8, 0), (10, 0), (12, 0), (15, 0), (14, 0)]⟩),
(114, ⟨[.ro (.sl .str), .ro (.sl .str)], 1, t36, .sh, [0, 1, 4, 5, 10, 14, 25], [(2, 0), (8, 0), (7, 0)]⟩),
(192, ⟨[.ro t24, .ro t24], 1, t36, .sh, [0, 1, 2, 3, 4, 9, 14], [(2, 0), (5, 0), (4, 0)]⟩),
(115, ⟨[.ro (.sl t24), .ro (.sl t24)], 1, t36, .sh, [0, 1, 4, 5, 10, 14, 26], [(2, 0), (8, 0), (7, 0)]⟩),
(49, ⟨[.ro t25, .ro t25], 1, t36, .sh, [0, 1, 2, 3, 4, 10, 16], [(2, 0), (5, 0), (4, 0)]⟩),
(26, ⟨[.ro t26, .ro t26], 1, t36, .sh, [0, 1, 2, 3, 4, 9, 15, 21, 26, 31], [(2, 0), (4, 0), (6, 0), (8, 0), (11, 0), (10, 0)]⟩),
(212, ⟨[.ro t3, .ro t3], 1, t36, .sh, [0, 1, 2, 3, 4, 9, 14, 19], [(2, 0), (4, 0), (7, 0), (6, 0)]⟩),
(146, ⟨[.ro (.sl t3), .ro (.sl t3)], 1, t36, .sh, [0, 1, 4, 5, 10, 14, 26], [(2, 0), (8, 0), (7, 0)]⟩),
(74, ⟨[.ro t4, .ro t4], 1, t36, .sh, [0, 1, 2, 3, 4, 10], [(3, 0), (2, 0)]⟩),
(27, ⟨[.ro (.sl t4), .ro (.sl t4)], 1, t36, .sh, [0, 1, 4, 5, 10, 14, 26], [(2, 0), (8, 0), (7, 0)]⟩),
(14, ⟨[.ro t0, .ro t0], 1, t36, .sh, [0, 1, 4, 5, 10, 14, 25], [(2, 0), (8, 0), (7, 0)]⟩),
(193, ⟨[.ro (.int .i64)], 1, t2, .sh, [0, 2, 3, 5, 7], [(2, 0), (7, 2)]⟩),
(117, ⟨[.io (.sl .str) (.own .sh) (.own .sh) 0 [], .ro (.int .i64)], 1, t44, (.pr .sh (.pr (.own .sh) .sh)), [0, 1, 4, 5, 9], [(6, 1)]⟩),
(118, ⟨[.io (.sl t24) (.own .sh) (.own .sh) 0 [], .ro (.int .i64)], 1, t45, (.pr .sh (.pr (.own .sh) .sh)), [0, 1, 4, 5, 9], [(8, 1)]⟩),
(52, ⟨[.io t25 (.pr (.own .sh) (.pr (.own .sh) .sh)) (.pr (.own .sh) (.pr (.own .sh) .sh)) 2 [.der], .ro (.int .i64)], 1, t46, (.pr .sh (.pr (.pr (.own .sh) (.pr (.own .sh) .sh)) .sh)), [0, 1, 2, 4], [(3, 1)]⟩),
(28, ⟨[.io t26 (.pr .sh (.pr .sh (.pr (.pr (.own .sh) (.pr (.own .sh) .sh)) .sh))) (.pr .sh (.pr .sh (.pr (.pr (.own .sh) (.pr (.own .sh) .sh)) .sh))) 2 [.der], .ro (.int .i64)], 1, t47, (.pr .sh (.pr (.pr .sh (.pr .sh (.pr (.pr (.own .sh) (.pr (.own .sh) .sh)) .sh))) .sh)), [0, 1, 2, 4], [(2, 1)]⟩),
(75, ⟨[.io (.sl t3) (.own .sh) (.own .sh) 0 [], .ro (.int .i64)], 1, t48, (.pr .sh (.pr (.own .sh) .sh)), [0, 1, 4, 5, 9], [(10, 1)]⟩),
(29, ⟨[.io (.sl t4) (.own (.pr (.own .sh) .sh)) (.own (.pr (.own .sh) .sh)) 0 [], .ro (.int .i64)], 1, t49, (.pr .sh (.pr (.own (.pr (.own .sh) .sh)) .sh)), [0, 1, 4, 5, 9], [(5, 1)]⟩),
(15, ⟨[.io t0 (.own .sh) (.own .sh) 0 [], .ro (.int .i64)], 1, t50, (.pr .sh (.pr (.own .sh) .sh)), [0, 1, 4, 5, 9], [(6, 1)]⟩),
(119, ⟨[.ro (.sl .str), .ro (.int .i64)], 1, t11, .sh, [0, 1, 4, 5, 9, 18], [(7, 1), (5, 0)]⟩),
(120, ⟨[.ro (.sl t24), .ro (.int .i64)], 1, t11, .sh, [0, 1, 4, 5, 9, 18, 28], [(10, 1), (5, 0), (8, 0)]⟩),
(55, ⟨[.ro t25, .ro (.int .i64)], 1, t11, .sh, [0, 1, 2, 4, 10, 16], [(3, 0), (7, 1), (6, 0)]⟩),
(30, ⟨[.ro t26, .ro (.int .i64)], 1, t11, .sh, [0, 1, 2, 4, 10], [(4, 1), (3, 0)]⟩),
(5, ⟨[.ro t26, .ro (.sl t4), .ro t0], 1, t36, .sh, [0, 1, 2, 3, 6, 7, 8, 9, 10, 11, 12, 13, 14, 15, 16, 17, 18, 19, 22, 27, 32, 64, 69, 74, 79, 101, 109, 112, 131, 136, 139], [(2, 0), (6, 0), (9, 0), (16, 0), (18, 0), (20, 0), (22, 0), (28, 0), (34, 0), (36, 0), (39, 0), (43, 0), (46, 0), (45, 0)]⟩)]
noncomputable def EE : Env := ⟨Go.Proofs.Tryz.prog, lookC cfgs⟩
variable (R : Run EE) (L : Loops)
noncomputable def c_slices_Clone___int_int_ (x0 : List Int) : Option d51 := R 210 [⟨t0, x0⟩]
noncomputable def c_impl_intsText (x0 : List Int) : Option d52 := R 275 [⟨t0, x0⟩]
noncomputable def c_impl_textOf (x0 : List Int) (x1 : Int) : Option d52 := R 211 [⟨t0, x0⟩, ⟨(.int .i64), x1⟩]
noncomputable def c_impl_entryText (x0 : List d54) (x1 : List Int) : Option d52 := R 142 [⟨(.sl t4), x0⟩, ⟨t0, x1⟩]
noncomputable def c_spec_l02Bytes (x0 : List Int) (x1 : Int) : Option d51 := R 263 [⟨t5, x0⟩, ⟨(.int .i64), x1⟩]
noncomputable def c_spec_l06Ints (x0 : List Int) : Option d52 := R 197 [⟨t0, x0⟩]
noncomputable def c_spec_l12Fill (x0 : List Int) (x1 : Int) : Option d52 := R 266 [⟨t0, x0⟩, ⟨(.int .i64), x1⟩]
noncomputable def c_spec_l12Entry (x0 : List d54) (x1 : List Int) : Option d52 := R 200 [⟨(.sl t4), x0⟩, ⟨t0, x1⟩]
noncomputable def c_spec_l01Start : Option d51 := R 305 []
noncomputable def c_spec_NewHash : Option d56 := R 250 []
noncomputable def c_spec_l01Word (x0 : List UInt8) (x1 : Int) : Option d57 := R 341 [⟨.str, x0⟩, ⟨(.int .i64), x1⟩]
noncomputable def c_spec_l01Right (x0 x1 : Int) : Option d57 := R 342 [⟨(.int .i64), x0⟩, ⟨(.int .i64), x1⟩]
noncomputable def c_spec_l01Table : Option d51 := R 343 []
noncomputable def c_spec_l01Block (x0 : List Int) (x1 : List UInt8) : Option d51 := R 304 [⟨t7, x0⟩, ⟨.str, x1⟩]
noncomputable def c_spec_l01More (x0 : d55) (x1 : List UInt8) : Option d56 := R 249 [⟨t9, x0⟩, ⟨.str, x1⟩]
noncomputable def c_spec_l01Sum (x0 : d55) : Option d52 := R 248 [⟨t9, x0⟩]
noncomputable def c_spec_l01Of (x0 : List UInt8) : Option d52 := R 181 [⟨.str, x0⟩]
noncomputable def c_impl_NewHash : Option d56 := R 257 []
noncomputable def c_impl_constants : Option d51 := R 309 []
noncomputable def c_math_bits_RotateLeft32 (x0 x1 : Int) : Option d57 := R 367 [⟨(.int .u32), x0⟩, ⟨(.int .i64), x1⟩]
noncomputable def c_impl_turned (x0 x1 : Int) : Option d57 := R 344 [⟨(.int .u32), x0⟩, ⟨(.int .i64), x1⟩]
noncomputable def c_pimpl_Hash_block (x0 : d55) (x1 : List UInt8) (x2 : List Int) : Option d56 := R 310 [⟨(.ptr t9), x0⟩, ⟨.str, x1⟩, ⟨(.ptr t14), x2⟩]
noncomputable def c_impl_Hash_more (x0 : d55) (x1 : List UInt8) : Option d56 := R 258 [⟨t9, x0⟩, ⟨.str, x1⟩]
noncomputable def c_strings_Repeat (x0 : List UInt8) (x1 : Int) : Option d52 := R 311 [⟨.str, x0⟩, ⟨(.int .i64), x1⟩]
noncomputable def c_impl_Hash_sum (x0 : d55) : Option d52 := R 259 [⟨t9, x0⟩]
noncomputable def c_impl_digest (x0 : List UInt8) : Option d52 := R 190 [⟨.str, x0⟩]
noncomputable def c_impl_little (x0 x1 : Int) : Option d52 := R 139 [⟨(.int .i64), x0⟩, ⟨(.int .i64), x1⟩]
noncomputable def c_impl_littleWord (x0 : List UInt8) : Option d57 := R 332 [⟨.str, x0⟩]
noncomputable def c_impl_quarter (x0 x1 x2 x3 : Int) : Option d58 := R 354 [⟨(.int .u32), x0⟩, ⟨(.int .u32), x1⟩, ⟨(.int .u32), x2⟩, ⟨(.int .u32), x3⟩]
noncomputable def c_impl_stream (x0 x1 : List UInt8) (x2 : Int) : Option d52 := R 322 [⟨.str, x0⟩, ⟨.str, x1⟩, ⟨(.int .i64), x2⟩]
noncomputable def c_spec_l02Word (x0 : List UInt8) (x1 : Int) : Option d57 := R 361 [⟨.str, x0⟩, ⟨(.int .i64), x1⟩]
noncomputable def c_spec_l02Left (x0 x1 : Int) : Option d57 := R 382 [⟨(.int .i64), x0⟩, ⟨(.int .i64), x1⟩]
noncomputable def c_spec_l02Quarter (x0 x1 x2 x3 : Int) : Option d51 := R 381 [⟨(.int .i64), x0⟩, ⟨(.int .i64), x1⟩, ⟨(.int .i64), x2⟩, ⟨(.int .i64), x3⟩]
noncomputable def c_spec_l02Round (x0 : List Int) (x1 x2 x3 x4 : Int) : Option d51 := R 372 [⟨t21, x0⟩, ⟨(.int .i64), x1⟩, ⟨(.int .i64), x2⟩, ⟨(.int .i64), x3⟩, ⟨(.int .i64), x4⟩]
noncomputable def c_spec_l02Block (x0 x1 : List UInt8) (x2 : Int) : Option d52 := R 349 [⟨.str, x0⟩, ⟨.str, x1⟩, ⟨(.int .i64), x2⟩]
noncomputable def c_impl_xor (x0 x1 : List UInt8) : Option d52 := R 321 [⟨.str, x0⟩, ⟨.str, x1⟩]
noncomputable def c_spec_l02Xor (x0 x1 : List UInt8) (x2 : Int) (x3 : List UInt8) : Option d52 := R 313 [⟨.str, x0⟩, ⟨.str, x1⟩, ⟨(.int .i64), x2⟩, ⟨.str, x3⟩]
noncomputable def c_laws_szRegister (x0 : d59) (x1 : Int) : Option d57 := R 60 [⟨t23, x0⟩, ⟨(.int .i64), x1⟩]
noncomputable def c_laws_szStringS (x0 : List (List UInt8)) (x1 : Int) : Option d57 := R 122 [⟨(.sl .str), x0⟩, ⟨(.int .i64), x1⟩]
noncomputable def c_laws_szIo (x0 : d60) (x1 : Int) : Option d57 := R 195 [⟨t24, x0⟩, ⟨(.int .i64), x1⟩]
noncomputable def c_laws_szIoS (x0 : List d60) (x1 : Int) : Option d57 := R 123 [⟨(.sl t24), x0⟩, ⟨(.int .i64), x1⟩]
noncomputable def c_laws_szDevice (x0 : d61) (x1 : Int) : Option d57 := R 61 [⟨t25, x0⟩, ⟨(.int .i64), x1⟩]
noncomputable def c_laws_szStore (x0 : d62) (x1 : Int) : Option d57 := R 20 [⟨t26, x0⟩, ⟨(.int .i64), x1⟩]
noncomputable def c_laws_szOpS (x0 : List d53) (x1 : Int) : Option d57 := R 124 [⟨(.sl t3), x0⟩, ⟨(.int .i64), x1⟩]
noncomputable def c_laws_szTxn (x0 : d54) (x1 : Int) : Option d57 := R 62 [⟨t4, x0⟩, ⟨(.int .i64), x1⟩]
noncomputable def c_laws_szTxnS (x0 : List d54) (x1 : Int) : Option d57 := R 21 [⟨(.sl t4), x0⟩, ⟨(.int .i64), x1⟩]
noncomputable def c_laws_toRegister (x0 : d59) : Option d63 := R 66 [⟨t23, x0⟩]
noncomputable def c_laws_toStringS (x0 : List (List UInt8)) : Option d64 := R 132 [⟨(.sl .str), x0⟩]
noncomputable def c_laws_toIo (x0 : d60) : Option d65 := R 202 [⟨t24, x0⟩]
noncomputable def c_laws_toIoS (x0 : List d60) : Option d66 := R 133 [⟨(.sl t24), x0⟩]
noncomputable def c_laws_toDevice (x0 : d61) : Option d67 := R 67 [⟨t25, x0⟩]
noncomputable def c_laws_toStore (x0 : d62) : Option d68 := R 23 [⟨t26, x0⟩]
noncomputable def c_laws_toOp (x0 : d53) : Option d69 := R 203 [⟨t3, x0⟩]
noncomputable def c_laws_toOpS (x0 : List d53) : Option d54 := R 134 [⟨(.sl t3), x0⟩]
noncomputable def c_laws_toTxn (x0 : d54) : Option d70 := R 68 [⟨t4, x0⟩]
noncomputable def c_laws_toTxnS (x0 : List d54) : Option d71 := R 24 [⟨(.sl t4), x0⟩]
noncomputable def c_laws_toIntS (x0 : List Int) : Option d51 := R 11 [⟨t0, x0⟩]
noncomputable def c_spec_l01In (x0 x1 x2 : Int) : Option d72 := R 102 [⟨(.int .i64), x0⟩, ⟨(.int .i64), x1⟩, ⟨(.int .i64), x2⟩]
noncomputable def c_spec_l08Leaves (x0 : List Int) : Option d72 := R 44 [⟨t0, x0⟩]
noncomputable def c_spec_l11Draws (x0 : List Int) (x1 : Int) : Option d57 := R 125 [⟨t0, x0⟩, ⟨(.int .i64), x1⟩]
noncomputable def c_spec_RegisterOK (x0 : d59) : Option d72 := R 151 [⟨t23, x0⟩]
noncomputable def c_spec_l05In (x0 : Int) : Option d72 := R 214 [⟨(.int .i64), x0⟩]
noncomputable def c_spec_DeviceOK (x0 : d61) : Option d72 := R 152 [⟨t25, x0⟩]
noncomputable def c_spec_StoreOK (x0 : d62) : Option d72 := R 80 [⟨t26, x0⟩]
noncomputable def c_spec_OpOK (x0 : d53) : Option d72 := R 262 [⟨t3, x0⟩]
noncomputable def c_spec_l09Txn (x0 : d54) : Option d72 := R 196 [⟨t4, x0⟩]
noncomputable def c_spec_BatchOK (x0 : List d54) : Option d72 := R 126 [⟨(.sl t4), x0⟩]
noncomputable def c_spec_l13Batch (x0 : d62) (x1 : List d54) (x2 : List Int) : Option d57 := R 63 [⟨t26, x0⟩, ⟨(.sl t4), x1⟩, ⟨t0, x2⟩]
noncomputable def c_spec_l13Ask (x0 : d62) : Option d57 := R 127 [⟨t26, x0⟩]
noncomputable def c_spec_l13Room (x0 : d62) : Option d57 := R 128 [⟨t26, x0⟩]
noncomputable def c_spec_l13Number (x0 x1 : Int) : Option d57 := R 199 [⟨(.int .i64), x0⟩, ⟨(.int .i64), x1⟩]
noncomputable def c_spec_l04Eight (x0 : Int) : Option d52 := R 312 [⟨(.int .i64), x0⟩]
noncomputable def c_spec_l06Nonce (x0 x1 x2 : Int) : Option d52 := R 264 [⟨(.int .i64), x0⟩, ⟨(.int .i64), x1⟩, ⟨(.int .i64), x2⟩]
noncomputable def c_spec_l04Pad (x0 : List UInt8) : Option d52 := R 351 [⟨.str, x0⟩]
noncomputable def c_spec_l03Clamp (x0 : List UInt8) : Option d52 := R 374 [⟨.str, x0⟩]
noncomputable def c_spec_l03Parts (x0 : List UInt8) : Option d51 := R 373 [⟨.str, x0⟩]
noncomputable def c_spec_l03Carry (x0 : List Int) : Option d51 := R 377 [⟨t37, x0⟩]
noncomputable def c_spec_l03Times (x0 x1 : List Int) : Option d51 := R 375 [⟨t37, x0⟩, ⟨t37, x1⟩]
noncomputable def c_spec_l03Less (x0 : List Int) : Option d51 := R 376 [⟨t37, x0⟩]
noncomputable def c_spec_l03Tag (x0 x1 : List UInt8) : Option d52 := R 350 [⟨.str, x0⟩, ⟨.str, x1⟩]
noncomputable def c_spec_l04Tag (x0 x1 x2 x3 : List UInt8) : Option d52 := R 314 [⟨.str, x0⟩, ⟨.str, x1⟩, ⟨.str, x2⟩, ⟨.str, x3⟩]
noncomputable def c_spec_l04Seal (x0 x1 x2 x3 : List UInt8) : Option d52 := R 265 [⟨.str, x0⟩, ⟨.str, x1⟩, ⟨.str, x2⟩, ⟨.str, x3⟩]
noncomputable def c_spec_l06Seal (x0 : List UInt8) (x1 x2 x3 : Int) (x4 : List UInt8) : Option d52 := R 198 [⟨.str, x0⟩, ⟨(.int .i64), x1⟩, ⟨(.int .i64), x2⟩, ⟨(.int .i64), x3⟩, ⟨.str, x4⟩]
noncomputable def c_spec_l05Write (x0 : d61) (x1 : Int) (x2 : List UInt8) : Option d67 := R 201 [⟨t25, x0⟩, ⟨(.int .i64), x1⟩, ⟨.str, x2⟩]
noncomputable def c_spec_l13Entry (x0 : d62) (x1 : List d54) (x2 : List Int) : Option d73 := R 129 [⟨t26, x0⟩, ⟨(.sl t4), x1⟩, ⟨t0, x2⟩]
noncomputable def c_spec_l05Sync (x0 : d61) : Option d67 := R 130 [⟨t25, x0⟩]
noncomputable def c_spec_l07Chain (x0 x1 : List UInt8) : Option d52 := R 131 [⟨.str, x0⟩, ⟨.str, x1⟩]
noncomputable def c_spec_l13Submit (x0 : d62) (x1 : List d54) (x2 : List Int) : Option d74 := R 64 [⟨t26, x0⟩, ⟨(.sl t4), x1⟩, ⟨t0, x2⟩]
noncomputable def c_spec_l05Own (x0 : d61) : Option d67 := R 103 [⟨t25, x0⟩]
noncomputable def c_spec_l13Own (x0 : d62) : Option d68 := R 65 [⟨t26, x0⟩]
noncomputable def c_spec_Submit (x0 : d62) (x1 : List d54) (x2 : List Int) : Option d74 := R 22 [⟨t26, x0⟩, ⟨(.sl t4), x1⟩, ⟨t0, x2⟩]
noncomputable def c_impl_areAll_int__1 (x0 : Int) (x1 : FnVal) : Option d72 := R 268 [⟨(.int .i64), x0⟩, ⟨(.ptr .fn), x1⟩]
noncomputable def c_slices_IndexFunc___int_int_ (x0 : List Int) (x1 : FnVal) : Option d57 := R 315 [⟨t0, x0⟩, ⟨.fn, x1⟩]
noncomputable def c_slices_ContainsFunc___int_int_ (x0 : List Int) (x1 : FnVal) : Option d72 := R 267 [⟨t0, x0⟩, ⟨.fn, x1⟩]
noncomputable def c_impl_areAll_int_ (x0 : List Int) (x1 : FnVal) : Option d72 := R 204 [⟨t0, x0⟩, ⟨.fn, x1⟩]
noncomputable def c_impl_within (x0 x1 x2 : Int) : Option d72 := R 149 [⟨(.int .i64), x0⟩, ⟨(.int .i64), x1⟩, ⟨(.int .i64), x2⟩]
noncomputable def c_impl_isLeaf (x0 : Int) : Option d72 := R 205 [⟨(.int .i64), x0⟩]
noncomputable def c_impl_drawsCode (x0 : List Int) (x1 : Int) : Option d57 := R 135 [⟨t0, x0⟩, ⟨(.int .i64), x1⟩]
noncomputable def c_impl_isDigest (x0 : List UInt8) : Option d72 := R 220 [⟨.str, x0⟩]
noncomputable def c_impl_Register_waiting (x0 : d59) : Option d57 := R 137 [⟨t23, x0⟩]
noncomputable def c_impl_RegisterOK (x0 : d59) : Option d72 := R 156 [⟨t23, x0⟩]
noncomputable def c_impl_areAll_string__1 (x0 : List UInt8) (x1 : FnVal) : Option d72 := R 254 [⟨.str, x0⟩, ⟨(.ptr .fn), x1⟩]
noncomputable def c_slices_IndexFunc___string_string_ (x0 : List (List UInt8)) (x1 : FnVal) : Option d57 := R 308 [⟨(.sl .str), x0⟩, ⟨.fn, x1⟩]
noncomputable def c_slices_ContainsFunc___string_string_ (x0 : List (List UInt8)) (x1 : FnVal) : Option d72 := R 253 [⟨(.sl .str), x0⟩, ⟨.fn, x1⟩]
noncomputable def c_impl_areAll_string_ (x0 : List (List UInt8)) (x1 : FnVal) : Option d72 := R 185 [⟨(.sl .str), x0⟩, ⟨.fn, x1⟩]
noncomputable def c_impl_isContent (x0 : List UInt8) : Option d72 := R 285 [⟨.str, x0⟩]
noncomputable def c_impl_areAll_impl_Io__1 (x0 : d60) (x1 : FnVal) : Option d72 := R 331 [⟨t24, x0⟩, ⟨(.ptr .fn), x1⟩]
noncomputable def c_slices_IndexFunc___impl_Io_impl_Io_ (x0 : List d60) (x1 : FnVal) : Option d57 := R 363 [⟨(.sl t24), x0⟩, ⟨.fn, x1⟩]
noncomputable def c_slices_ContainsFunc___impl_Io_impl_Io_ (x0 : List d60) (x1 : FnVal) : Option d72 := R 330 [⟨(.sl t24), x0⟩, ⟨.fn, x1⟩]
noncomputable def c_impl_areAll_impl_Io_ (x0 : List d60) (x1 : FnVal) : Option d72 := R 286 [⟨(.sl t24), x0⟩, ⟨.fn, x1⟩]
noncomputable def c_impl_isSector (x0 : Int) : Option d72 := R 288 [⟨(.int .i64), x0⟩]
noncomputable def c_impl_DeviceOK_1 (x0 : d60) : Option d72 := R 287 [⟨t24, x0⟩]
noncomputable def c_impl_DeviceOK (x0 : d61) : Option d72 := R 221 [⟨t25, x0⟩]
noncomputable def c_impl_isSure (x0 : d61) : Option d72 := R 157 [⟨t25, x0⟩]
noncomputable def c_impl_StoreOK (x0 : d62) : Option d72 := R 82 [⟨t26, x0⟩]
noncomputable def c_impl_areAll_impl_Txn__1 (x0 : d54) (x1 : FnVal) : Option d72 := R 270 [⟨t4, x0⟩, ⟨(.ptr .fn), x1⟩]
noncomputable def c_slices_IndexFunc___impl_Txn_impl_Txn_ (x0 : List d54) (x1 : FnVal) : Option d57 := R 316 [⟨(.sl t4), x0⟩, ⟨.fn, x1⟩]
noncomputable def c_slices_ContainsFunc___impl_Txn_impl_Txn_ (x0 : List d54) (x1 : FnVal) : Option d72 := R 269 [⟨(.sl t4), x0⟩, ⟨.fn, x1⟩]
noncomputable def c_impl_areAll_impl_Txn_ (x0 : List d54) (x1 : FnVal) : Option d72 := R 206 [⟨(.sl t4), x0⟩, ⟨.fn, x1⟩]
noncomputable def c_impl_areAll_impl_Op__1 (x0 : d53) (x1 : FnVal) : Option d72 := R 318 [⟨t3, x0⟩, ⟨(.ptr .fn), x1⟩]
noncomputable def c_slices_IndexFunc___impl_Op_impl_Op_ (x0 : List d53) (x1 : FnVal) : Option d57 := R 352 [⟨(.sl t3), x0⟩, ⟨.fn, x1⟩]
noncomputable def c_slices_ContainsFunc___impl_Op_impl_Op_ (x0 : List d53) (x1 : FnVal) : Option d72 := R 317 [⟨(.sl t3), x0⟩, ⟨.fn, x1⟩]
noncomputable def c_impl_areAll_impl_Op_ (x0 : List d53) (x1 : FnVal) : Option d72 := R 271 [⟨(.sl t3), x0⟩, ⟨.fn, x1⟩]
noncomputable def c_impl_isKey (x0 : Int) : Option d72 := R 228 [⟨(.int .i64), x0⟩]
noncomputable def c_impl_isBare (x0 : Int) : Option d72 := R 319 [⟨(.int .i64), x0⟩]
noncomputable def c_impl_isValue (x0 : Int) : Option d72 := R 235 [⟨(.int .i64), x0⟩]
noncomputable def c_impl_OpOK (x0 : d53) : Option d72 := R 272 [⟨t3, x0⟩]
noncomputable def c_impl_isTxn (x0 : d54) : Option d72 := R 207 [⟨t4, x0⟩]
noncomputable def c_impl_BatchOK (x0 : List d54) : Option d72 := R 136 [⟨(.sl t4), x0⟩]
noncomputable def c_impl_submitCode (x0 : d62) (x1 : List d54) (x2 : List Int) : Option d57 := R 69 [⟨t26, x0⟩, ⟨(.sl t4), x1⟩, ⟨t0, x2⟩]
noncomputable def c_impl_Store_upCode (x0 : d62) : Option d57 := R 87 [⟨t26, x0⟩]
noncomputable def c_impl_entrySector (x0 : Int) : Option d57 := R 138 [⟨(.int .i64), x0⟩]
noncomputable def c_impl_logEpoch (x0 x1 : Int) : Option d57 := R 141 [⟨(.int .i64), x0⟩, ⟨(.int .i64), x1⟩]
noncomputable def c_impl_nonceOf (x0 x1 x2 : Int) : Option d52 := R 209 [⟨(.int .i64), x0⟩, ⟨(.int .i64), x1⟩, ⟨(.int .i64), x2⟩]
noncomputable def c_impl_chaXor (x0 x1 : List UInt8) (x2 : Int) (x3 : List UInt8) : Option d52 := R 273 [⟨.str, x0⟩, ⟨.str, x1⟩, ⟨(.int .i64), x2⟩, ⟨.str, x3⟩]
noncomputable def c_impl_padded (x0 : List UInt8) : Option d52 := R 325 [⟨.str, x0⟩]
noncomputable def c_impl_clamped (x0 : List UInt8) : Option d52 := R 356 [⟨.str, x0⟩]
noncomputable def c_impl_limbsOf (x0 : List UInt8) : Option d51 := R 355 [⟨.str, x0⟩]
noncomputable def c_impl_limbs_carried (x0 : List Int) : Option d51 := R 379 [⟨t41, x0⟩]
noncomputable def c_impl_limbs_plus (x0 x1 : List Int) : Option d51 := R 357 [⟨t41, x0⟩, ⟨t41, x1⟩]
noncomputable def c_impl_limbs_times (x0 x1 : List Int) : Option d51 := R 358 [⟨t41, x0⟩, ⟨t41, x1⟩]
noncomputable def c_impl_limbs_reduced (x0 : List Int) : Option d51 := R 359 [⟨t41, x0⟩]
noncomputable def c_impl_limbs_bytes (x0 : List Int) (x1 : List UInt8) : Option d52 := R 360 [⟨t41, x0⟩, ⟨.str, x1⟩]
noncomputable def c_impl_tag (x0 x1 : List UInt8) : Option d52 := R 324 [⟨.str, x0⟩, ⟨.str, x1⟩]
noncomputable def c_impl_boxTag (x0 x1 x2 x3 : List UInt8) : Option d52 := R 274 [⟨.str, x0⟩, ⟨.str, x1⟩, ⟨.str, x2⟩, ⟨.str, x3⟩]
noncomputable def c_impl_seal (x0 x1 x2 x3 : List UInt8) : Option d52 := R 208 [⟨.str, x0⟩, ⟨.str, x1⟩, ⟨.str, x2⟩, ⟨.str, x3⟩]
noncomputable def c_impl_sealed (x0 : List UInt8) (x1 x2 x3 : Int) (x4 : List UInt8) : Option d52 := R 140 [⟨.str, x0⟩, ⟨(.int .i64), x1⟩, ⟨(.int .i64), x2⟩, ⟨(.int .i64), x3⟩, ⟨.str, x4⟩]
noncomputable def c_impl_chain (x0 x1 : List UInt8) : Option d52 := R 143 [⟨.str, x0⟩, ⟨.str, x1⟩]
noncomputable def c_slices_Clone___string_string_ (x0 : List (List UInt8)) : Option d64 := R 112 [⟨(.sl .str), x0⟩]
noncomputable def c_slices_Clone___impl_Io_impl_Io_ (x0 : List d60) : Option d66 := R 113 [⟨(.sl t24), x0⟩]
noncomputable def c_impl_Device_own (x0 : d61) : Option d67 := R 48 [⟨t25, x0⟩]
noncomputable def c_impl_Device_write (x0 : d61) (x1 : Int) (x2 : List UInt8) : Option d67 := R 144 [⟨t25, x0⟩, ⟨(.int .i64), x1⟩, ⟨.str, x2⟩]
noncomputable def c_impl_Store_submission (x0 : d62) (x1 : List d54) (x2 : List Int) : Option d75 := R 70 [⟨t26, x0⟩, ⟨(.sl t4), x1⟩, ⟨t0, x2⟩]
noncomputable def c_impl_Store_own (x0 : d62) : Option d68 := R 71 [⟨t26, x0⟩]
noncomputable def c_impl_Device_crash (x0 : d61) (x1 : List Int) : Option d67 := R 145 [⟨t25, x0⟩, ⟨t0, x1⟩]
noncomputable def c_impl_Device_sync (x0 : d61) : Option d67 := R 72 [⟨t25, x0⟩]
noncomputable def c_impl_Submit (x0 : d62) (x1 : List d54) (x2 : List Int) : Option d74 := R 25 [⟨t26, x0⟩, ⟨(.sl t4), x1⟩, ⟨t0, x2⟩]
noncomputable def c_laws_eqRegister (x0 x1 : d59) : Option d72 := R 73 [⟨t23, x0⟩, ⟨t23, x1⟩]
noncomputable def c_laws_eqStringS (x0 x1 : List (List UInt8)) : Option d72 := R 114 [⟨(.sl .str), x0⟩, ⟨(.sl .str), x1⟩]
noncomputable def c_laws_eqIo (x0 x1 : d60) : Option d72 := R 192 [⟨t24, x0⟩, ⟨t24, x1⟩]
noncomputable def c_laws_eqIoS (x0 x1 : List d60) : Option d72 := R 115 [⟨(.sl t24), x0⟩, ⟨(.sl t24), x1⟩]
noncomputable def c_laws_eqDevice (x0 x1 : d61) : Option d72 := R 49 [⟨t25, x0⟩, ⟨t25, x1⟩]
noncomputable def c_laws_eqStore (x0 x1 : d62) : Option d72 := R 26 [⟨t26, x0⟩, ⟨t26, x1⟩]
noncomputable def c_laws_eqOp (x0 x1 : d53) : Option d72 := R 212 [⟨t3, x0⟩, ⟨t3, x1⟩]
noncomputable def c_laws_eqOpS (x0 x1 : List d53) : Option d72 := R 146 [⟨(.sl t3), x0⟩, ⟨(.sl t3), x1⟩]
noncomputable def c_laws_eqTxn (x0 x1 : d54) : Option d72 := R 74 [⟨t4, x0⟩, ⟨t4, x1⟩]
noncomputable def c_laws_eqTxnS (x0 x1 : List d54) : Option d72 := R 27 [⟨(.sl t4), x0⟩, ⟨(.sl t4), x1⟩]
noncomputable def c_laws_eqIntS (x0 x1 : List Int) : Option d72 := R 14 [⟨t0, x0⟩, ⟨t0, x1⟩]
noncomputable def c_laws_markText (x0 : Int) : Option d52 := R 193 [⟨(.int .i64), x0⟩]
noncomputable def c_laws_markStringS (x0 : List (List UInt8)) (x1 : Int) : Option d76 := R 117 [⟨(.sl .str), x0⟩, ⟨(.int .i64), x1⟩]
noncomputable def c_laws_markIoS (x0 : List d60) (x1 : Int) : Option d77 := R 118 [⟨(.sl t24), x0⟩, ⟨(.int .i64), x1⟩]
noncomputable def c_laws_markDevice (x0 : d61) (x1 : Int) : Option d78 := R 52 [⟨t25, x0⟩, ⟨(.int .i64), x1⟩]
noncomputable def c_laws_markStore (x0 : d62) (x1 : Int) : Option d79 := R 28 [⟨t26, x0⟩, ⟨(.int .i64), x1⟩]
noncomputable def c_laws_markOpS (x0 : List d53) (x1 : Int) : Option d80 := R 75 [⟨(.sl t3), x0⟩, ⟨(.int .i64), x1⟩]
noncomputable def c_laws_markTxnS (x0 : List d54) (x1 : Int) : Option d81 := R 29 [⟨(.sl t4), x0⟩, ⟨(.int .i64), x1⟩]
noncomputable def c_laws_markIntS (x0 : List Int) (x1 : Int) : Option d82 := R 15 [⟨t0, x0⟩, ⟨(.int .i64), x1⟩]
noncomputable def c_laws_heldStringS (x0 : List (List UInt8)) (x1 : Int) : Option d57 := R 119 [⟨(.sl .str), x0⟩, ⟨(.int .i64), x1⟩]
noncomputable def c_laws_heldIoS (x0 : List d60) (x1 : Int) : Option d57 := R 120 [⟨(.sl t24), x0⟩, ⟨(.int .i64), x1⟩]
noncomputable def c_laws_heldDevice (x0 : d61) (x1 : Int) : Option d57 := R 55 [⟨t25, x0⟩, ⟨(.int .i64), x1⟩]
noncomputable def c_laws_heldStore (x0 : d62) (x1 : Int) : Option d57 := R 30 [⟨t26, x0⟩, ⟨(.int .i64), x1⟩]
noncomputable def c_laws_FnExactSubmit (x0 : d62) (x1 : List d54) (x2 : List Int) : Option d72 := R 5 [⟨t26, x0⟩, ⟨(.sl t4), x1⟩, ⟨t0, x2⟩]
noncomputable def lp_impl_entryText_0 (v5 : List Int) (v16 : List d54) (v17 v18 : Int) (p : List Nat := [1, 1, 0, 1, 0]) : Option d52 := from_ EE R L 142 Go.Proofs.Tryz.f142 p (mk 48 [(5, .dat ⟨t0, v5, (.own .sh)⟩), (16, .dat ⟨(.sl t4), v16, .sh⟩), (17, .dat ⟨(.int .i64), v17, .sh⟩), (18, .dat ⟨(.int .i64), v18, .sh⟩)])
noncomputable def lp_impl_entryText_1 (v5 : List Int) (v16 : List d54) (v17 v18 : Int) (v29 : List d53) (v30 v31 : Int) (p : List Nat := [1, 1, 0, 1, 0, 0, 1, 1, 0, 0, 1, 1, 1, 0]) : Option d52 := from_ EE R L 142 Go.Proofs.Tryz.f142 p (mk 48 [(5, .dat ⟨t0, v5, (.own .sh)⟩), (16, .dat ⟨(.sl t4), v16, .sh⟩), (17, .dat ⟨(.int .i64), v17, .sh⟩), (18, .dat ⟨(.int .i64), v18, .sh⟩), (29, .dat ⟨(.sl t3), v29, .sh⟩), (30, .dat ⟨(.int .i64), v30, .sh⟩), (31, .dat ⟨(.int .i64), v31, .sh⟩)])
noncomputable def lp_spec_l06Ints_0 (v0 v3 : List Int) (v4 : Int) (p : List Nat := [1, 1, 0, 1, 0]) : Option d52 := from_ EE R L 197 Go.Proofs.Tryz.f197 p (mk 20 [(0, .dat ⟨t0, v0, .sh⟩), (3, .dat ⟨t5, v3, (.own .sh)⟩), (4, .dat ⟨(.int .i64), v4, .sh⟩)])
noncomputable def lp_spec_l12Fill_0 (v0 : List Int) (v1 : Int) (p : List Nat := [1, 0, 0]) : Option d52 := from_ EE R L 266 Go.Proofs.Tryz.f266 p (mk 14 [(0, .dat ⟨t0, v0, (.own .sh)⟩), (1, .dat ⟨(.int .i64), v1, .sh⟩)])
noncomputable def lp_spec_l12Entry_0 (v0 : List d54) (v5 : List Int) (v6 : Int) (p : List Nat := [1, 1, 0, 1, 0]) : Option d52 := from_ EE R L 200 Go.Proofs.Tryz.f200 p (mk 60 [(0, .dat ⟨(.sl t4), v0, .sh⟩), (5, .dat ⟨t0, v5, (.own .sh)⟩), (6, .dat ⟨(.int .i64), v6, .sh⟩)])
noncomputable def lp_spec_l12Entry_1 (v0 : List d54) (v5 : List Int) (v6 v7 : Int) (p : List Nat := [1, 1, 0, 1, 0, 0, 1, 0, 0, 1, 1, 0]) : Option d52 := from_ EE R L 200 Go.Proofs.Tryz.f200 p (mk 60 [(0, .dat ⟨(.sl t4), v0, .sh⟩), (5, .dat ⟨t0, v5, (.own .sh)⟩), (6, .dat ⟨(.int .i64), v6, .sh⟩), (7, .dat ⟨(.int .i64), v7, .sh⟩)])
noncomputable def lp_spec_l01Block_0 (v1 : List UInt8) (v2 v4 v5 : List Int) (v6 : Int) (p : List Nat := [1, 1, 0, 1, 0]) : Option d51 := from_ EE R L 304 Go.Proofs.Tryz.f304 p (mk 194 [(1, .dat ⟨.str, v1, .sh⟩), (2, .dat ⟨(.ptr t7), v2, (.own .sh)⟩), (4, .dat ⟨(.ptr t7), v4, (.own .sh)⟩), (5, .dat ⟨(.ptr t12), v5, (.own .sh)⟩), (6, .dat ⟨(.int .i64), v6, .sh⟩)])
noncomputable def lp_spec_l01Block_1 (v2 v4 v5 : List Int) (v7 : Int) (p : List Nat := [1, 1, 1, 0, 1, 0]) : Option d51 := from_ EE R L 304 Go.Proofs.Tryz.f304 p (mk 194 [(2, .dat ⟨(.ptr t7), v2, (.own .sh)⟩), (4, .dat ⟨(.ptr t7), v4, (.own .sh)⟩), (5, .dat ⟨(.ptr t12), v5, (.own .sh)⟩), (7, .dat ⟨(.int .i64), v7, .sh⟩)])
noncomputable def lp_spec_l01Block_2 (v2 v4 v5 v10 v11 : List Int) (v12 : Int) (p : List Nat := [1, 1, 1, 1, 1, 1, 0, 1, 0]) : Option d51 := from_ EE R L 304 Go.Proofs.Tryz.f304 p (mk 194 [(2, .dat ⟨(.ptr t7), v2, (.own .sh)⟩), (4, .dat ⟨(.ptr t7), v4, (.own .sh)⟩), (5, .dat ⟨(.ptr t12), v5, (.own .sh)⟩), (10, .dat ⟨(.ptr t12), v10, (.own .sh)⟩), (11, .dat ⟨(.ptr t7), v11, (.own .sh)⟩), (12, .dat ⟨(.int .i64), v12, .sh⟩)])
noncomputable def lp_spec_l01Block_3 (v2 v4 v11 : List Int) (v18 : Int) (p : List Nat := [1, 1, 1, 1, 1, 1, 1, 0, 1, 0]) : Option d51 := from_ EE R L 304 Go.Proofs.Tryz.f304 p (mk 194 [(2, .dat ⟨(.ptr t7), v2, (.own .sh)⟩), (4, .dat ⟨(.ptr t7), v4, (.own .sh)⟩), (11, .dat ⟨(.ptr t7), v11, (.own .sh)⟩), (18, .dat ⟨(.int .i64), v18, .sh⟩)])
noncomputable def lp_spec_l01More_0 (v2 v4 : d55) (p : List Nat := [1, 1, 1, 0, 0]) : Option d56 := from_ EE R L 249 Go.Proofs.Tryz.f249 p (mk 31 [(2, .dat ⟨(.ptr t9), v2, (.own .sh)⟩), (4, .dat ⟨(.ptr t9), v4, (.own .sh)⟩)])
noncomputable def lp_spec_l01Sum_0 (v1 : d55) (v3 : Int) (v4 : List Int) (p : List Nat := [1, 1, 1, 0, 0]) : Option d52 := from_ EE R L 248 Go.Proofs.Tryz.f248 p (mk 61 [(1, .dat ⟨(.ptr t9), v1, (.own .sh)⟩), (3, .dat ⟨(.int .i64), v3, .sh⟩), (4, .dat ⟨t5, v4, (.own .sh)⟩)])
noncomputable def lp_spec_l01Sum_1 (v1 : d55) (v3 : Int) (v4 : List Int) (v5 : Int) (p : List Nat := [1, 1, 1, 1, 0, 1, 0]) : Option d52 := from_ EE R L 248 Go.Proofs.Tryz.f248 p (mk 61 [(1, .dat ⟨(.ptr t9), v1, (.own .sh)⟩), (3, .dat ⟨(.int .i64), v3, .sh⟩), (4, .dat ⟨t5, v4, (.own .sh)⟩), (5, .dat ⟨(.int .i64), v5, .sh⟩)])
noncomputable def lp_spec_l01Sum_2 (v1 : d55) (v6 : List Int) (v7 : Int) (p : List Nat := [1, 1, 1, 1, 1, 1, 1, 0, 1, 0]) : Option d52 := from_ EE R L 248 Go.Proofs.Tryz.f248 p (mk 61 [(1, .dat ⟨(.ptr t9), v1, (.own .sh)⟩), (6, .dat ⟨t5, v6, (.own .sh)⟩), (7, .dat ⟨(.int .i64), v7, .sh⟩)])
noncomputable def lp_spec_l01Sum_3 (v1 : d55) (v6 : List Int) (v7 v8 : Int) (p : List Nat := [1, 1, 1, 1, 1, 1, 1, 0, 1, 0, 0, 1, 0, 0, 1, 0]) : Option d52 := from_ EE R L 248 Go.Proofs.Tryz.f248 p (mk 61 [(1, .dat ⟨(.ptr t9), v1, (.own .sh)⟩), (6, .dat ⟨t5, v6, (.own .sh)⟩), (7, .dat ⟨(.int .i64), v7, .sh⟩), (8, .dat ⟨(.int .i64), v8, .sh⟩)])
noncomputable def lp_pimpl_Hash_block_0 (v0 : d55) (v1 : List UInt8) (v2 v6 : List Int) (v25 : Int) (p : List Nat := [1, 0, 1, 0]) : Option d56 := from_ EE R L 310 Go.Proofs.Tryz.f310 p (mk 215 [(0, .dat ⟨(.ptr t9), v0, (.pin 0 (.own .sh))⟩), (1, .dat ⟨.str, v1, .sh⟩), (2, .dat ⟨(.ptr t14), v2, .sh⟩), (6, .dat ⟨(.ptr t14), v6, (.own .sh)⟩), (25, .dat ⟨(.int .i64), v25, .sh⟩)])
noncomputable def lp_pimpl_Hash_block_1 (v0 : d55) (v2 v6 : List Int) (v8 : Int) (p : List Nat := [1, 1, 0, 1, 0]) : Option d56 := from_ EE R L 310 Go.Proofs.Tryz.f310 p (mk 215 [(0, .dat ⟨(.ptr t9), v0, (.pin 0 (.own .sh))⟩), (2, .dat ⟨(.ptr t14), v2, .sh⟩), (6, .dat ⟨(.ptr t14), v6, (.own .sh)⟩), (8, .dat ⟨(.int .i64), v8, .sh⟩)])
noncomputable def lp_pimpl_Hash_block_2 (v0 : d55) (v2 v6 v11 v104 : List Int) (v105 : Int) (p : List Nat := [1, 1, 1, 1, 0, 1, 0]) : Option d56 := from_ EE R L 310 Go.Proofs.Tryz.f310 p (mk 215 [(0, .dat ⟨(.ptr t9), v0, (.pin 0 (.own .sh))⟩), (2, .dat ⟨(.ptr t14), v2, .sh⟩), (6, .dat ⟨(.ptr t14), v6, (.own .sh)⟩), (11, .dat ⟨(.ptr t83), v11, (.own .sh)⟩), (104, .dat ⟨t7, v104, .sh⟩), (105, .dat ⟨(.int .i64), v105, .sh⟩)])
noncomputable def lp_pimpl_Hash_block_3 (v0 : d55) (v2 v6 v11 : List Int) (v114 : Int) (p : List Nat := [1, 1, 1, 1, 1, 0, 1, 0]) : Option d56 := from_ EE R L 310 Go.Proofs.Tryz.f310 p (mk 215 [(0, .dat ⟨(.ptr t9), v0, (.pin 0 (.own .sh))⟩), (2, .dat ⟨(.ptr t14), v2, .sh⟩), (6, .dat ⟨(.ptr t14), v6, (.own .sh)⟩), (11, .dat ⟨(.ptr t83), v11, (.own .sh)⟩), (114, .dat ⟨(.int .i64), v114, .sh⟩)])
noncomputable def lp_pimpl_Hash_block_4 (v0 : d55) (v194 : List Int) (v195 : Int) (p : List Nat := [1, 1, 1, 1, 1, 1, 1, 0]) : Option d56 := from_ EE R L 310 Go.Proofs.Tryz.f310 p (mk 215 [(0, .dat ⟨(.ptr t9), v0, (.pin 0 (.own .sh))⟩), (194, .dat ⟨t83, v194, .sh⟩), (195, .dat ⟨(.int .i64), v195, .sh⟩)])
noncomputable def lp_impl_Hash_more_0 (v1 : List UInt8) (v2 v4 : d55) (v5 : List Int) (p : List Nat := [1, 1, 1, 1, 0, 0]) : Option d56 := from_ EE R L 258 Go.Proofs.Tryz.f258 p (mk 28 [(1, .dat ⟨.str, v1, .sh⟩), (2, .dat ⟨(.ptr t9), v2, (.own .sh)⟩), (4, .dat ⟨(.ptr t9), v4, (.own .sh)⟩), (5, .dat ⟨(.ptr t14), v5, (.own .sh)⟩)])
noncomputable def lp_impl_Hash_sum_0 (v1 : d55) (v3 : Int) (v4 : List UInt8) (v5 : Int) (p : List Nat := [1, 1, 1, 0, 1, 0]) : Option d52 := from_ EE R L 259 Go.Proofs.Tryz.f259 p (mk 56 [(1, .dat ⟨(.ptr t9), v1, (.own .sh)⟩), (3, .dat ⟨(.int .i64), v3, .sh⟩), (4, .dat ⟨.str, v4, .sh⟩), (5, .dat ⟨(.int .i64), v5, .sh⟩)])
noncomputable def lp_impl_Hash_sum_1 (v6 v35 : List Int) (v36 : Int) (p : List Nat := [1, 1, 1, 1, 1, 0, 1, 0]) : Option d52 := from_ EE R L 259 Go.Proofs.Tryz.f259 p (mk 56 [(6, .dat ⟨t5, v6, (.own .sh)⟩), (35, .dat ⟨t7, v35, .sh⟩), (36, .dat ⟨(.int .i64), v36, .sh⟩)])
noncomputable def lp_impl_little_0 (v0 : Int) (v5 : List Int) (v7 v8 : Int) (p : List Nat := [1, 1, 0, 1, 0]) : Option d52 := from_ EE R L 139 Go.Proofs.Tryz.f139 p (mk 22 [(0, .dat ⟨(.int .i64), v0, .sh⟩), (5, .dat ⟨t5, v5, (.own .sh)⟩), (7, .dat ⟨(.int .i64), v7, .sh⟩), (8, .dat ⟨(.int .i64), v8, .sh⟩)])
noncomputable def lp_impl_quarter_0 (v0 v1 v2 v3 : Int) (v16 : List (List Int)) (v17 : Int) (p : List Nat := [1, 0, 1, 0]) : Option d58 := from_ EE R L 354 Go.Proofs.Tryz.f354 p (mk 43 [(0, .dat ⟨(.int .u32), v0, .sh⟩), (1, .dat ⟨(.int .u32), v1, .sh⟩), (2, .dat ⟨(.int .u32), v2, .sh⟩), (3, .dat ⟨(.int .u32), v3, .sh⟩), (16, .dat ⟨t85, v16, .sh⟩), (17, .dat ⟨(.int .i64), v17, .sh⟩)])
noncomputable def lp_impl_stream_0 (v7 : List UInt8) (v8 v9 : List Int) (v25 : Int) (p : List Nat := [1, 1, 1, 0, 1, 0]) : Option d52 := from_ EE R L 322 Go.Proofs.Tryz.f322 p (mk 111 [(7, .dat ⟨.str, v7, .sh⟩), (8, .dat ⟨(.ptr t86), v8, (.own .sh)⟩), (9, .dat ⟨(.ptr t86), v9, (.own .sh)⟩), (25, .dat ⟨(.int .i64), v25, .sh⟩)])
noncomputable def lp_impl_stream_1 (v8 v9 : List Int) (v41 : Int) (p : List Nat := [1, 1, 1, 1, 0, 1, 0]) : Option d52 := from_ EE R L 322 Go.Proofs.Tryz.f322 p (mk 111 [(8, .dat ⟨(.ptr t86), v8, (.own .sh)⟩), (9, .dat ⟨(.ptr t86), v9, (.own .sh)⟩), (41, .dat ⟨(.int .i64), v41, .sh⟩)])
noncomputable def lp_impl_stream_2 (v8 v9 : List Int) (v41 v43 : Int) (p : List Nat := [1, 1, 1, 1, 0, 1, 0, 0, 1, 1, 0, 0, 1, 0]) : Option d52 := from_ EE R L 322 Go.Proofs.Tryz.f322 p (mk 111 [(8, .dat ⟨(.ptr t86), v8, (.own .sh)⟩), (9, .dat ⟨(.ptr t86), v9, (.own .sh)⟩), (41, .dat ⟨(.int .i64), v41, .sh⟩), (43, .dat ⟨(.int .i64), v43, .sh⟩)])
noncomputable def lp_impl_stream_3 (v8 v9 : List Int) (v16 : List UInt8) (v95 : Int) (p : List Nat := [1, 1, 1, 1, 1, 1, 0, 1, 0]) : Option d52 := from_ EE R L 322 Go.Proofs.Tryz.f322 p (mk 111 [(8, .dat ⟨(.ptr t86), v8, (.own .sh)⟩), (9, .dat ⟨(.ptr t86), v9, (.own .sh)⟩), (16, .dat ⟨.str, v16, .sh⟩), (95, .dat ⟨(.int .i64), v95, .sh⟩)])
noncomputable def lp_impl_stream_4 (v8 v9 : List Int) (v11 v41 v43 v46 : Int) (p : List Nat := [1, 1, 1, 1, 0, 1, 0, 0, 1, 1, 0, 0, 1, 0, 0, 1, 1, 0, 0, 1, 1, 0]) : Option d52 := from_ EE R L 322 Go.Proofs.Tryz.f322 p (mk 111 [(8, .dat ⟨(.ptr t86), v8, (.own .sh)⟩), (9, .dat ⟨(.ptr t86), v9, (.own .sh)⟩), (11, .dat ⟨(.int .i64), v11, .sh⟩), (41, .dat ⟨(.int .i64), v41, .sh⟩), (43, .dat ⟨(.int .i64), v43, .sh⟩), (46, .dat ⟨(.int .i64), v46, .sh⟩)])
noncomputable def lp_spec_l02Block_0 (v0 v1 : List UInt8) (v2 : Int) (v7 : List Int) (v8 : Int) (p : List Nat := [1, 1, 0, 1, 0]) : Option d52 := from_ EE R L 349 Go.Proofs.Tryz.f349 p (mk 105 [(0, .dat ⟨.str, v0, .sh⟩), (1, .dat ⟨.str, v1, .sh⟩), (2, .dat ⟨(.int .i64), v2, .sh⟩), (7, .dat ⟨(.ptr t21), v7, (.own .sh)⟩), (8, .dat ⟨(.int .i64), v8, .sh⟩)])
noncomputable def lp_spec_l02Block_1 (v0 v1 : List UInt8) (v2 : Int) (v7 : List Int) (v9 : Int) (p : List Nat := [1, 1, 1, 0, 1, 0]) : Option d52 := from_ EE R L 349 Go.Proofs.Tryz.f349 p (mk 105 [(0, .dat ⟨.str, v0, .sh⟩), (1, .dat ⟨.str, v1, .sh⟩), (2, .dat ⟨(.int .i64), v2, .sh⟩), (7, .dat ⟨(.ptr t21), v7, (.own .sh)⟩), (9, .dat ⟨(.int .i64), v9, .sh⟩)])
noncomputable def lp_spec_l02Block_2 (v1 : List UInt8) (v7 : List Int) (v10 : Int) (p : List Nat := [1, 1, 1, 1, 1, 0, 1, 0]) : Option d52 := from_ EE R L 349 Go.Proofs.Tryz.f349 p (mk 105 [(1, .dat ⟨.str, v1, .sh⟩), (7, .dat ⟨(.ptr t21), v7, (.own .sh)⟩), (10, .dat ⟨(.int .i64), v10, .sh⟩)])
noncomputable def lp_spec_l02Block_3 (v7 v11 : List Int) (v12 : Int) (p : List Nat := [1, 1, 1, 1, 1, 1, 1, 0, 1, 0]) : Option d52 := from_ EE R L 349 Go.Proofs.Tryz.f349 p (mk 105 [(7, .dat ⟨(.ptr t21), v7, (.own .sh)⟩), (11, .dat ⟨(.ptr t21), v11, (.own .sh)⟩), (12, .dat ⟨(.int .i64), v12, .sh⟩)])
noncomputable def lp_spec_l02Block_4 (v7 v11 : List Int) (v12 v13 : Int) (p : List Nat := [1, 1, 1, 1, 1, 1, 1, 0, 1, 0, 0, 1, 0, 0, 0, 1, 0]) : Option d52 := from_ EE R L 349 Go.Proofs.Tryz.f349 p (mk 105 [(7, .dat ⟨(.ptr t21), v7, (.own .sh)⟩), (11, .dat ⟨(.ptr t21), v11, (.own .sh)⟩), (12, .dat ⟨(.int .i64), v12, .sh⟩), (13, .dat ⟨(.int .i64), v13, .sh⟩)])
noncomputable def lp_spec_l02Block_5 (v7 v11 v15 : List Int) (v16 : Int) (p : List Nat := [1, 1, 1, 1, 1, 1, 1, 1, 1, 0, 1, 0]) : Option d52 := from_ EE R L 349 Go.Proofs.Tryz.f349 p (mk 105 [(7, .dat ⟨(.ptr t21), v7, (.own .sh)⟩), (11, .dat ⟨(.ptr t21), v11, (.own .sh)⟩), (15, .dat ⟨t5, v15, (.own .sh)⟩), (16, .dat ⟨(.int .i64), v16, .sh⟩)])
noncomputable def lp_spec_l02Block_6 (v7 v11 : List Int) (v12 v14 : Int) (p : List Nat := [1, 1, 1, 1, 1, 1, 1, 0, 1, 0, 0, 1, 0, 0, 1, 1, 0]) : Option d52 := from_ EE R L 349 Go.Proofs.Tryz.f349 p (mk 105 [(7, .dat ⟨(.ptr t21), v7, (.own .sh)⟩), (11, .dat ⟨(.ptr t21), v11, (.own .sh)⟩), (12, .dat ⟨(.int .i64), v12, .sh⟩), (14, .dat ⟨(.int .i64), v14, .sh⟩)])
noncomputable def lp_impl_xor_0 (v1 : List UInt8) (v5 : List Int) (v10 v11 : Int) (p : List Nat := [1, 1, 0, 1, 0]) : Option d52 := from_ EE R L 321 Go.Proofs.Tryz.f321 p (mk 26 [(1, .dat ⟨.str, v1, .sh⟩), (5, .dat ⟨t5, v5, (.own .sh)⟩), (10, .dat ⟨(.int .i64), v10, .sh⟩), (11, .dat ⟨(.int .i64), v11, .sh⟩)])
noncomputable def lp_spec_l02Xor_0 (v0 v1 : List UInt8) (v2 : Int) (v3 : List UInt8) (v9 : List Int) (v10 : List UInt8) (v11 : Int) (p : List Nat := [1, 1, 1, 0, 1, 0]) : Option d52 := from_ EE R L 313 Go.Proofs.Tryz.f313 p (mk 42 [(0, .dat ⟨.str, v0, .sh⟩), (1, .dat ⟨.str, v1, .sh⟩), (2, .dat ⟨(.int .i64), v2, .sh⟩), (3, .dat ⟨.str, v3, .sh⟩), (9, .dat ⟨t5, v9, (.own .sh)⟩), (10, .dat ⟨.str, v10, .sh⟩), (11, .dat ⟨(.int .i64), v11, .sh⟩)])
noncomputable def lp_laws_szStringS_0 (v0 : List (List UInt8)) (v1 v4 v5 : Int) (p : List Nat := [1, 1, 1, 0, 1, 0]) : Option d57 := from_ EE R L 122 Go.Proofs.Tryz.f122 p (mk 28 [(0, .dat ⟨(.sl .str), v0, .sh⟩), (1, .dat ⟨(.int .i64), v1, .sh⟩), (4, .dat ⟨(.int .i64), v4, .sh⟩), (5, .dat ⟨(.int .i64), v5, .sh⟩)])
noncomputable def lp_laws_szIoS_0 (v0 : List d60) (v1 v4 v5 : Int) (p : List Nat := [1, 1, 1, 0, 1, 0]) : Option d57 := from_ EE R L 123 Go.Proofs.Tryz.f123 p (mk 27 [(0, .dat ⟨(.sl t24), v0, .sh⟩), (1, .dat ⟨(.int .i64), v1, .sh⟩), (4, .dat ⟨(.int .i64), v4, .sh⟩), (5, .dat ⟨(.int .i64), v5, .sh⟩)])
noncomputable def lp_laws_szTxnS_0 (v0 : List d54) (v1 v4 v5 : Int) (p : List Nat := [1, 1, 1, 0, 1, 0]) : Option d57 := from_ EE R L 21 Go.Proofs.Tryz.f21 p (mk 27 [(0, .dat ⟨(.sl t4), v0, .sh⟩), (1, .dat ⟨(.int .i64), v1, .sh⟩), (4, .dat ⟨(.int .i64), v4, .sh⟩), (5, .dat ⟨(.int .i64), v5, .sh⟩)])
noncomputable def lp_laws_toStringS_0 (v0 v2 v3 : List (List UInt8)) (v4 : Int) (p : List Nat := [1, 1, 0, 1, 0]) : Option d64 := from_ EE R L 132 Go.Proofs.Tryz.f132 p (mk 22 [(0, .dat ⟨(.sl .str), v0, .sh⟩), (2, .dat ⟨(.sl .str), v2, (.own .sh)⟩), (3, .dat ⟨(.sl .str), v3, (.own .sh)⟩), (4, .dat ⟨(.int .i64), v4, .sh⟩)])
noncomputable def lp_laws_toIoS_0 (v0 v2 v3 : List d60) (v4 : Int) (p : List Nat := [1, 1, 0, 1, 0]) : Option d66 := from_ EE R L 133 Go.Proofs.Tryz.f133 p (mk 23 [(0, .dat ⟨(.sl t24), v0, .sh⟩), (2, .dat ⟨(.sl t24), v2, (.own .sh)⟩), (3, .dat ⟨(.sl t24), v3, (.own .sh)⟩), (4, .dat ⟨(.int .i64), v4, .sh⟩)])
noncomputable def lp_laws_toOpS_0 (v0 v2 v3 : List d53) (v4 : Int) (p : List Nat := [1, 1, 0, 1, 0]) : Option d54 := from_ EE R L 134 Go.Proofs.Tryz.f134 p (mk 23 [(0, .dat ⟨(.sl t3), v0, .sh⟩), (2, .dat ⟨(.sl t3), v2, (.own .sh)⟩), (3, .dat ⟨(.sl t3), v3, (.own .sh)⟩), (4, .dat ⟨(.int .i64), v4, .sh⟩)])
noncomputable def lp_laws_toTxnS_0 (v0 v2 v3 : List d54) (v4 : Int) (p : List Nat := [1, 1, 0, 1, 0]) : Option d71 := from_ EE R L 24 Go.Proofs.Tryz.f24 p (mk 23 [(0, .dat ⟨(.sl t4), v0, .sh⟩), (2, .dat ⟨(.sl t4), v2, (.own (.pr (.own .sh) .sh))⟩), (3, .dat ⟨(.sl t4), v3, (.own (.pr (.own .sh) .sh))⟩), (4, .dat ⟨(.int .i64), v4, .sh⟩)])
noncomputable def lp_laws_toIntS_0 (v0 v2 v3 : List Int) (v4 : Int) (p : List Nat := [1, 1, 0, 1, 0]) : Option d51 := from_ EE R L 11 Go.Proofs.Tryz.f11 p (mk 22 [(0, .dat ⟨t0, v0, .sh⟩), (2, .dat ⟨t0, v2, (.own .sh)⟩), (3, .dat ⟨t0, v3, (.own .sh)⟩), (4, .dat ⟨(.int .i64), v4, .sh⟩)])
noncomputable def lp_spec_l08Leaves_0 (v0 : List Int) (v3 : Int) (p : List Nat := [1, 0, 1, 0]) : Option d72 := from_ EE R L 44 Go.Proofs.Tryz.f44 p (mk 16 [(0, .dat ⟨t0, v0, .sh⟩), (3, .dat ⟨(.int .i64), v3, .sh⟩)])
noncomputable def lp_spec_DeviceOK_0 (v0 v1 : d61) (v2 : Bool) (v3 : Int) (p : List Nat := [1, 1, 0, 1, 0]) : Option d72 := from_ EE R L 152 Go.Proofs.Tryz.f152 p (mk 54 [(0, .dat ⟨t25, v0, .sh⟩), (1, .dat ⟨(.ptr t25), v1, (.own .sh)⟩), (2, .dat ⟨.bool, v2, .sh⟩), (3, .dat ⟨(.int .i64), v3, .sh⟩)])
noncomputable def lp_spec_DeviceOK_1 (v0 v1 : d61) (v2 : Bool) (v3 v4 : Int) (p : List Nat := [1, 1, 1, 0, 1, 0]) : Option d72 := from_ EE R L 152 Go.Proofs.Tryz.f152 p (mk 54 [(0, .dat ⟨t25, v0, .sh⟩), (1, .dat ⟨(.ptr t25), v1, (.own .sh)⟩), (2, .dat ⟨.bool, v2, .sh⟩), (3, .dat ⟨(.int .i64), v3, .sh⟩), (4, .dat ⟨(.int .i64), v4, .sh⟩)])
noncomputable def lp_spec_l09Txn_0 (v0 v1 : d54) (v2 : Bool) (v3 : Int) (p : List Nat := [1, 0, 1, 0]) : Option d72 := from_ EE R L 196 Go.Proofs.Tryz.f196 p (mk 22 [(0, .dat ⟨t4, v0, .sh⟩), (1, .dat ⟨(.ptr t4), v1, (.own .sh)⟩), (2, .dat ⟨.bool, v2, .sh⟩), (3, .dat ⟨(.int .i64), v3, .sh⟩)])
noncomputable def lp_spec_BatchOK_0 (v0 : List d54) (v2 : Bool) (v3 : Int) (p : List Nat := [1, 1, 1, 0, 1, 0]) : Option d72 := from_ EE R L 126 Go.Proofs.Tryz.f126 p (mk 23 [(0, .dat ⟨(.sl t4), v0, .sh⟩), (2, .dat ⟨.bool, v2, .sh⟩), (3, .dat ⟨(.int .i64), v3, .sh⟩)])
noncomputable def lp_spec_l04Eight_0 (v0 : Int) (v3 : List Int) (v4 : Int) (p : List Nat := [1, 1, 0, 1, 0]) : Option d52 := from_ EE R L 312 Go.Proofs.Tryz.f312 p (mk 20 [(0, .dat ⟨(.int .i64), v0, .sh⟩), (3, .dat ⟨t5, v3, (.own .sh)⟩), (4, .dat ⟨(.int .i64), v4, .sh⟩)])
noncomputable def lp_spec_l04Pad_0 (v0 : List UInt8) (p : List Nat := [1, 0, 0]) : Option d52 := from_ EE R L 351 Go.Proofs.Tryz.f351 p (mk 10 [(0, .dat ⟨.str, v0, .sh⟩)])
noncomputable def lp_spec_l03Clamp_0 (v3 : List Int) (v4 : Int) (p : List Nat := [1, 1, 0, 1, 0]) : Option d52 := from_ EE R L 374 Go.Proofs.Tryz.f374 p (mk 31 [(3, .dat ⟨t5, v3, (.own .sh)⟩), (4, .dat ⟨(.int .i64), v4, .sh⟩)])
noncomputable def lp_spec_l03Clamp_1 (v3 : List Int) (v5 : Int) (p : List Nat := [1, 1, 1, 0, 1, 0]) : Option d52 := from_ EE R L 374 Go.Proofs.Tryz.f374 p (mk 31 [(3, .dat ⟨t5, v3, (.own .sh)⟩), (5, .dat ⟨(.int .i64), v5, .sh⟩)])
noncomputable def lp_spec_l03Parts_0 (v0 : List UInt8) (v2 v3 : List Int) (v4 : Int) (p : List Nat := [1, 1, 0, 1, 0]) : Option d51 := from_ EE R L 373 Go.Proofs.Tryz.f373 p (mk 50 [(0, .dat ⟨.str, v0, .sh⟩), (2, .dat ⟨(.ptr t37), v2, (.own .sh)⟩), (3, .dat ⟨(.ptr t37), v3, (.own .sh)⟩), (4, .dat ⟨(.int .i64), v4, .sh⟩)])
noncomputable def lp_spec_l03Carry_0 (v1 v2 : List Int) (v3 : Int) (p : List Nat := [1, 0, 1, 0]) : Option d51 := from_ EE R L 377 Go.Proofs.Tryz.f377 p (mk 41 [(1, .dat ⟨(.ptr t37), v1, (.own .sh)⟩), (2, .dat ⟨(.ptr t37), v2, (.own .sh)⟩), (3, .dat ⟨(.int .i64), v3, .sh⟩)])
noncomputable def lp_spec_l03Carry_1 (v1 v2 : List Int) (v3 v4 : Int) (p : List Nat := [1, 0, 1, 0, 0, 1, 0, 0, 0, 1, 0]) : Option d51 := from_ EE R L 377 Go.Proofs.Tryz.f377 p (mk 41 [(1, .dat ⟨(.ptr t37), v1, (.own .sh)⟩), (2, .dat ⟨(.ptr t37), v2, (.own .sh)⟩), (3, .dat ⟨(.int .i64), v3, .sh⟩), (4, .dat ⟨(.int .i64), v4, .sh⟩)])
noncomputable def lp_spec_l03Times_0 (v2 v3 v4 v5 : List Int) (v6 : Int) (p : List Nat := [1, 1, 0, 1, 0]) : Option d51 := from_ EE R L 375 Go.Proofs.Tryz.f375 p (mk 42 [(2, .dat ⟨(.ptr t37), v2, (.own .sh)⟩), (3, .dat ⟨(.ptr t37), v3, (.own .sh)⟩), (4, .dat ⟨(.ptr t37), v4, (.own .sh)⟩), (5, .dat ⟨(.ptr t37), v5, (.own .sh)⟩), (6, .dat ⟨(.int .i64), v6, .sh⟩)])
noncomputable def lp_spec_l03Times_1 (v2 v3 v4 v5 : List Int) (v6 v7 : Int) (p : List Nat := [1, 1, 0, 1, 0, 0, 1, 0, 0, 1, 0]) : Option d51 := from_ EE R L 375 Go.Proofs.Tryz.f375 p (mk 42 [(2, .dat ⟨(.ptr t37), v2, (.own .sh)⟩), (3, .dat ⟨(.ptr t37), v3, (.own .sh)⟩), (4, .dat ⟨(.ptr t37), v4, (.own .sh)⟩), (5, .dat ⟨(.ptr t37), v5, (.own .sh)⟩), (6, .dat ⟨(.int .i64), v6, .sh⟩), (7, .dat ⟨(.int .i64), v7, .sh⟩)])
noncomputable def lp_spec_l03Less_0 (v1 v2 v3 : List Int) (v4 : Int) (p : List Nat := [1, 1, 1, 0, 1, 0]) : Option d51 := from_ EE R L 376 Go.Proofs.Tryz.f376 p (mk 39 [(1, .dat ⟨(.ptr t37), v1, (.own .sh)⟩), (2, .dat ⟨(.ptr t37), v2, (.own .sh)⟩), (3, .dat ⟨(.ptr t37), v3, (.own .sh)⟩), (4, .dat ⟨(.int .i64), v4, .sh⟩)])
noncomputable def lp_spec_l03Tag_0 (v0 v1 : List UInt8) (v5 v6 : List Int) (v7 : Int) (p : List Nat := [1, 1, 1, 0, 1, 0]) : Option d52 := from_ EE R L 350 Go.Proofs.Tryz.f350 p (mk 108 [(0, .dat ⟨.str, v0, .sh⟩), (1, .dat ⟨.str, v1, .sh⟩), (5, .dat ⟨(.ptr t37), v5, (.own .sh)⟩), (6, .dat ⟨(.ptr t37), v6, (.own .sh)⟩), (7, .dat ⟨(.int .i64), v7, .sh⟩)])
noncomputable def lp_spec_l03Tag_1 (v0 v1 : List UInt8) (v5 v6 : List Int) (v7 : Int) (v8 : List UInt8) (p : List Nat := [1, 1, 1, 0, 1, 0, 0, 1, 0, 0, 1, 0, 0]) : Option d52 := from_ EE R L 350 Go.Proofs.Tryz.f350 p (mk 108 [(0, .dat ⟨.str, v0, .sh⟩), (1, .dat ⟨.str, v1, .sh⟩), (5, .dat ⟨(.ptr t37), v5, (.own .sh)⟩), (6, .dat ⟨(.ptr t37), v6, (.own .sh)⟩), (7, .dat ⟨(.int .i64), v7, .sh⟩), (8, .dat ⟨.str, v8, .sh⟩)])
noncomputable def lp_spec_l03Tag_2 (v0 : List UInt8) (v6 v11 : List Int) (v12 v13 : Int) (p : List Nat := [1, 1, 1, 1, 1, 1, 1, 0, 1, 0]) : Option d52 := from_ EE R L 350 Go.Proofs.Tryz.f350 p (mk 108 [(0, .dat ⟨.str, v0, .sh⟩), (6, .dat ⟨(.ptr t37), v6, (.own .sh)⟩), (11, .dat ⟨t5, v11, (.own .sh)⟩), (12, .dat ⟨(.int .i64), v12, .sh⟩), (13, .dat ⟨(.int .i64), v13, .sh⟩)])
noncomputable def lp_spec_l03Tag_3 (v0 v1 : List UInt8) (v5 v6 : List Int) (v7 : Int) (v9 : List Int) (v10 : Int) (p : List Nat := [1, 1, 1, 0, 1, 0, 0, 1, 0, 0, 1, 1, 1, 0, 1, 0]) : Option d52 := from_ EE R L 350 Go.Proofs.Tryz.f350 p (mk 108 [(0, .dat ⟨.str, v0, .sh⟩), (1, .dat ⟨.str, v1, .sh⟩), (5, .dat ⟨(.ptr t37), v5, (.own .sh)⟩), (6, .dat ⟨(.ptr t37), v6, (.own .sh)⟩), (7, .dat ⟨(.int .i64), v7, .sh⟩), (9, .dat ⟨(.ptr t37), v9, (.own .sh)⟩), (10, .dat ⟨(.int .i64), v10, .sh⟩)])
noncomputable def lp_spec_l05Sync_0 (v1 v2 v3 : d61) (v4 : Int) (p : List Nat := [1, 1, 0, 1, 0]) : Option d67 := from_ EE R L 130 Go.Proofs.Tryz.f130 p (mk 34 [(1, .dat ⟨(.ptr t25), v1, (.own .sh)⟩), (2, .dat ⟨(.ptr t25), v2, (.own (.pr (.own .sh) (.pr (.own .sh) .sh)))⟩), (3, .dat ⟨(.ptr t25), v3, (.own (.pr (.own .sh) (.pr (.own .sh) .sh)))⟩), (4, .dat ⟨(.int .i64), v4, .sh⟩)])
noncomputable def lp_slices_IndexFunc___int_int__0 (v0 : List Int) (v1 : FnVal) (v4 v7 v8 : Int) (p : List Nat := [1, 0, 1, 0]) : Option d57 := from_ EE R L 315 Go.Proofs.Tryz.f315 p (mk 19 [(0, .dat ⟨t0, v0, .sh⟩), (1, .dat ⟨.fn, v1, .sh⟩), (4, .dat ⟨(.int .i64), v4, .sh⟩), (7, .dat ⟨(.int .i64), v7, .sh⟩), (8, .dat ⟨(.int .i64), v8, .sh⟩)])
noncomputable def lp_slices_IndexFunc___int_int__1 (v0 : List Int) (v1 : FnVal) (v4 v5 v7 v8 : Int) (p : List Nat := [1, 0, 1, 0]) : Option d57 := from_ EE R L 315 Go.Proofs.Tryz.f315 p (mk 19 [(0, .dat ⟨t0, v0, .sh⟩), (1, .dat ⟨.fn, v1, .sh⟩), (4, .dat ⟨(.int .i64), v4, .sh⟩), (5, .dat ⟨(.int .i64), v5, .sh⟩), (7, .dat ⟨(.int .i64), v7, .sh⟩), (8, .dat ⟨(.int .i64), v8, .sh⟩)])
noncomputable def lp_slices_IndexFunc___string_string__0 (v0 : List (List UInt8)) (v1 : FnVal) (v4 v7 v8 : Int) (p : List Nat := [1, 0, 1, 0]) : Option d57 := from_ EE R L 308 Go.Proofs.Tryz.f308 p (mk 19 [(0, .dat ⟨(.sl .str), v0, .sh⟩), (1, .dat ⟨.fn, v1, .sh⟩), (4, .dat ⟨(.int .i64), v4, .sh⟩), (7, .dat ⟨(.int .i64), v7, .sh⟩), (8, .dat ⟨(.int .i64), v8, .sh⟩)])
noncomputable def lp_slices_IndexFunc___string_string__1 (v0 : List (List UInt8)) (v1 : FnVal) (v4 v5 v7 v8 : Int) (p : List Nat := [1, 0, 1, 0]) : Option d57 := from_ EE R L 308 Go.Proofs.Tryz.f308 p (mk 19 [(0, .dat ⟨(.sl .str), v0, .sh⟩), (1, .dat ⟨.fn, v1, .sh⟩), (4, .dat ⟨(.int .i64), v4, .sh⟩), (5, .dat ⟨(.int .i64), v5, .sh⟩), (7, .dat ⟨(.int .i64), v7, .sh⟩), (8, .dat ⟨(.int .i64), v8, .sh⟩)])
noncomputable def lp_slices_IndexFunc___impl_Io_impl_Io__0 (v0 : List d60) (v1 : FnVal) (v4 v7 v8 : Int) (p : List Nat := [1, 0, 1, 0]) : Option d57 := from_ EE R L 363 Go.Proofs.Tryz.f363 p (mk 19 [(0, .dat ⟨(.sl t24), v0, .sh⟩), (1, .dat ⟨.fn, v1, .sh⟩), (4, .dat ⟨(.int .i64), v4, .sh⟩), (7, .dat ⟨(.int .i64), v7, .sh⟩), (8, .dat ⟨(.int .i64), v8, .sh⟩)])
noncomputable def lp_slices_IndexFunc___impl_Io_impl_Io__1 (v0 : List d60) (v1 : FnVal) (v4 v5 v7 v8 : Int) (p : List Nat := [1, 0, 1, 0]) : Option d57 := from_ EE R L 363 Go.Proofs.Tryz.f363 p (mk 19 [(0, .dat ⟨(.sl t24), v0, .sh⟩), (1, .dat ⟨.fn, v1, .sh⟩), (4, .dat ⟨(.int .i64), v4, .sh⟩), (5, .dat ⟨(.int .i64), v5, .sh⟩), (7, .dat ⟨(.int .i64), v7, .sh⟩), (8, .dat ⟨(.int .i64), v8, .sh⟩)])
noncomputable def lp_slices_IndexFunc___impl_Txn_impl_Txn__0 (v0 : List d54) (v1 : FnVal) (v4 v7 v8 : Int) (p : List Nat := [1, 0, 1, 0]) : Option d57 := from_ EE R L 316 Go.Proofs.Tryz.f316 p (mk 19 [(0, .dat ⟨(.sl t4), v0, .sh⟩), (1, .dat ⟨.fn, v1, .sh⟩), (4, .dat ⟨(.int .i64), v4, .sh⟩), (7, .dat ⟨(.int .i64), v7, .sh⟩), (8, .dat ⟨(.int .i64), v8, .sh⟩)])
noncomputable def lp_slices_IndexFunc___impl_Txn_impl_Txn__1 (v0 : List d54) (v1 : FnVal) (v4 v5 v7 v8 : Int) (p : List Nat := [1, 0, 1, 0]) : Option d57 := from_ EE R L 316 Go.Proofs.Tryz.f316 p (mk 19 [(0, .dat ⟨(.sl t4), v0, .sh⟩), (1, .dat ⟨.fn, v1, .sh⟩), (4, .dat ⟨(.int .i64), v4, .sh⟩), (5, .dat ⟨(.int .i64), v5, .sh⟩), (7, .dat ⟨(.int .i64), v7, .sh⟩), (8, .dat ⟨(.int .i64), v8, .sh⟩)])
noncomputable def lp_slices_IndexFunc___impl_Op_impl_Op__0 (v0 : List d53) (v1 : FnVal) (v4 v7 v8 : Int) (p : List Nat := [1, 0, 1, 0]) : Option d57 := from_ EE R L 352 Go.Proofs.Tryz.f352 p (mk 19 [(0, .dat ⟨(.sl t3), v0, .sh⟩), (1, .dat ⟨.fn, v1, .sh⟩), (4, .dat ⟨(.int .i64), v4, .sh⟩), (7, .dat ⟨(.int .i64), v7, .sh⟩), (8, .dat ⟨(.int .i64), v8, .sh⟩)])
noncomputable def lp_slices_IndexFunc___impl_Op_impl_Op__1 (v0 : List d53) (v1 : FnVal) (v4 v5 v7 v8 : Int) (p : List Nat := [1, 0, 1, 0]) : Option d57 := from_ EE R L 352 Go.Proofs.Tryz.f352 p (mk 19 [(0, .dat ⟨(.sl t3), v0, .sh⟩), (1, .dat ⟨.fn, v1, .sh⟩), (4, .dat ⟨(.int .i64), v4, .sh⟩), (5, .dat ⟨(.int .i64), v5, .sh⟩), (7, .dat ⟨(.int .i64), v7, .sh⟩), (8, .dat ⟨(.int .i64), v8, .sh⟩)])
noncomputable def lp_impl_clamped_0 (v3 : List Int) (v4 : Int) (p : List Nat := [1, 1, 0, 1, 0]) : Option d52 := from_ EE R L 356 Go.Proofs.Tryz.f356 p (mk 31 [(3, .dat ⟨t5, v3, (.own .sh)⟩), (4, .dat ⟨(.int .i64), v4, .sh⟩)])
noncomputable def lp_impl_clamped_1 (v3 : List Int) (v5 : Int) (p : List Nat := [1, 1, 1, 0, 1, 0]) : Option d52 := from_ EE R L 356 Go.Proofs.Tryz.f356 p (mk 31 [(3, .dat ⟨t5, v3, (.own .sh)⟩), (5, .dat ⟨(.int .i64), v5, .sh⟩)])
noncomputable def lp_impl_limbsOf_0 (v2 v3 v9 : List Int) (v10 v11 : Int) (p : List Nat := [1, 1, 0, 1, 0]) : Option d51 := from_ EE R L 355 Go.Proofs.Tryz.f355 p (mk 40 [(2, .dat ⟨(.ptr t41), v2, (.own .sh)⟩), (3, .dat ⟨(.ptr t41), v3, (.own .sh)⟩), (9, .dat ⟨t5, v9, (.own .sh)⟩), (10, .dat ⟨(.int .i64), v10, .sh⟩), (11, .dat ⟨(.int .i64), v11, .sh⟩)])
noncomputable def lp_impl_limbsOf_1 (v2 v3 : List Int) (v4 v5 : Int) (v9 : List Int) (v10 v11 v16 : Int) (p : List Nat := [1, 1, 0, 1, 0, 0, 1, 1, 0, 0, 1, 1, 0]) : Option d51 := from_ EE R L 355 Go.Proofs.Tryz.f355 p (mk 40 [(2, .dat ⟨(.ptr t41), v2, (.own .sh)⟩), (3, .dat ⟨(.ptr t41), v3, (.own .sh)⟩), (4, .dat ⟨(.int .i64), v4, .sh⟩), (5, .dat ⟨(.int .u8), v5, .sh⟩), (9, .dat ⟨t5, v9, (.own .sh)⟩), (10, .dat ⟨(.int .i64), v10, .sh⟩), (11, .dat ⟨(.int .i64), v11, .sh⟩), (16, .dat ⟨(.int .i64), v16, .sh⟩)])
noncomputable def lp_impl_limbs_carried_0 (v1 v2 : List Int) (v5 : Int) (p : List Nat := [1, 0, 1, 0]) : Option d51 := from_ EE R L 379 Go.Proofs.Tryz.f379 p (mk 34 [(1, .dat ⟨(.ptr t41), v1, (.own .sh)⟩), (2, .dat ⟨(.ptr t41), v2, (.own .sh)⟩), (5, .dat ⟨(.int .i64), v5, .sh⟩)])
noncomputable def lp_impl_limbs_carried_1 (v1 v2 : List Int) (v3 v5 v7 : Int) (p : List Nat := [1, 0, 1, 0, 0, 1, 1, 0, 0, 1, 0, 1, 0]) : Option d51 := from_ EE R L 379 Go.Proofs.Tryz.f379 p (mk 34 [(1, .dat ⟨(.ptr t41), v1, (.own .sh)⟩), (2, .dat ⟨(.ptr t41), v2, (.own .sh)⟩), (3, .dat ⟨(.int .u64), v3, .sh⟩), (5, .dat ⟨(.int .i64), v5, .sh⟩), (7, .dat ⟨(.int .i64), v7, .sh⟩)])
noncomputable def lp_impl_limbs_plus_0 (v2 v3 v4 : List Int) (v6 : Int) (p : List Nat := [1, 0, 1, 0]) : Option d51 := from_ EE R L 357 Go.Proofs.Tryz.f357 p (mk 20 [(2, .dat ⟨(.ptr t41), v2, (.own .sh)⟩), (3, .dat ⟨(.ptr t41), v3, (.own .sh)⟩), (4, .dat ⟨(.ptr t41), v4, (.own .sh)⟩), (6, .dat ⟨(.int .i64), v6, .sh⟩)])
noncomputable def lp_impl_limbs_times_0 (v3 v4 v5 v10 : List Int) (v11 : Int) (p : List Nat := [1, 1, 0, 1, 0]) : Option d51 := from_ EE R L 358 Go.Proofs.Tryz.f358 p (mk 50 [(3, .dat ⟨(.ptr t41), v3, (.own .sh)⟩), (4, .dat ⟨(.ptr t41), v4, (.own .sh)⟩), (5, .dat ⟨(.ptr t41), v5, (.own .sh)⟩), (10, .dat ⟨t41, v10, .sh⟩), (11, .dat ⟨(.int .i64), v11, .sh⟩)])
noncomputable def lp_impl_limbs_times_1 (v3 v4 v5 : List Int) (v6 v7 : Int) (v10 : List Int) (v11 : Int) (v15 : List Int) (v16 : Int) (p : List Nat := [1, 1, 0, 1, 0, 0, 1, 1, 0, 0, 1, 1, 0]) : Option d51 := from_ EE R L 358 Go.Proofs.Tryz.f358 p (mk 50 [(3, .dat ⟨(.ptr t41), v3, (.own .sh)⟩), (4, .dat ⟨(.ptr t41), v4, (.own .sh)⟩), (5, .dat ⟨(.ptr t41), v5, (.own .sh)⟩), (6, .dat ⟨(.int .i64), v6, .sh⟩), (7, .dat ⟨(.int .u64), v7, .sh⟩), (10, .dat ⟨t41, v10, .sh⟩), (11, .dat ⟨(.int .i64), v11, .sh⟩), (15, .dat ⟨t41, v15, .sh⟩), (16, .dat ⟨(.int .i64), v16, .sh⟩)])
noncomputable def lp_impl_limbs_reduced_0 (v1 v2 v3 : List Int) (v4 : Int) (p : List Nat := [1, 1, 1, 0, 1, 0]) : Option d51 := from_ EE R L 359 Go.Proofs.Tryz.f359 p (mk 41 [(1, .dat ⟨(.ptr t41), v1, (.own .sh)⟩), (2, .dat ⟨(.ptr t41), v2, (.own .sh)⟩), (3, .dat ⟨(.ptr t41), v3, (.own .sh)⟩), (4, .dat ⟨(.int .i64), v4, .sh⟩)])
noncomputable def lp_impl_limbs_reduced_1 (v1 v2 v3 : List Int) (v28 : Int) (p : List Nat := [1, 1, 1, 1, 0, 1, 0]) : Option d51 := from_ EE R L 359 Go.Proofs.Tryz.f359 p (mk 41 [(1, .dat ⟨(.ptr t41), v1, (.own .sh)⟩), (2, .dat ⟨(.ptr t41), v2, (.own .sh)⟩), (3, .dat ⟨(.ptr t41), v3, (.own .sh)⟩), (28, .dat ⟨(.int .i64), v28, .sh⟩)])
noncomputable def lp_impl_limbs_bytes_0 (v1 : List UInt8) (v2 v5 : List Int) (v6 v13 v14 : Int) (p : List Nat := [1, 1, 1, 0, 1, 0]) : Option d52 := from_ EE R L 360 Go.Proofs.Tryz.f360 p (mk 56 [(1, .dat ⟨.str, v1, .sh⟩), (2, .dat ⟨(.ptr t41), v2, (.own .sh)⟩), (5, .dat ⟨t5, v5, (.own .sh)⟩), (6, .dat ⟨(.int .i64), v6, .sh⟩), (13, .dat ⟨(.int .i64), v13, .sh⟩), (14, .dat ⟨(.int .i64), v14, .sh⟩)])
noncomputable def lp_impl_limbs_bytes_1 (v1 : List UInt8) (v2 v5 : List Int) (v6 v7 v8 v13 v14 v17 : Int) (p : List Nat := [1, 1, 1, 0, 1, 0, 0, 1, 1, 0, 0, 1, 1, 0, 1, 0]) : Option d52 := from_ EE R L 360 Go.Proofs.Tryz.f360 p (mk 56 [(1, .dat ⟨.str, v1, .sh⟩), (2, .dat ⟨(.ptr t41), v2, (.own .sh)⟩), (5, .dat ⟨t5, v5, (.own .sh)⟩), (6, .dat ⟨(.int .i64), v6, .sh⟩), (7, .dat ⟨(.int .i64), v7, .sh⟩), (8, .dat ⟨(.int .i64), v8, .sh⟩), (13, .dat ⟨(.int .i64), v13, .sh⟩), (14, .dat ⟨(.int .i64), v14, .sh⟩), (17, .dat ⟨(.int .i64), v17, .sh⟩)])
noncomputable def lp_impl_tag_0 (v0 v1 : List UInt8) (v5 v6 : List Int) (v7 : Int) (p : List Nat := [1, 1, 1, 0, 1, 0]) : Option d52 := from_ EE R L 324 Go.Proofs.Tryz.f324 p (mk 36 [(0, .dat ⟨.str, v0, .sh⟩), (1, .dat ⟨.str, v1, .sh⟩), (5, .dat ⟨(.ptr t41), v5, (.own .sh)⟩), (6, .dat ⟨(.ptr t41), v6, (.own .sh)⟩), (7, .dat ⟨(.int .i64), v7, .sh⟩)])
noncomputable def lp_impl_Device_crash_0 (v1 : List Int) (v4 v5 : d61) (v16 : List d60) (v17 v18 : Int) (p : List Nat := [1, 1, 0, 1, 0]) : Option d67 := from_ EE R L 145 Go.Proofs.Tryz.f145 p (mk 73 [(1, .dat ⟨t0, v1, .sh⟩), (4, .dat ⟨(.ptr t25), v4, (.own (.pr (.own .sh) (.pr (.own .sh) .sh)))⟩), (5, .dat ⟨(.ptr t25), v5, (.own (.pr (.own .sh) (.pr (.own .sh) .sh)))⟩), (16, .dat ⟨(.sl t24), v16, .sh⟩), (17, .dat ⟨(.int .i64), v17, .sh⟩), (18, .dat ⟨(.int .i64), v18, .sh⟩)])
noncomputable def lp_laws_eqStringS_0 (v0 v1 : List (List UInt8)) (v4 : Bool) (v5 : Int) (p : List Nat := [1, 1, 0, 1, 0]) : Option d72 := from_ EE R L 114 Go.Proofs.Tryz.f114 p (mk 26 [(0, .dat ⟨(.sl .str), v0, .sh⟩), (1, .dat ⟨(.sl .str), v1, .sh⟩), (4, .dat ⟨.bool, v4, .sh⟩), (5, .dat ⟨(.int .i64), v5, .sh⟩)])
noncomputable def lp_laws_eqIoS_0 (v0 v1 : List d60) (v4 : Bool) (v5 : Int) (p : List Nat := [1, 1, 0, 1, 0]) : Option d72 := from_ EE R L 115 Go.Proofs.Tryz.f115 p (mk 27 [(0, .dat ⟨(.sl t24), v0, .sh⟩), (1, .dat ⟨(.sl t24), v1, .sh⟩), (4, .dat ⟨.bool, v4, .sh⟩), (5, .dat ⟨(.int .i64), v5, .sh⟩)])
noncomputable def lp_laws_eqOpS_0 (v0 v1 : List d53) (v4 : Bool) (v5 : Int) (p : List Nat := [1, 1, 0, 1, 0]) : Option d72 := from_ EE R L 146 Go.Proofs.Tryz.f146 p (mk 27 [(0, .dat ⟨(.sl t3), v0, .sh⟩), (1, .dat ⟨(.sl t3), v1, .sh⟩), (4, .dat ⟨.bool, v4, .sh⟩), (5, .dat ⟨(.int .i64), v5, .sh⟩)])
noncomputable def lp_laws_eqTxnS_0 (v0 v1 : List d54) (v4 : Bool) (v5 : Int) (p : List Nat := [1, 1, 0, 1, 0]) : Option d72 := from_ EE R L 27 Go.Proofs.Tryz.f27 p (mk 27 [(0, .dat ⟨(.sl t4), v0, .sh⟩), (1, .dat ⟨(.sl t4), v1, .sh⟩), (4, .dat ⟨.bool, v4, .sh⟩), (5, .dat ⟨(.int .i64), v5, .sh⟩)])
noncomputable def lp_laws_eqIntS_0 (v0 v1 : List Int) (v4 : Bool) (v5 : Int) (p : List Nat := [1, 1, 0, 1, 0]) : Option d72 := from_ EE R L 14 Go.Proofs.Tryz.f14 p (mk 26 [(0, .dat ⟨t0, v0, .sh⟩), (1, .dat ⟨t0, v1, .sh⟩), (4, .dat ⟨.bool, v4, .sh⟩), (5, .dat ⟨(.int .i64), v5, .sh⟩)])
noncomputable def lp_laws_markText_0 (v0 : Int) (v2 v3 : List UInt8) (p : List Nat := [1, 1, 1, 0, 0]) : Option d52 := from_ EE R L 193 Go.Proofs.Tryz.f193 p (mk 20 [(0, .dat ⟨(.int .i64), v0, .sh⟩), (2, .dat ⟨.str, v2, .sh⟩), (3, .dat ⟨.str, v3, .sh⟩)])
noncomputable def lp_laws_markStringS_0 (v0 : List (List UInt8)) (v1 v4 v5 : Int) (p : List Nat := [1, 0, 1, 0]) : Option d76 := from_ EE R L 117 Go.Proofs.Tryz.f117 p (mk 20 [(0, .dat ⟨(.sl .str), v0, (.pin 0 (.own .sh))⟩), (1, .dat ⟨(.int .i64), v1, .sh⟩), (4, .dat ⟨(.int .i64), v4, .sh⟩), (5, .dat ⟨(.int .i64), v5, .sh⟩)])
noncomputable def lp_laws_markIoS_0 (v0 : List d60) (v1 v4 v5 : Int) (p : List Nat := [1, 0, 1, 0]) : Option d77 := from_ EE R L 118 Go.Proofs.Tryz.f118 p (mk 28 [(0, .dat ⟨(.sl t24), v0, (.pin 0 (.own .sh))⟩), (1, .dat ⟨(.int .i64), v1, .sh⟩), (4, .dat ⟨(.int .i64), v4, .sh⟩), (5, .dat ⟨(.int .i64), v5, .sh⟩)])
noncomputable def lp_laws_markOpS_0 (v0 : List d53) (v1 v4 v5 : Int) (p : List Nat := [1, 0, 1, 0]) : Option d80 := from_ EE R L 75 Go.Proofs.Tryz.f75 p (mk 34 [(0, .dat ⟨(.sl t3), v0, (.pin 0 (.own .sh))⟩), (1, .dat ⟨(.int .i64), v1, .sh⟩), (4, .dat ⟨(.int .i64), v4, .sh⟩), (5, .dat ⟨(.int .i64), v5, .sh⟩)])
noncomputable def lp_laws_markTxnS_0 (v0 : List d54) (v1 v4 v5 : Int) (p : List Nat := [1, 0, 1, 0]) : Option d81 := from_ EE R L 29 Go.Proofs.Tryz.f29 p (mk 20 [(0, .dat ⟨(.sl t4), v0, (.pin 0 (.own (.pr (.own .sh) .sh)))⟩), (1, .dat ⟨(.int .i64), v1, .sh⟩), (4, .dat ⟨(.int .i64), v4, .sh⟩), (5, .dat ⟨(.int .i64), v5, .sh⟩)])
noncomputable def lp_laws_markIntS_0 (v0 : List Int) (v1 v4 v5 : Int) (p : List Nat := [1, 0, 1, 0]) : Option d82 := from_ EE R L 15 Go.Proofs.Tryz.f15 p (mk 19 [(0, .dat ⟨t0, v0, (.pin 0 (.own .sh))⟩), (1, .dat ⟨(.int .i64), v1, .sh⟩), (4, .dat ⟨(.int .i64), v4, .sh⟩), (5, .dat ⟨(.int .i64), v5, .sh⟩)])
noncomputable def lp_laws_heldStringS_0 (v0 : List (List UInt8)) (v1 v4 v5 : Int) (p : List Nat := [1, 0, 1, 0]) : Option d57 := from_ EE R L 119 Go.Proofs.Tryz.f119 p (mk 22 [(0, .dat ⟨(.sl .str), v0, .sh⟩), (1, .dat ⟨(.int .i64), v1, .sh⟩), (4, .dat ⟨(.int .i64), v4, .sh⟩), (5, .dat ⟨(.int .i64), v5, .sh⟩)])
noncomputable def lp_laws_heldIoS_0 (v0 : List d60) (v1 v4 v5 : Int) (p : List Nat := [1, 0, 1, 0]) : Option d57 := from_ EE R L 120 Go.Proofs.Tryz.f120 p (mk 32 [(0, .dat ⟨(.sl t24), v0, .sh⟩), (1, .dat ⟨(.int .i64), v1, .sh⟩), (4, .dat ⟨(.int .i64), v4, .sh⟩), (5, .dat ⟨(.int .i64), v5, .sh⟩)])
theorem q_slices_Clone___int_int_ (x0 : List Int) : @Eq _ (c_slices_Clone___int_int_ (bodyK EE R L) x0) (cond (Nat.beq x0.length 0)
 (agree
 (some ([], ()))
 (cond (lenOK (([] : List Int).length + x0.length))
 (some ([] ++ x0, ()))
 none))
 (cond (lenOK (([] : List Int).length + x0.length))
 (some ([] ++ x0, ()))
 none)) := by kernel_rfl
theorem q_impl_textOf (x0 : List Int) (x1 : Int) : @Eq _ (c_impl_textOf (bodyK EE R L) x0 x1) (cond (nonneg (IntKind.wrap .i64 (x1 - (x0.length : Int))))
 (cond (lenOK (IntKind.wrap .i64 (x1 - (x0.length : Int))).toNat)
 (cond (lenOK (x0.length + (List.replicate (IntKind.wrap .i64 (x1 - (x0.length : Int))).toNat (0 : Int)).length))
 ((c_impl_intsText R (x0 ++ (List.replicate (IntKind.wrap .i64 (x1 - (x0.length : Int))).toNat 0))).bind fun r0 =>
 some (r0.1, ()))
 none)
 none)
 none) := by kernel_rfl
theorem q_impl_entryText (x0 : List d54) (x1 : List Int) : @Eq _ (c_impl_entryText (bodyK EE R L) x0 x1) ((c_slices_Clone___int_int_ R x1).bind fun r0 =>
 cond (lenOK (r0.1.length + ([(x0.length : Int)]).length))
 (lp_impl_entryText_0 R L (r0.1 ++ [(x0.length : Int)]) x0 (x0.length : Int) 0)
 none) := by kernel_rfl
theorem q_impl_entryText_0 (v5 : List Int) (v16 : List d54) (v17 v18 : Int) : @Eq _ (lp_impl_entryText_0 R L v5 v16 v17 v18 ([1, 1, 0, 1, 0] ++ [0])) (cond (decide (v18 < v17))
 (cond (nonneg v18)
 (cond (Nat.blt v18.toNat v16.length)
 (cond (lenOK (v5.length + ([((v16.getD v18.toNat ([], ())).1.length : Int)]).length))
 (lp_impl_entryText_1 R L (v5 ++ [((v16.getD v18.toNat ([], ())).1.length : Int)]) v16 v17 v18 (v16.getD v18.toNat ([], ())).1 ((v16.getD v18.toNat ([], ())).1.length : Int) 0)
 none)
 none)
 none)
 ((c_impl_textOf R v5 68).bind fun r0 =>
 some (r0.1, ()))) := by kernel_rfl
theorem q_impl_entryText_1 (v5 : List Int) (v16 : List d54) (v17 v18 : Int) (v29 : List d53) (v30 v31 : Int) : @Eq _ (lp_impl_entryText_1 R L v5 v16 v17 v18 v29 v30 v31 ([1, 1, 0, 1, 0, 0, 1, 1, 0, 0, 1, 1, 1, 0] ++ [0])) (cond (decide (v31 < v30))
 (cond (nonneg v31)
 (cond (Nat.blt v31.toNat v29.length)
 (cond (lenOK (v5.length + ([(v29.getD v31.toNat (0, (0, (0, ())))).1, (v29.getD v31.toNat (0, (0, (0, ())))).2.1, (v29.getD v31.toNat (0, (0, (0, ())))).2.2.1]).length))
 (lp_impl_entryText_1 R L (v5 ++ [(v29.getD v31.toNat (0, (0, (0, ())))).1, (v29.getD v31.toNat (0, (0, (0, ())))).2.1, (v29.getD v31.toNat (0, (0, (0, ())))).2.2.1]) v16 v17 v18 v29 v30 (IntKind.wrap .i64 (v31 + 1)))
 none)
 none)
 none)
 (lp_impl_entryText_0 R L v5 v16 v17 (IntKind.wrap .i64 (v18 + 1)))) := by kernel_rfl
theorem q_spec_l02Bytes (x0 : List Int) (x1 : Int) : @Eq _ (c_spec_l02Bytes (bodyK EE R L) x0 x1) (cond (lenOK (x0.length + ([IntKind.wrap .u8 x1, IntKind.wrap .u8 (Int.fdiv x1 (2 ^ (Min.min (8 : Int).toNat (IntKind.bits .i64)))), IntKind.wrap .u8 (Int.fdiv x1 (2 ^ (Min.min (16 : Int).toNat (IntKind.bits .i64)))), IntKind.wrap .u8 (Int.fdiv x1 (2 ^ (Min.min (24 : Int).toNat (IntKind.bits .i64))))]).length))
 (some (x0 ++ [IntKind.wrap .u8 x1, IntKind.wrap .u8 (Int.fdiv x1 (2 ^ (Min.min (8 : Int).toNat (IntKind.bits .i64)))), IntKind.wrap .u8 (Int.fdiv x1 (2 ^ (Min.min (16 : Int).toNat (IntKind.bits .i64)))), IntKind.wrap .u8 (Int.fdiv x1 (2 ^ (Min.min (24 : Int).toNat (IntKind.bits .i64))))], ()))
 none) := by kernel_rfl
theorem q_spec_l06Ints (x0 : List Int) : @Eq _ (c_spec_l06Ints (bodyK EE R L) x0) (lp_spec_l06Ints_0 R L x0 [] 0) := by kernel_rfl
theorem q_spec_l06Ints_0 (v0 v3 : List Int) (v4 : Int) : @Eq _ (lp_spec_l06Ints_0 R L v0 v3 v4 ([1, 1, 0, 1, 0] ++ [0])) (cond (decide (v4 < (v0.length : Int)))
 (cond (nonneg v4)
 (cond (Nat.blt v4.toNat v0.length)
 ((c_spec_l02Bytes R v3 (v0.getD v4.toNat 0)).bind fun r0 =>
 lp_spec_l06Ints_0 R L v0 r0.1 (IntKind.wrap .i64 (v4 + 1)))
 none)
 none)
 (some (List.map (fun (n : Int) => UInt8.ofNat n.toNat) v3, ()))) := by kernel_rfl
theorem q_spec_l12Fill (x0 : List Int) (x1 : Int) : @Eq _ (c_spec_l12Fill (bodyK EE R L) x0 x1) (lp_spec_l12Fill_0 R L x0 x1) := by kernel_rfl
theorem q_spec_l12Fill_0 (v0 : List Int) (v1 : Int) : @Eq _ (lp_spec_l12Fill_0 R L v0 v1 ([1, 0, 0] ++ [0])) (cond (decide ((v0.length : Int) < v1))
 (cond (lenOK (v0.length + ([(0 : Int)]).length))
 (lp_spec_l12Fill_0 R L (v0 ++ [0]) v1)
 none)
 ((c_spec_l06Ints R v0).bind fun r0 =>
 some (r0.1, ()))) := by kernel_rfl
theorem q_spec_l12Entry (x0 : List d54) (x1 : List Int) : @Eq _ (c_spec_l12Entry (bodyK EE R L) x0 x1) (cond (lenOK (([] : List Int).length + x1.length))
 (cond (lenOK ((([] : List Int) ++ x1).length + ([(x0.length : Int)]).length))
 (lp_spec_l12Entry_0 R L x0 (([] ++ x1) ++ [(x0.length : Int)]) 0)
 none)
 none) := by kernel_rfl
theorem q_spec_l12Entry_0 (v0 : List d54) (v5 : List Int) (v6 : Int) : @Eq _ (lp_spec_l12Entry_0 R L v0 v5 v6 ([1, 1, 0, 1, 0] ++ [0])) (cond (decide (v6 < (v0.length : Int)))
 (cond (nonneg v6)
 (cond (Nat.blt v6.toNat v0.length)
 (cond (lenOK (v5.length + ([((v0.getD v6.toNat ([], ())).1.length : Int)]).length))
 (lp_spec_l12Entry_1 R L v0 (v5 ++ [((v0.getD v6.toNat ([], ())).1.length : Int)]) v6 0)
 none)
 none)
 none)
 ((c_spec_l12Fill R v5 68).bind fun r0 =>
 some (r0.1, ()))) := by kernel_rfl
theorem q_spec_l12Entry_1 (v0 : List d54) (v5 : List Int) (v6 v7 : Int) : @Eq _ (lp_spec_l12Entry_1 R L v0 v5 v6 v7 ([1, 1, 0, 1, 0, 0, 1, 0, 0, 1, 1, 0] ++ [0])) (cond (nonneg v6)
 (cond (Nat.blt v6.toNat v0.length)
 (cond (decide (v7 < ((v0.getD v6.toNat ([], ())).1.length : Int)))
 (cond (nonneg v6)
 (cond (Nat.blt v6.toNat v0.length)
 (cond (nonneg v7)
 (cond (Nat.blt v7.toNat (v0.getD v6.toNat ([], ())).1.length)
 (cond (lenOK (v5.length + ([((v0.getD v6.toNat ([], ())).1.getD v7.toNat (0, (0, (0, ())))).1, ((v0.getD v6.toNat ([], ())).1.getD v7.toNat (0, (0, (0, ())))).2.1, ((v0.getD v6.toNat ([], ())).1.getD v7.toNat (0, (0, (0, ())))).2.2.1]).length))
 (lp_spec_l12Entry_1 R L v0 (v5 ++ [((v0.getD v6.toNat ([], ())).1.getD v7.toNat (0, (0, (0, ())))).1, ((v0.getD v6.toNat ([], ())).1.getD v7.toNat (0, (0, (0, ())))).2.1, ((v0.getD v6.toNat ([], ())).1.getD v7.toNat (0, (0, (0, ())))).2.2.1]) v6 (IntKind.wrap .i64 (v7 + 1)))
 none)
 none)
 none)
 none)
 none)
 (lp_spec_l12Entry_0 R L v0 v5 (IntKind.wrap .i64 (v6 + 1))))
 none)
 none) := by kernel_rfl
theorem q_spec_l01Start : @Eq _ (c_spec_l01Start (bodyK EE R L)) (some ([1779033703, 3144134277, 1013904242, 2773480762, 1359893119, 2600822924, 528734635, 1541459225], ())) := by kernel_rfl
theorem q_spec_NewHash : @Eq _ (c_spec_NewHash (bodyK EE R L)) ((c_spec_l01Start R).bind fun r0 =>
 some ((r0.1, ([], (0, ()))), ())) := by kernel_rfl
theorem q_spec_l01Word (x0 : List UInt8) (x1 : Int) : @Eq _ (c_spec_l01Word (bodyK EE R L) x0 x1) (cond (nonneg x1)
 (cond (Nat.blt x1.toNat x0.length)
 (cond (nonneg (IntKind.wrap .i64 (x1 + 1)))
 (cond (Nat.blt (IntKind.wrap .i64 (x1 + 1)).toNat x0.length)
 (cond (nonneg (IntKind.wrap .i64 (x1 + 2)))
 (cond (Nat.blt (IntKind.wrap .i64 (x1 + 2)).toNat x0.length)
 (cond (nonneg (IntKind.wrap .i64 (x1 + 3)))
 (cond (Nat.blt (IntKind.wrap .i64 (x1 + 3)).toNat x0.length)
 (some (bitI .or .i64 (bitI .or .i64 (bitI .or .i64 (IntKind.wrap .i64 ((IntKind.wrap .i64 (UInt8.toNat (x0.getD x1.toNat 0) : Int)) * (2 ^ (Min.min (24 : Int).toNat (IntKind.bits .i64))))) (IntKind.wrap .i64 ((IntKind.wrap .i64 (UInt8.toNat (x0.getD (IntKind.wrap .i64 (x1 + 1)).toNat 0) : Int)) * (2 ^ (Min.min (16 : Int).toNat (IntKind.bits .i64)))))) (IntKind.wrap .i64 ((IntKind.wrap .i64 (UInt8.toNat (x0.getD (IntKind.wrap .i64 (x1 + 2)).toNat 0) : Int)) * (2 ^ (Min.min (8 : Int).toNat (IntKind.bits .i64)))))) (IntKind.wrap .i64 (UInt8.toNat (x0.getD (IntKind.wrap .i64 (x1 + 3)).toNat 0) : Int)), ()))
 none)
 none)
 none)
 none)
 none)
 none)
 none)
 none) := by kernel_rfl
theorem q_spec_l01Right (x0 x1 : Int) : @Eq _ (c_spec_l01Right (bodyK EE R L) x0 x1) (cond (decide (x1 < 0))
 none
 (cond (decide ((IntKind.wrap .i64 (32 - x1)) < 0))
 none
 (some (bitI .and .i64 (bitI .or .i64 (Int.fdiv x0 (2 ^ (Min.min x1.toNat (IntKind.bits .i64)))) (IntKind.wrap .i64 (x0 * (2 ^ (Min.min (IntKind.wrap .i64 (32 - x1)).toNat (IntKind.bits .i64)))))) 4294967295, ())))) := by kernel_rfl
theorem q_spec_l01Table : @Eq _ (c_spec_l01Table (bodyK EE R L)) (some ([1116352408, 1899447441, 3049323471, 3921009573, 961987163, 1508970993, 2453635748, 2870763221, 3624381080, 310598401, 607225278, 1426881987, 1925078388, 2162078206, 2614888103, 3248222580, 3835390401, 4022224774, 264347078, 604807628, 770255983, 1249150122, 1555081692, 1996064986, 2554220882, 2821834349, 2952996808, 3210313671, 3336571891, 3584528711, 113926993, 338241895, 666307205, 773529912, 1294757372, 1396182291, 1695183700, 1986661051, 2177026350, 2456956037, 2730485921, 2820302411, 3259730800, 3345764771, 3516065817, 3600352804, 4094571909, 275423344, 430227734, 506948616, 659060556, 883997877, 958139571, 1322822218, 1537002063, 1747873779, 1955562222, 2024104815, 2227730452, 2361852424, 2428436474, 2756734187, 3204031479, 3329325298], ())) := by kernel_rfl
theorem q_spec_l01Block (x0 : List Int) (x1 : List UInt8) : @Eq _ (c_spec_l01Block (bodyK EE R L) x0 x1) (lp_spec_l01Block_0 R L x1 x0 (List.replicate 8 0) [0, 0, 0, 0, 0, 0, 0, 0, 0, 0, 0, 0, 0, 0, 0, 0, 0, 0, 0, 0, 0, 0, 0, 0, 0, 0, 0, 0, 0, 0, 0, 0, 0, 0, 0, 0, 0, 0, 0, 0, 0, 0, 0, 0, 0, 0, 0, 0, 0, 0, 0, 0, 0, 0, 0, 0, 0, 0, 0, 0, 0, 0, 0, 0] 0) := by kernel_rfl
theorem q_spec_l01Block_0 (v1 : List UInt8) (v2 v4 v5 : List Int) (v6 : Int) : @Eq _ (lp_spec_l01Block_0 R L v1 v2 v4 v5 v6 ([1, 1, 0, 1, 0] ++ [0])) (cond (decide (v6 < 16))
 ((c_spec_l01Word R v1 (IntKind.wrap .i64 (4 * v6))).bind fun r0 =>
 cond (nonneg v6)
 (cond (Nat.blt v6.toNat 64)
 (lp_spec_l01Block_0 R L v1 v2 v4 (v5.set v6.toNat r0.1) (IntKind.wrap .i64 (v6 + 1)))
 none)
 none)
 (lp_spec_l01Block_1 R L v2 v4 v5 16)) := by kernel_rfl
theorem q_spec_l01Block_1 (v2 v4 v5 : List Int) (v7 : Int) : @Eq _ (lp_spec_l01Block_1 R L v2 v4 v5 v7 ([1, 1, 1, 0, 1, 0] ++ [0])) (cond (decide (v7 < 64))
 (cond (nonneg (IntKind.wrap .i64 (v7 - 15)))
 (cond (Nat.blt (IntKind.wrap .i64 (v7 - 15)).toNat 64)
 ((c_spec_l01Right R (v5.getD (IntKind.wrap .i64 (v7 - 15)).toNat 0) 7).bind fun r0 =>
 cond (nonneg (IntKind.wrap .i64 (v7 - 15)))
 (cond (Nat.blt (IntKind.wrap .i64 (v7 - 15)).toNat 64)
 ((c_spec_l01Right R (v5.getD (IntKind.wrap .i64 (v7 - 15)).toNat 0) 18).bind fun r1 =>
 cond (nonneg (IntKind.wrap .i64 (v7 - 15)))
 (cond (Nat.blt (IntKind.wrap .i64 (v7 - 15)).toNat 64)
 (cond (nonneg (IntKind.wrap .i64 (v7 - 2)))
 (cond (Nat.blt (IntKind.wrap .i64 (v7 - 2)).toNat 64)
 ((c_spec_l01Right R (v5.getD (IntKind.wrap .i64 (v7 - 2)).toNat 0) 17).bind fun r2 =>
 cond (nonneg (IntKind.wrap .i64 (v7 - 2)))
 (cond (Nat.blt (IntKind.wrap .i64 (v7 - 2)).toNat 64)
 ((c_spec_l01Right R (v5.getD (IntKind.wrap .i64 (v7 - 2)).toNat 0) 19).bind fun r3 =>
 cond (nonneg (IntKind.wrap .i64 (v7 - 2)))
 (cond (Nat.blt (IntKind.wrap .i64 (v7 - 2)).toNat 64)
 (cond (nonneg (IntKind.wrap .i64 (v7 - 16)))
 (cond (Nat.blt (IntKind.wrap .i64 (v7 - 16)).toNat 64)
 (cond (nonneg (IntKind.wrap .i64 (v7 - 7)))
 (cond (Nat.blt (IntKind.wrap .i64 (v7 - 7)).toNat 64)
 (cond (nonneg v7)
 (cond (Nat.blt v7.toNat 64)
 (lp_spec_l01Block_1 R L v2 v4 (v5.set v7.toNat (bitI .and .i64 (IntKind.wrap .i64 ((IntKind.wrap .i64 ((IntKind.wrap .i64 ((v5.getD (IntKind.wrap .i64 (v7 - 16)).toNat 0) + (bitI .xor .i64 (bitI .xor .i64 r0.1 r1.1) (Int.fdiv (v5.getD (IntKind.wrap .i64 (v7 - 15)).toNat 0) (2 ^ (Min.min (3 : Int).toNat (IntKind.bits .i64))))))) + (v5.getD (IntKind.wrap .i64 (v7 - 7)).toNat 0))) + (bitI .xor .i64 (bitI .xor .i64 r2.1 r3.1) (Int.fdiv (v5.getD (IntKind.wrap .i64 (v7 - 2)).toNat 0) (2 ^ (Min.min (10 : Int).toNat (IntKind.bits .i64))))))) 4294967295)) (IntKind.wrap .i64 (v7 + 1)))
 none)
 none)
 none)
 none)
 none)
 none)
 none)
 none)
 none)
 none)
 none)
 none)
 none)
 none)
 none)
 none)
 none)
 none)
 ((c_spec_l01Table R).bind fun r0 =>
 lp_spec_l01Block_2 R L v2 v4 v5 r0.1 v2 0)) := by kernel_rfl
theorem q_spec_l01Block_2 (v2 v4 v5 v10 v11 : List Int) (v12 : Int) : @Eq _ (lp_spec_l01Block_2 R L v2 v4 v5 v10 v11 v12 ([1, 1, 1, 1, 1, 1, 0, 1, 0] ++ [0])) (cond (decide (v12 < 64))
 ((c_spec_l01Right R (v11.getD (4 : Int).toNat 0) 6).bind fun r0 =>
 (c_spec_l01Right R (v11.getD (4 : Int).toNat 0) 11).bind fun r1 =>
 (c_spec_l01Right R (v11.getD (4 : Int).toNat 0) 25).bind fun r2 =>
 cond (nonneg v12)
 (cond (Nat.blt v12.toNat 64)
 (cond (nonneg v12)
 (cond (Nat.blt v12.toNat 64)
 ((c_spec_l01Right R (v11.getD (0 : Int).toNat 0) 2).bind fun r3 =>
 (c_spec_l01Right R (v11.getD (0 : Int).toNat 0) 13).bind fun r4 =>
 (c_spec_l01Right R (v11.getD (0 : Int).toNat 0) 22).bind fun r5 =>
 lp_spec_l01Block_2 R L v2 v4 v5 v10 [bitI .and .i64 (IntKind.wrap .i64 ((IntKind.wrap .i64 ((IntKind.wrap .i64 ((IntKind.wrap .i64 ((IntKind.wrap .i64 ((IntKind.wrap .i64 ((v11.getD (7 : Int).toNat 0) + (bitI .xor .i64 (bitI .xor .i64 r0.1 r1.1) r2.1))) + (bitI .xor .i64 (bitI .and .i64 (v11.getD (4 : Int).toNat 0) (v11.getD (5 : Int).toNat 0)) (bitI .and .i64 (bitI .xor .i64 4294967295 (v11.getD (4 : Int).toNat 0)) (v11.getD (6 : Int).toNat 0))))) + (v10.getD v12.toNat 0))) + (v5.getD v12.toNat 0))) + (bitI .xor .i64 (bitI .xor .i64 r3.1 r4.1) r5.1))) + (bitI .xor .i64 (bitI .xor .i64 (bitI .and .i64 (v11.getD (0 : Int).toNat 0) (v11.getD (1 : Int).toNat 0)) (bitI .and .i64 (v11.getD (0 : Int).toNat 0) (v11.getD (2 : Int).toNat 0))) (bitI .and .i64 (v11.getD (1 : Int).toNat 0) (v11.getD (2 : Int).toNat 0))))) 4294967295, v11.getD (0 : Int).toNat 0, v11.getD (1 : Int).toNat 0, v11.getD (2 : Int).toNat 0, bitI .and .i64 (IntKind.wrap .i64 ((v11.getD (3 : Int).toNat 0) + (IntKind.wrap .i64 ((IntKind.wrap .i64 ((IntKind.wrap .i64 ((IntKind.wrap .i64 ((v11.getD (7 : Int).toNat 0) + (bitI .xor .i64 (bitI .xor .i64 r0.1 r1.1) r2.1))) + (bitI .xor .i64 (bitI .and .i64 (v11.getD (4 : Int).toNat 0) (v11.getD (5 : Int).toNat 0)) (bitI .and .i64 (bitI .xor .i64 4294967295 (v11.getD (4 : Int).toNat 0)) (v11.getD (6 : Int).toNat 0))))) + (v10.getD v12.toNat 0))) + (v5.getD v12.toNat 0))))) 4294967295, v11.getD (4 : Int).toNat 0, v11.getD (5 : Int).toNat 0, v11.getD (6 : Int).toNat 0] (IntKind.wrap .i64 (v12 + 1)))
 none)
 none)
 none)
 none)
 (lp_spec_l01Block_3 R L v2 v4 v11 0)) := by kernel_rfl
theorem q_spec_l01Block_3 (v2 v4 v11 : List Int) (v18 : Int) : @Eq _ (lp_spec_l01Block_3 R L v2 v4 v11 v18 ([1, 1, 1, 1, 1, 1, 1, 0, 1, 0] ++ [0])) (cond (decide (v18 < 8))
 (cond (nonneg v18)
 (cond (Nat.blt v18.toNat 8)
 (cond (nonneg v18)
 (cond (Nat.blt v18.toNat 8)
 (cond (nonneg v18)
 (cond (Nat.blt v18.toNat 8)
 (lp_spec_l01Block_3 R L (v2.set v18.toNat (bitI .and .i64 (IntKind.wrap .i64 ((v2.getD v18.toNat 0) + (v11.getD v18.toNat 0))) 4294967295)) v4 v11 (IntKind.wrap .i64 (v18 + 1)))
 none)
 none)
 none)
 none)
 none)
 none)
 (some (v2, ()))) := by kernel_rfl
theorem q_spec_l01More (x0 : d55) (x1 : List UInt8) : @Eq _ (c_spec_l01More (bodyK EE R L) x0 x1) (cond (lenOK (x0.2.1.length + x1.length))
 (lp_spec_l01More_0 R L (x0.1, (x0.2.1 ++ x1, (IntKind.wrap .i64 (x0.2.2.1 + (x1.length : Int)), x0.2.2.2))) (List.replicate 8 0, ([], (0, ()))))
 none) := by kernel_rfl
theorem q_spec_l01More_0 (v2 v4 : d55) : @Eq _ (lp_spec_l01More_0 R L v2 v4 ([1, 1, 1, 0, 0] ++ [0])) (cond (decide (64 ≤ (v2.2.1.length : Int)))
 ((c_spec_l01Block R v2.1 v2.2.1).bind fun r0 =>
 cond (Nat.ble v2.2.1.length v2.2.1.length)
 (cond (Nat.ble (64 : Int).toNat v2.2.1.length)
 (lp_spec_l01More_0 R L (r0.1, (List.drop (64 : Int).toNat (List.take v2.2.1.length v2.2.1), v2.2.2)) v4)
 none)
 none)
 (some (v2, ()))) := by kernel_rfl
theorem q_spec_l01Sum (x0 : d55) : @Eq _ (c_spec_l01Sum (bodyK EE R L) x0) (lp_spec_l01Sum_0 R L x0 (IntKind.wrap .i64 (8 * x0.2.2.1)) [128]) := by kernel_rfl
theorem q_spec_l01Sum_0 (v1 : d55) (v3 : Int) (v4 : List Int) : @Eq _ (lp_spec_l01Sum_0 R L v1 v3 v4 ([1, 1, 1, 0, 0] ++ [0])) (cond (!(eqI (Int.tmod (IntKind.wrap .i64 (v1.2.2.1 + (v4.length : Int))) 64) 56))
 (cond (lenOK (v4.length + ([(0 : Int)]).length))
 (lp_spec_l01Sum_0 R L v1 v3 (v4 ++ [0]))
 none)
 (lp_spec_l01Sum_1 R L v1 v3 v4 7)) := by kernel_rfl
theorem q_spec_l01Sum_1 (v1 : d55) (v3 : Int) (v4 : List Int) (v5 : Int) : @Eq _ (lp_spec_l01Sum_1 R L v1 v3 v4 v5 ([1, 1, 1, 1, 0, 1, 0] ++ [0])) (cond (decide (0 ≤ v5))
 (cond (decide ((IntKind.wrap .i64 (8 * v5)) < 0))
 none
 (cond (lenOK (v4.length + ([IntKind.wrap .u8 (Int.fdiv v3 (2 ^ (Min.min (IntKind.wrap .i64 (8 * v5)).toNat (IntKind.bits .i64))))]).length))
 (lp_spec_l01Sum_1 R L v1 v3 (v4 ++ [IntKind.wrap .u8 (Int.fdiv v3 (2 ^ (Min.min (IntKind.wrap .i64 (8 * v5)).toNat (IntKind.bits .i64))))]) (IntKind.wrap .i64 (v5 - 1)))
 none))
 ((c_spec_l01More R v1 (List.map (fun (n : Int) => UInt8.ofNat n.toNat) v4)).bind fun r0 =>
 lp_spec_l01Sum_2 R L r0.1 [] 0)) := by kernel_rfl
theorem q_spec_l01Sum_2 (v1 : d55) (v6 : List Int) (v7 : Int) : @Eq _ (lp_spec_l01Sum_2 R L v1 v6 v7 ([1, 1, 1, 1, 1, 1, 1, 0, 1, 0] ++ [0])) (cond (decide (v7 < 8))
 (lp_spec_l01Sum_3 R L v1 v6 v7 3)
 (some (List.map (fun (n : Int) => UInt8.ofNat n.toNat) v6, ()))) := by kernel_rfl
theorem q_spec_l01Sum_3 (v1 : d55) (v6 : List Int) (v7 v8 : Int) : @Eq _ (lp_spec_l01Sum_3 R L v1 v6 v7 v8 ([1, 1, 1, 1, 1, 1, 1, 0, 1, 0, 0, 1, 0, 0, 1, 0] ++ [0])) (cond (decide (0 ≤ v8))
 (cond (nonneg v7)
 (cond (Nat.blt v7.toNat 8)
 (cond (decide ((IntKind.wrap .i64 (8 * v8)) < 0))
 none
 (cond (lenOK (v6.length + ([IntKind.wrap .u8 (Int.fdiv (v1.1.getD v7.toNat 0) (2 ^ (Min.min (IntKind.wrap .i64 (8 * v8)).toNat (IntKind.bits .i64))))]).length))
 (lp_spec_l01Sum_3 R L v1 (v6 ++ [IntKind.wrap .u8 (Int.fdiv (v1.1.getD v7.toNat 0) (2 ^ (Min.min (IntKind.wrap .i64 (8 * v8)).toNat (IntKind.bits .i64))))]) v7 (IntKind.wrap .i64 (v8 - 1)))
 none))
 none)
 none)
 (lp_spec_l01Sum_2 R L v1 v6 (IntKind.wrap .i64 (v7 + 1)))) := by kernel_rfl
theorem q_spec_l01Of (x0 : List UInt8) : @Eq _ (c_spec_l01Of (bodyK EE R L) x0) ((c_spec_NewHash R).bind fun r0 =>
 (c_spec_l01More R r0.1 x0).bind fun r1 =>
 (c_spec_l01Sum R r1.1).bind fun r2 =>
 some (r2.1, ())) := by kernel_rfl
theorem q_impl_NewHash : @Eq _ (c_impl_NewHash (bodyK EE R L)) (some (([1779033703, 3144134277, 1013904242, 2773480762, 1359893119, 2600822924, 528734635, 1541459225], ([], (0, ()))), ())) := by kernel_rfl
theorem q_impl_constants : @Eq _ (c_impl_constants (bodyK EE R L)) (some ([1116352408, 1899447441, 3049323471, 3921009573, 961987163, 1508970993, 2453635748, 2870763221, 3624381080, 310598401, 607225278, 1426881987, 1925078388, 2162078206, 2614888103, 3248222580, 3835390401, 4022224774, 264347078, 604807628, 770255983, 1249150122, 1555081692, 1996064986, 2554220882, 2821834349, 2952996808, 3210313671, 3336571891, 3584528711, 113926993, 338241895, 666307205, 773529912, 1294757372, 1396182291, 1695183700, 1986661051, 2177026350, 2456956037, 2730485921, 2820302411, 3259730800, 3345764771, 3516065817, 3600352804, 4094571909, 275423344, 430227734, 506948616, 659060556, 883997877, 958139571, 1322822218, 1537002063, 1747873779, 1955562222, 2024104815, 2227730452, 2361852424, 2428436474, 2756734187, 3204031479, 3329325298], ())) := by kernel_rfl
theorem q_math_bits_RotateLeft32 (x0 x1 : Int) : @Eq _ (c_math_bits_RotateLeft32 (bodyK EE R L) x0 x1) (cond (decide ((IntKind.wrap .u64 (32 - (bitI .and .u64 (IntKind.wrap .u64 x1) 31))) < 0))
 none
 (some (bitI .or .u32 (IntKind.wrap .u32 (x0 * (2 ^ (Min.min (bitI .and .u64 (IntKind.wrap .u64 x1) 31).toNat (IntKind.bits .u32))))) (Int.fdiv x0 (2 ^ (Min.min (IntKind.wrap .u64 (32 - (bitI .and .u64 (IntKind.wrap .u64 x1) 31))).toNat (IntKind.bits .u32)))), ()))) := by kernel_rfl
theorem q_impl_turned (x0 x1 : Int) : @Eq _ (c_impl_turned (bodyK EE R L) x0 x1) ((c_math_bits_RotateLeft32 R x0 (negI .i64 x1)).bind fun r0 =>
 some (r0.1, ())) := by kernel_rfl
theorem q_pimpl_Hash_block (x0 : d55) (x1 : List UInt8) (x2 : List Int) : @Eq _ (c_pimpl_Hash_block (bodyK EE R L) x0 x1 x2) (lp_pimpl_Hash_block_0 R L x0 x1 x2 (List.replicate 64 0) 0) := by kernel_rfl
theorem q_pimpl_Hash_block_0 (v0 : d55) (v1 : List UInt8) (v2 v6 : List Int) (v25 : Int) : @Eq _ (lp_pimpl_Hash_block_0 R L v0 v1 v2 v6 v25 ([1, 0, 1, 0] ++ [0])) (cond (decide (v25 < 16))
 (cond (nonneg (IntKind.wrap .i64 (4 * v25)))
 (cond (Nat.blt (IntKind.wrap .i64 (4 * v25)).toNat v1.length)
 (cond (nonneg (IntKind.wrap .i64 ((IntKind.wrap .i64 (4 * v25)) + 1)))
 (cond (Nat.blt (IntKind.wrap .i64 ((IntKind.wrap .i64 (4 * v25)) + 1)).toNat v1.length)
 (cond (nonneg (IntKind.wrap .i64 ((IntKind.wrap .i64 (4 * v25)) + 2)))
 (cond (Nat.blt (IntKind.wrap .i64 ((IntKind.wrap .i64 (4 * v25)) + 2)).toNat v1.length)
 (cond (nonneg (IntKind.wrap .i64 ((IntKind.wrap .i64 (4 * v25)) + 3)))
 (cond (Nat.blt (IntKind.wrap .i64 ((IntKind.wrap .i64 (4 * v25)) + 3)).toNat v1.length)
 (cond (nonneg v25)
 (cond (Nat.blt v25.toNat 64)
 (lp_pimpl_Hash_block_0 R L v0 v1 v2 (v6.set v25.toNat (bitI .or .u32 (bitI .or .u32 (bitI .or .u32 (IntKind.wrap .u32 ((IntKind.wrap .u32 (UInt8.toNat (v1.getD (IntKind.wrap .i64 (4 * v25)).toNat 0) : Int)) * (2 ^ (Min.min (24 : Int).toNat (IntKind.bits .u32))))) (IntKind.wrap .u32 ((IntKind.wrap .u32 (UInt8.toNat (v1.getD (IntKind.wrap .i64 ((IntKind.wrap .i64 (4 * v25)) + 1)).toNat 0) : Int)) * (2 ^ (Min.min (16 : Int).toNat (IntKind.bits .u32)))))) (IntKind.wrap .u32 ((IntKind.wrap .u32 (UInt8.toNat (v1.getD (IntKind.wrap .i64 ((IntKind.wrap .i64 (4 * v25)) + 2)).toNat 0) : Int)) * (2 ^ (Min.min (8 : Int).toNat (IntKind.bits .u32)))))) (IntKind.wrap .u32 (UInt8.toNat (v1.getD (IntKind.wrap .i64 ((IntKind.wrap .i64 (4 * v25)) + 3)).toNat 0) : Int)))) (IntKind.wrap .i64 (v25 + 1)))
 none)
 none)
 none)
 none)
 none)
 none)
 none)
 none)
 none)
 none)
 (lp_pimpl_Hash_block_1 R L v0 v2 v6 16)) := by kernel_rfl
theorem q_pimpl_Hash_block_1 (v0 : d55) (v2 v6 : List Int) (v8 : Int) : @Eq _ (lp_pimpl_Hash_block_1 R L v0 v2 v6 v8 ([1, 1, 0, 1, 0] ++ [0])) (cond (decide (v8 < 64))
 (cond (nonneg (IntKind.wrap .i64 (v8 - 15)))
 (cond (Nat.blt (IntKind.wrap .i64 (v8 - 15)).toNat 64)
 (cond (nonneg (IntKind.wrap .i64 (v8 - 2)))
 (cond (Nat.blt (IntKind.wrap .i64 (v8 - 2)).toNat 64)
 (cond (nonneg (IntKind.wrap .i64 (v8 - 16)))
 (cond (Nat.blt (IntKind.wrap .i64 (v8 - 16)).toNat 64)
 ((c_impl_turned R (v6.getD (IntKind.wrap .i64 (v8 - 15)).toNat 0) 7).bind fun r0 =>
 (c_impl_turned R (v6.getD (IntKind.wrap .i64 (v8 - 15)).toNat 0) 18).bind fun r1 =>
 cond (nonneg (IntKind.wrap .i64 (v8 - 7)))
 (cond (Nat.blt (IntKind.wrap .i64 (v8 - 7)).toNat 64)
 ((c_impl_turned R (v6.getD (IntKind.wrap .i64 (v8 - 2)).toNat 0) 17).bind fun r2 =>
 (c_impl_turned R (v6.getD (IntKind.wrap .i64 (v8 - 2)).toNat 0) 19).bind fun r3 =>
 cond (nonneg v8)
 (cond (Nat.blt v8.toNat 64)
 (lp_pimpl_Hash_block_1 R L v0 v2 (v6.set v8.toNat (IntKind.wrap .u32 ((IntKind.wrap .u32 ((IntKind.wrap .u32 ((v6.getD (IntKind.wrap .i64 (v8 - 16)).toNat 0) + (bitI .xor .u32 (bitI .xor .u32 r0.1 r1.1) (Int.fdiv (v6.getD (IntKind.wrap .i64 (v8 - 15)).toNat 0) (2 ^ (Min.min (3 : Int).toNat (IntKind.bits .u32))))))) + (v6.getD (IntKind.wrap .i64 (v8 - 7)).toNat 0))) + (bitI .xor .u32 (bitI .xor .u32 r2.1 r3.1) (Int.fdiv (v6.getD (IntKind.wrap .i64 (v8 - 2)).toNat 0) (2 ^ (Min.min (10 : Int).toNat (IntKind.bits .u32)))))))) (IntKind.wrap .i64 (v8 + 1)))
 none)
 none)
 none)
 none)
 none)
 none)
 none)
 none)
 none)
 none)
 (lp_pimpl_Hash_block_2 R L v0 v2 v6 (List.replicate 8 0) v0.1 0)) := by kernel_rfl
theorem q_pimpl_Hash_block_2 (v0 : d55) (v2 v6 v11 v104 : List Int) (v105 : Int) : @Eq _ (lp_pimpl_Hash_block_2 R L v0 v2 v6 v11 v104 v105 ([1, 1, 1, 1, 0, 1, 0] ++ [0])) (cond (decide (v105 < 8))
 (cond (nonneg v105)
 (cond (Nat.blt v105.toNat 8)
 (cond (nonneg v105)
 (cond (Nat.blt v105.toNat 8)
 (lp_pimpl_Hash_block_2 R L v0 v2 v6 (v11.set v105.toNat (IntKind.wrap .u32 (v104.getD v105.toNat 0))) v104 (IntKind.wrap .i64 (v105 + 1)))
 none)
 none)
 none)
 none)
 (lp_pimpl_Hash_block_3 R L v0 v2 v6 v11 0)) := by kernel_rfl
theorem q_pimpl_Hash_block_3 (v0 : d55) (v2 v6 v11 : List Int) (v114 : Int) : @Eq _ (lp_pimpl_Hash_block_3 R L v0 v2 v6 v11 v114 ([1, 1, 1, 1, 1, 0, 1, 0] ++ [0])) (cond (decide (v114 < 64))
 ((c_impl_turned R (v11.getD (4 : Int).toNat 0) 6).bind fun r0 =>
 (c_impl_turned R (v11.getD (4 : Int).toNat 0) 11).bind fun r1 =>
 (c_impl_turned R (v11.getD (4 : Int).toNat 0) 25).bind fun r2 =>
 cond (nonneg v114)
 (cond (Nat.blt v114.toNat 64)
 (cond (nonneg v114)
 (cond (Nat.blt v114.toNat 64)
 ((c_impl_turned R (v11.getD (0 : Int).toNat 0) 2).bind fun r3 =>
 (c_impl_turned R (v11.getD (0 : Int).toNat 0) 13).bind fun r4 =>
 (c_impl_turned R (v11.getD (0 : Int).toNat 0) 22).bind fun r5 =>
 lp_pimpl_Hash_block_3 R L v0 v2 v6 [IntKind.wrap .u32 ((IntKind.wrap .u32 ((IntKind.wrap .u32 ((IntKind.wrap .u32 ((IntKind.wrap .u32 ((v11.getD (7 : Int).toNat 0) + (bitI .xor .u32 (bitI .xor .u32 r0.1 r1.1) r2.1))) + (bitI .xor .u32 (bitI .and .u32 (v11.getD (4 : Int).toNat 0) (v11.getD (5 : Int).toNat 0)) (bitI .and .u32 (bitI .xor .u32 ((2 ^ (IntKind.bits .u32)) - 1) (v11.getD (4 : Int).toNat 0)) (v11.getD (6 : Int).toNat 0))))) + (v2.getD v114.toNat 0))) + (v6.getD v114.toNat 0))) + (IntKind.wrap .u32 ((bitI .xor .u32 (bitI .xor .u32 r3.1 r4.1) r5.1) + (bitI .xor .u32 (bitI .xor .u32 (bitI .and .u32 (v11.getD (0 : Int).toNat 0) (v11.getD (1 : Int).toNat 0)) (bitI .and .u32 (v11.getD (0 : Int).toNat 0) (v11.getD (2 : Int).toNat 0))) (bitI .and .u32 (v11.getD (1 : Int).toNat 0) (v11.getD (2 : Int).toNat 0)))))), v11.getD (0 : Int).toNat 0, v11.getD (1 : Int).toNat 0, v11.getD (2 : Int).toNat 0, IntKind.wrap .u32 ((v11.getD (3 : Int).toNat 0) + (IntKind.wrap .u32 ((IntKind.wrap .u32 ((IntKind.wrap .u32 ((IntKind.wrap .u32 ((v11.getD (7 : Int).toNat 0) + (bitI .xor .u32 (bitI .xor .u32 r0.1 r1.1) r2.1))) + (bitI .xor .u32 (bitI .and .u32 (v11.getD (4 : Int).toNat 0) (v11.getD (5 : Int).toNat 0)) (bitI .and .u32 (bitI .xor .u32 ((2 ^ (IntKind.bits .u32)) - 1) (v11.getD (4 : Int).toNat 0)) (v11.getD (6 : Int).toNat 0))))) + (v2.getD v114.toNat 0))) + (v6.getD v114.toNat 0)))), v11.getD (4 : Int).toNat 0, v11.getD (5 : Int).toNat 0, v11.getD (6 : Int).toNat 0] (IntKind.wrap .i64 (v114 + 1)))
 none)
 none)
 none)
 none)
 (lp_pimpl_Hash_block_4 R L v0 v11 0)) := by kernel_rfl
theorem q_pimpl_Hash_block_4 (v0 : d55) (v194 : List Int) (v195 : Int) : @Eq _ (lp_pimpl_Hash_block_4 R L v0 v194 v195 ([1, 1, 1, 1, 1, 1, 1, 0] ++ [0])) (cond (decide (v195 < 8))
 (cond (nonneg v195)
 (cond (Nat.blt v195.toNat 8)
 (cond (nonneg v195)
 (cond (Nat.blt v195.toNat 8)
 (cond (nonneg v195)
 (cond (Nat.blt v195.toNat 8)
 (lp_pimpl_Hash_block_4 R L (v0.1.set v195.toNat (IntKind.wrap .i64 (IntKind.wrap .u32 ((IntKind.wrap .u32 (v0.1.getD v195.toNat 0)) + (v194.getD v195.toNat 0)))), v0.2) v194 (IntKind.wrap .i64 (v195 + 1)))
 none)
 none)
 none)
 none)
 none)
 none)
 (some (v0, ()))) := by kernel_rfl
theorem q_impl_Hash_more (x0 : d55) (x1 : List UInt8) : @Eq _ (c_impl_Hash_more (bodyK EE R L) x0 x1) ((c_impl_constants R).bind fun r0 =>
 cond (lenOK (x0.2.1.length + x1.length))
 (lp_impl_Hash_more_0 R L (x0.2.1 ++ x1) (x0.1, (x0.2.1, (IntKind.wrap .i64 (x0.2.2.1 + (x1.length : Int)), x0.2.2.2))) (List.replicate 8 0, ([], (0, ()))) r0.1)
 none) := by kernel_rfl
theorem q_impl_Hash_more_0 (v1 : List UInt8) (v2 v4 : d55) (v5 : List Int) : @Eq _ (lp_impl_Hash_more_0 R L v1 v2 v4 v5 ([1, 1, 1, 1, 0, 0] ++ [0])) (cond (decide (64 ≤ (v1.length : Int)))
 (cond (Nat.ble (64 : Int).toNat v1.length)
 ((c_pimpl_Hash_block R v2 (List.drop 0 (List.take (64 : Int).toNat v1)) v5).bind fun r0 =>
 cond (Nat.ble v1.length v1.length)
 (cond (Nat.ble (64 : Int).toNat v1.length)
 (lp_impl_Hash_more_0 R L (List.drop (64 : Int).toNat (List.take v1.length v1)) r0.1 v4 v5)
 none)
 none)
 none)
 (some ((v2.1, (v1, v2.2.2)), ()))) := by kernel_rfl
theorem q_impl_Hash_sum (x0 : d55) : @Eq _ (c_impl_Hash_sum (bodyK EE R L) x0) ((c_strings_Repeat R [0] (Int.tmod (IntKind.wrap .i64 (119 - (x0.2.1.length : Int))) 64)).bind fun r0 =>
 cond (lenOK (([(128 : UInt8)]).length + r0.1.length))
 (lp_impl_Hash_sum_0 R L x0 (IntKind.wrap .i64 (8 * x0.2.2.1)) ([128] ++ r0.1) 7)
 none) := by kernel_rfl
theorem q_impl_Hash_sum_0 (v1 : d55) (v3 : Int) (v4 : List UInt8) (v5 : Int) : @Eq _ (lp_impl_Hash_sum_0 R L v1 v3 v4 v5 ([1, 1, 1, 0, 1, 0] ++ [0])) (cond (decide (0 ≤ v5))
 (cond (decide ((IntKind.wrap .i64 (8 * v5)) < 0))
 none
 (cond (lenOK (v4.length + (List.map (fun (n : Int) => UInt8.ofNat n.toNat) [IntKind.wrap .u8 (Int.fdiv v3 (2 ^ (Min.min (IntKind.wrap .i64 (8 * v5)).toNat (IntKind.bits .i64))))]).length))
 (lp_impl_Hash_sum_0 R L v1 v3 (v4 ++ (List.map (fun (n : Int) => UInt8.ofNat n.toNat) [IntKind.wrap .u8 (Int.fdiv v3 (2 ^ (Min.min (IntKind.wrap .i64 (8 * v5)).toNat (IntKind.bits .i64))))])) (IntKind.wrap .i64 (v5 - 1)))
 none))
 ((c_impl_Hash_more R v1 v4).bind fun r0 =>
 lp_impl_Hash_sum_1 R L [] r0.1.1 0)) := by kernel_rfl
theorem q_impl_Hash_sum_1 (v6 v35 : List Int) (v36 : Int) : @Eq _ (lp_impl_Hash_sum_1 R L v6 v35 v36 ([1, 1, 1, 1, 1, 0, 1, 0] ++ [0])) (cond (decide (v36 < 8))
 (cond (nonneg v36)
 (cond (Nat.blt v36.toNat 8)
 (cond (lenOK (v6.length + ([IntKind.wrap .u8 (Int.fdiv (v35.getD v36.toNat 0) (2 ^ (Min.min (24 : Int).toNat (IntKind.bits .i64)))), IntKind.wrap .u8 (Int.fdiv (v35.getD v36.toNat 0) (2 ^ (Min.min (16 : Int).toNat (IntKind.bits .i64)))), IntKind.wrap .u8 (Int.fdiv (v35.getD v36.toNat 0) (2 ^ (Min.min (8 : Int).toNat (IntKind.bits .i64)))), IntKind.wrap .u8 (v35.getD v36.toNat 0)]).length))
 (lp_impl_Hash_sum_1 R L (v6 ++ [IntKind.wrap .u8 (Int.fdiv (v35.getD v36.toNat 0) (2 ^ (Min.min (24 : Int).toNat (IntKind.bits .i64)))), IntKind.wrap .u8 (Int.fdiv (v35.getD v36.toNat 0) (2 ^ (Min.min (16 : Int).toNat (IntKind.bits .i64)))), IntKind.wrap .u8 (Int.fdiv (v35.getD v36.toNat 0) (2 ^ (Min.min (8 : Int).toNat (IntKind.bits .i64)))), IntKind.wrap .u8 (v35.getD v36.toNat 0)]) v35 (IntKind.wrap .i64 (v36 + 1)))
 none)
 none)
 none)
 (some (List.map (fun (n : Int) => UInt8.ofNat n.toNat) v6, ()))) := by kernel_rfl
theorem q_impl_digest (x0 : List UInt8) : @Eq _ (c_impl_digest (bodyK EE R L) x0) ((c_impl_NewHash R).bind fun r0 =>
 (c_impl_Hash_more R r0.1 x0).bind fun r1 =>
 (c_impl_Hash_sum R r1.1).bind fun r2 =>
 some (r2.1, ())) := by kernel_rfl
theorem q_impl_little (x0 x1 : Int) : @Eq _ (c_impl_little (bodyK EE R L) x0 x1) (lp_impl_little_0 R L x0 [] x1 0) := by kernel_rfl
theorem q_impl_little_0 (v0 : Int) (v5 : List Int) (v7 v8 : Int) : @Eq _ (lp_impl_little_0 R L v0 v5 v7 v8 ([1, 1, 0, 1, 0] ++ [0])) (cond (decide (v8 < v7))
 (cond (decide ((IntKind.wrap .i64 (8 * v8)) < 0))
 none
 (cond (lenOK (v5.length + ([IntKind.wrap .u8 (Int.fdiv v0 (2 ^ (Min.min (IntKind.wrap .i64 (8 * v8)).toNat (IntKind.bits .i64))))]).length))
 (lp_impl_little_0 R L v0 (v5 ++ [IntKind.wrap .u8 (Int.fdiv v0 (2 ^ (Min.min (IntKind.wrap .i64 (8 * v8)).toNat (IntKind.bits .i64))))]) v7 (IntKind.wrap .i64 (v8 + 1)))
 none))
 (some (List.map (fun (n : Int) => UInt8.ofNat n.toNat) v5, ()))) := by kernel_rfl
theorem q_impl_littleWord (x0 : List UInt8) : @Eq _ (c_impl_littleWord (bodyK EE R L) x0) (cond (Nat.blt (0 : Int).toNat x0.length)
 (cond (Nat.blt (1 : Int).toNat x0.length)
 (cond (Nat.blt (2 : Int).toNat x0.length)
 (cond (Nat.blt (3 : Int).toNat x0.length)
 (some (bitI .or .u32 (bitI .or .u32 (bitI .or .u32 (IntKind.wrap .u32 (UInt8.toNat (x0.getD (0 : Int).toNat 0) : Int)) (IntKind.wrap .u32 ((IntKind.wrap .u32 (UInt8.toNat (x0.getD (1 : Int).toNat 0) : Int)) * (2 ^ (Min.min (8 : Int).toNat (IntKind.bits .u32)))))) (IntKind.wrap .u32 ((IntKind.wrap .u32 (UInt8.toNat (x0.getD (2 : Int).toNat 0) : Int)) * (2 ^ (Min.min (16 : Int).toNat (IntKind.bits .u32)))))) (IntKind.wrap .u32 ((IntKind.wrap .u32 (UInt8.toNat (x0.getD (3 : Int).toNat 0) : Int)) * (2 ^ (Min.min (24 : Int).toNat (IntKind.bits .u32))))), ()))
 none)
 none)
 none)
 none) := by kernel_rfl
theorem q_impl_quarter (x0 x1 x2 x3 : Int) : @Eq _ (c_impl_quarter (bodyK EE R L) x0 x1 x2 x3) (lp_impl_quarter_0 R L x0 x1 x2 x3 [[16, 12], [8, 7]] 0) := by kernel_rfl
theorem q_impl_quarter_0 (v0 v1 v2 v3 : Int) (v16 : List (List Int)) (v17 : Int) : @Eq _ (lp_impl_quarter_0 R L v0 v1 v2 v3 v16 v17 ([1, 0, 1, 0] ++ [0])) (cond (decide (v17 < 2))
 (cond (nonneg v17)
 (cond (Nat.blt v17.toNat 2)
 ((c_math_bits_RotateLeft32 R (bitI .xor .u32 v3 (IntKind.wrap .u32 (v0 + v1))) ((v16.getD v17.toNat (List.replicate 2 0)).getD (0 : Int).toNat 0)).bind fun r0 =>
 (c_math_bits_RotateLeft32 R (bitI .xor .u32 v1 (IntKind.wrap .u32 (v2 + r0.1))) ((v16.getD v17.toNat (List.replicate 2 0)).getD (1 : Int).toNat 0)).bind fun r1 =>
 lp_impl_quarter_0 R L (IntKind.wrap .u32 (v0 + v1)) r1.1 (IntKind.wrap .u32 (v2 + r0.1)) r0.1 v16 (IntKind.wrap .i64 (v17 + 1)))
 none)
 none)
 (some (v0, (v1, (v2, (v3, ())))))) := by kernel_rfl
theorem q_impl_stream (x0 x1 : List UInt8) (x2 : Int) : @Eq _ (c_impl_stream (bodyK EE R L) x0 x1 x2) (cond (lenOK (([(101 : UInt8), 120, 112, 97, 110, 100, 32, 51, 50, 45, 98, 121, 116, 101, 32, 107]).length + x0.length))
 ((c_impl_little R x2 4).bind fun r0 =>
 cond (lenOK (([(101 : UInt8), 120, 112, 97, 110, 100, 32, 51, 50, 45, 98, 121, 116, 101, 32, 107] ++ x0).length + r0.1.length))
 (cond (lenOK ((([(101 : UInt8), 120, 112, 97, 110, 100, 32, 51, 50, 45, 98, 121, 116, 101, 32, 107] ++ x0) ++ r0.1).length + x1.length))
 (lp_impl_stream_0 R L ((([101, 120, 112, 97, 110, 100, 32, 51, 50, 45, 98, 121, 116, 101, 32, 107] ++ x0) ++ r0.1) ++ x1) (List.replicate 16 0) (List.replicate 16 0) 0)
 none)
 none)
 none) := by kernel_rfl
theorem q_impl_stream_0 (v7 : List UInt8) (v8 v9 : List Int) (v25 : Int) : @Eq _ (lp_impl_stream_0 R L v7 v8 v9 v25 ([1, 1, 1, 0, 1, 0] ++ [0])) (cond (decide (v25 < 16))
 (cond (nonneg (IntKind.wrap .i64 (4 * v25)))
 (cond (Nat.ble v7.length v7.length)
 (cond (Nat.ble (IntKind.wrap .i64 (4 * v25)).toNat v7.length)
 ((c_impl_littleWord R (List.drop (IntKind.wrap .i64 (4 * v25)).toNat (List.take v7.length v7))).bind fun r0 =>
 cond (nonneg v25)
 (cond (Nat.blt v25.toNat 16)
 (cond (nonneg v25)
 (cond (Nat.blt v25.toNat 16)
 (cond (nonneg v25)
 (cond (Nat.blt v25.toNat 16)
 (lp_impl_stream_0 R L v7 (v8.set v25.toNat r0.1) (v9.set v25.toNat ((v8.set v25.toNat r0.1).getD v25.toNat 0)) (IntKind.wrap .i64 (v25 + 1)))
 none)
 none)
 none)
 none)
 none)
 none)
 none)
 none)
 none)
 (lp_impl_stream_1 R L v8 v9 0)) := by kernel_rfl
theorem q_impl_stream_1 (v8 v9 : List Int) (v41 : Int) : @Eq _ (lp_impl_stream_1 R L v8 v9 v41 ([1, 1, 1, 1, 0, 1, 0] ++ [0])) (cond (decide (v41 < 10))
 (lp_impl_stream_2 R L v8 v9 v41 0)
 (lp_impl_stream_3 R L v8 v9 [] 0)) := by kernel_rfl
theorem q_impl_stream_2 (v8 v9 : List Int) (v41 v43 : Int) : @Eq _ (lp_impl_stream_2 R L v8 v9 v41 v43 ([1, 1, 1, 1, 0, 1, 0, 0, 1, 1, 0, 0, 1, 0] ++ [0])) (cond (decide (v43 < 2))
 (lp_impl_stream_4 R L v8 v9 v43 v41 v43 0)
 (lp_impl_stream_1 R L v8 v9 (IntKind.wrap .i64 (v41 + 1)))) := by kernel_rfl
theorem q_impl_stream_3 (v8 v9 : List Int) (v16 : List UInt8) (v95 : Int) : @Eq _ (lp_impl_stream_3 R L v8 v9 v16 v95 ([1, 1, 1, 1, 1, 1, 0, 1, 0] ++ [0])) (cond (decide (v95 < 16))
 (cond (nonneg v95)
 (cond (Nat.blt v95.toNat 16)
 (cond (nonneg v95)
 (cond (Nat.blt v95.toNat 16)
 ((c_impl_little R (IntKind.wrap .i64 (IntKind.wrap .u32 ((v9.getD v95.toNat 0) + (v8.getD v95.toNat 0)))) 4).bind fun r0 =>
 cond (lenOK (v16.length + r0.1.length))
 (lp_impl_stream_3 R L v8 v9 (v16 ++ r0.1) (IntKind.wrap .i64 (v95 + 1)))
 none)
 none)
 none)
 none)
 none)
 (some (v16, ()))) := by kernel_rfl
theorem q_impl_stream_4 (v8 v9 : List Int) (v11 v41 v43 v46 : Int) : @Eq _ (lp_impl_stream_4 R L v8 v9 v11 v41 v43 v46 ([1, 1, 1, 1, 0, 1, 0, 0, 1, 1, 0, 0, 1, 0, 0, 1, 1, 0, 0, 1, 1, 0] ++ [0])) (cond (decide (v46 < 4))
 (cond (nonneg v46)
 (cond (Nat.blt v46.toNat 16)
 (cond (nonneg (IntKind.wrap .i64 (4 + (Int.tmod (IntKind.wrap .i64 (v46 + v11)) 4))))
 (cond (Nat.blt (IntKind.wrap .i64 (4 + (Int.tmod (IntKind.wrap .i64 (v46 + v11)) 4))).toNat 16)
 (cond (nonneg (IntKind.wrap .i64 (8 + (Int.tmod (IntKind.wrap .i64 (v46 + (IntKind.wrap .i64 (2 * v11)))) 4))))
 (cond (Nat.blt (IntKind.wrap .i64 (8 + (Int.tmod (IntKind.wrap .i64 (v46 + (IntKind.wrap .i64 (2 * v11)))) 4))).toNat 16)
 (cond (nonneg (IntKind.wrap .i64 (12 + (Int.tmod (IntKind.wrap .i64 (v46 + (IntKind.wrap .i64 (3 * v11)))) 4))))
 (cond (Nat.blt (IntKind.wrap .i64 (12 + (Int.tmod (IntKind.wrap .i64 (v46 + (IntKind.wrap .i64 (3 * v11)))) 4))).toNat 16)
 ((c_impl_quarter R (v9.getD v46.toNat 0) (v9.getD (IntKind.wrap .i64 (4 + (Int.tmod (IntKind.wrap .i64 (v46 + v11)) 4))).toNat 0) (v9.getD (IntKind.wrap .i64 (8 + (Int.tmod (IntKind.wrap .i64 (v46 + (IntKind.wrap .i64 (2 * v11)))) 4))).toNat 0) (v9.getD (IntKind.wrap .i64 (12 + (Int.tmod (IntKind.wrap .i64 (v46 + (IntKind.wrap .i64 (3 * v11)))) 4))).toNat 0)).bind fun r0 =>
 cond (nonneg v46)
 (cond (Nat.blt v46.toNat 16)
 (cond (nonneg (IntKind.wrap .i64 (4 + (Int.tmod (IntKind.wrap .i64 (v46 + v11)) 4))))
 (cond (Nat.blt (IntKind.wrap .i64 (4 + (Int.tmod (IntKind.wrap .i64 (v46 + v11)) 4))).toNat 16)
 (cond (nonneg (IntKind.wrap .i64 (8 + (Int.tmod (IntKind.wrap .i64 (v46 + (IntKind.wrap .i64 (2 * v11)))) 4))))
 (cond (Nat.blt (IntKind.wrap .i64 (8 + (Int.tmod (IntKind.wrap .i64 (v46 + (IntKind.wrap .i64 (2 * v11)))) 4))).toNat 16)
 (cond (nonneg (IntKind.wrap .i64 (12 + (Int.tmod (IntKind.wrap .i64 (v46 + (IntKind.wrap .i64 (3 * v11)))) 4))))
 (cond (Nat.blt (IntKind.wrap .i64 (12 + (Int.tmod (IntKind.wrap .i64 (v46 + (IntKind.wrap .i64 (3 * v11)))) 4))).toNat 16)
 (lp_impl_stream_4 R L v8 ((((v9.set v46.toNat r0.1).set (IntKind.wrap .i64 (4 + (Int.tmod (IntKind.wrap .i64 (v46 + v11)) 4))).toNat r0.2.1).set (IntKind.wrap .i64 (8 + (Int.tmod (IntKind.wrap .i64 (v46 + (IntKind.wrap .i64 (2 * v11)))) 4))).toNat r0.2.2.1).set (IntKind.wrap .i64 (12 + (Int.tmod (IntKind.wrap .i64 (v46 + (IntKind.wrap .i64 (3 * v11)))) 4))).toNat r0.2.2.2.1) v11 v41 v43 (IntKind.wrap .i64 (v46 + 1)))
 none)
 none)
 none)
 none)
 none)
 none)
 none)
 none)
 none)
 none)
 none)
 none)
 none)
 none)
 none)
 none)
 (lp_impl_stream_2 R L v8 v9 v41 (IntKind.wrap .i64 (v43 + 1)))) := by kernel_rfl
theorem q_spec_l02Word (x0 : List UInt8) (x1 : Int) : @Eq _ (c_spec_l02Word (bodyK EE R L) x0 x1) (cond (nonneg x1)
 (cond (Nat.blt x1.toNat x0.length)
 (cond (nonneg (IntKind.wrap .i64 (x1 + 1)))
 (cond (Nat.blt (IntKind.wrap .i64 (x1 + 1)).toNat x0.length)
 (cond (nonneg (IntKind.wrap .i64 (x1 + 2)))
 (cond (Nat.blt (IntKind.wrap .i64 (x1 + 2)).toNat x0.length)
 (cond (nonneg (IntKind.wrap .i64 (x1 + 3)))
 (cond (Nat.blt (IntKind.wrap .i64 (x1 + 3)).toNat x0.length)
 (some (bitI .or .i64 (bitI .or .i64 (bitI .or .i64 (IntKind.wrap .i64 (UInt8.toNat (x0.getD x1.toNat 0) : Int)) (IntKind.wrap .i64 ((IntKind.wrap .i64 (UInt8.toNat (x0.getD (IntKind.wrap .i64 (x1 + 1)).toNat 0) : Int)) * (2 ^ (Min.min (8 : Int).toNat (IntKind.bits .i64)))))) (IntKind.wrap .i64 ((IntKind.wrap .i64 (UInt8.toNat (x0.getD (IntKind.wrap .i64 (x1 + 2)).toNat 0) : Int)) * (2 ^ (Min.min (16 : Int).toNat (IntKind.bits .i64)))))) (IntKind.wrap .i64 ((IntKind.wrap .i64 (UInt8.toNat (x0.getD (IntKind.wrap .i64 (x1 + 3)).toNat 0) : Int)) * (2 ^ (Min.min (24 : Int).toNat (IntKind.bits .i64))))), ()))
 none)
 none)
 none)
 none)
 none)
 none)
 none)
 none) := by kernel_rfl
theorem q_spec_l02Left (x0 x1 : Int) : @Eq _ (c_spec_l02Left (bodyK EE R L) x0 x1) (cond (decide (x1 < 0))
 none
 (cond (decide ((IntKind.wrap .i64 (32 - x1)) < 0))
 none
 (some (bitI .and .i64 (bitI .or .i64 (IntKind.wrap .i64 (x0 * (2 ^ (Min.min x1.toNat (IntKind.bits .i64))))) (Int.fdiv x0 (2 ^ (Min.min (IntKind.wrap .i64 (32 - x1)).toNat (IntKind.bits .i64))))) 4294967295, ())))) := by kernel_rfl
theorem q_spec_l02Quarter (x0 x1 x2 x3 : Int) : @Eq _ (c_spec_l02Quarter (bodyK EE R L) x0 x1 x2 x3) ((c_spec_l02Left R (bitI .xor .i64 x3 (bitI .and .i64 (IntKind.wrap .i64 (x0 + x1)) 4294967295)) 16).bind fun r0 =>
 (c_spec_l02Left R (bitI .xor .i64 x1 (bitI .and .i64 (IntKind.wrap .i64 (x2 + r0.1)) 4294967295)) 12).bind fun r1 =>
 (c_spec_l02Left R (bitI .xor .i64 r0.1 (bitI .and .i64 (IntKind.wrap .i64 ((bitI .and .i64 (IntKind.wrap .i64 (x0 + x1)) 4294967295) + r1.1)) 4294967295)) 8).bind fun r2 =>
 (c_spec_l02Left R (bitI .xor .i64 r1.1 (bitI .and .i64 (IntKind.wrap .i64 ((bitI .and .i64 (IntKind.wrap .i64 (x2 + r0.1)) 4294967295) + r2.1)) 4294967295)) 7).bind fun r3 =>
 some ([bitI .and .i64 (IntKind.wrap .i64 ((bitI .and .i64 (IntKind.wrap .i64 (x0 + x1)) 4294967295) + r1.1)) 4294967295, r3.1, bitI .and .i64 (IntKind.wrap .i64 ((bitI .and .i64 (IntKind.wrap .i64 (x2 + r0.1)) 4294967295) + r2.1)) 4294967295, r2.1], ())) := by kernel_rfl
theorem q_spec_l02Round (x0 : List Int) (x1 x2 x3 x4 : Int) : @Eq _ (c_spec_l02Round (bodyK EE R L) x0 x1 x2 x3 x4) (cond (nonneg x1)
 (cond (Nat.blt x1.toNat 16)
 (cond (nonneg x2)
 (cond (Nat.blt x2.toNat 16)
 (cond (nonneg x3)
 (cond (Nat.blt x3.toNat 16)
 (cond (nonneg x4)
 (cond (Nat.blt x4.toNat 16)
 ((c_spec_l02Quarter R (x0.getD x1.toNat 0) (x0.getD x2.toNat 0) (x0.getD x3.toNat 0) (x0.getD x4.toNat 0)).bind fun r0 =>
 cond (nonneg x1)
 (cond (Nat.blt x1.toNat 16)
 (cond (nonneg x2)
 (cond (Nat.blt x2.toNat 16)
 (cond (nonneg x3)
 (cond (Nat.blt x3.toNat 16)
 (cond (nonneg x4)
 (cond (Nat.blt x4.toNat 16)
 (some ((((x0.set x1.toNat (r0.1.getD (0 : Int).toNat 0)).set x2.toNat (r0.1.getD (1 : Int).toNat 0)).set x3.toNat (r0.1.getD (2 : Int).toNat 0)).set x4.toNat (r0.1.getD (3 : Int).toNat 0), ()))
 none)
 none)
 none)
 none)
 none)
 none)
 none)
 none)
 none)
 none)
 none)
 none)
 none)
 none)
 none)
 none) := by kernel_rfl
theorem q_spec_l02Block (x0 x1 : List UInt8) (x2 : Int) : @Eq _ (c_spec_l02Block (bodyK EE R L) x0 x1 x2) (lp_spec_l02Block_0 R L x0 x1 x2 [0, 0, 0, 0, 0, 0, 0, 0, 0, 0, 0, 0, 0, 0, 0, 0] 0) := by kernel_rfl
theorem q_spec_l02Block_0 (v0 v1 : List UInt8) (v2 : Int) (v7 : List Int) (v8 : Int) : @Eq _ (lp_spec_l02Block_0 R L v0 v1 v2 v7 v8 ([1, 1, 0, 1, 0] ++ [0])) (cond (decide (v8 < 4))
 ((c_spec_l02Word R [101, 120, 112, 97, 110, 100, 32, 51, 50, 45, 98, 121, 116, 101, 32, 107] (IntKind.wrap .i64 (4 * v8))).bind fun r0 =>
 cond (nonneg v8)
 (cond (Nat.blt v8.toNat 16)
 (lp_spec_l02Block_0 R L v0 v1 v2 (v7.set v8.toNat r0.1) (IntKind.wrap .i64 (v8 + 1)))
 none)
 none)
 (lp_spec_l02Block_1 R L v0 v1 v2 v7 0)) := by kernel_rfl
theorem q_spec_l02Block_1 (v0 v1 : List UInt8) (v2 : Int) (v7 : List Int) (v9 : Int) : @Eq _ (lp_spec_l02Block_1 R L v0 v1 v2 v7 v9 ([1, 1, 1, 0, 1, 0] ++ [0])) (cond (decide (v9 < 8))
 ((c_spec_l02Word R v0 (IntKind.wrap .i64 (4 * v9))).bind fun r0 =>
 cond (nonneg (IntKind.wrap .i64 (4 + v9)))
 (cond (Nat.blt (IntKind.wrap .i64 (4 + v9)).toNat 16)
 (lp_spec_l02Block_1 R L v0 v1 v2 (v7.set (IntKind.wrap .i64 (4 + v9)).toNat r0.1) (IntKind.wrap .i64 (v9 + 1)))
 none)
 none)
 (lp_spec_l02Block_2 R L v1 (v7.set (12 : Int).toNat v2) 0)) := by kernel_rfl
theorem q_spec_l02Block_2 (v1 : List UInt8) (v7 : List Int) (v10 : Int) : @Eq _ (lp_spec_l02Block_2 R L v1 v7 v10 ([1, 1, 1, 1, 1, 0, 1, 0] ++ [0])) (cond (decide (v10 < 3))
 ((c_spec_l02Word R v1 (IntKind.wrap .i64 (4 * v10))).bind fun r0 =>
 cond (nonneg (IntKind.wrap .i64 (13 + v10)))
 (cond (Nat.blt (IntKind.wrap .i64 (13 + v10)).toNat 16)
 (lp_spec_l02Block_2 R L v1 (v7.set (IntKind.wrap .i64 (13 + v10)).toNat r0.1) (IntKind.wrap .i64 (v10 + 1)))
 none)
 none)
 (lp_spec_l02Block_3 R L v7 v7 0)) := by kernel_rfl
theorem q_spec_l02Block_3 (v7 v11 : List Int) (v12 : Int) : @Eq _ (lp_spec_l02Block_3 R L v7 v11 v12 ([1, 1, 1, 1, 1, 1, 1, 0, 1, 0] ++ [0])) (cond (decide (v12 < 10))
 (lp_spec_l02Block_4 R L v7 v11 v12 0)
 (lp_spec_l02Block_5 R L v7 v11 [] 0)) := by kernel_rfl
theorem q_spec_l02Block_4 (v7 v11 : List Int) (v12 v13 : Int) : @Eq _ (lp_spec_l02Block_4 R L v7 v11 v12 v13 ([1, 1, 1, 1, 1, 1, 1, 0, 1, 0, 0, 1, 0, 0, 0, 1, 0] ++ [0])) (cond (decide (v13 < 4))
 ((c_spec_l02Round R v11 v13 (IntKind.wrap .i64 (4 + v13)) (IntKind.wrap .i64 (8 + v13)) (IntKind.wrap .i64 (12 + v13))).bind fun r0 =>
 lp_spec_l02Block_4 R L v7 r0.1 v12 (IntKind.wrap .i64 (v13 + 1)))
 (lp_spec_l02Block_6 R L v7 v11 v12 0)) := by kernel_rfl
theorem q_spec_l02Block_5 (v7 v11 v15 : List Int) (v16 : Int) : @Eq _ (lp_spec_l02Block_5 R L v7 v11 v15 v16 ([1, 1, 1, 1, 1, 1, 1, 1, 1, 0, 1, 0] ++ [0])) (cond (decide (v16 < 16))
 (cond (nonneg v16)
 (cond (Nat.blt v16.toNat 16)
 (cond (nonneg v16)
 (cond (Nat.blt v16.toNat 16)
 ((c_spec_l02Bytes R v15 (bitI .and .i64 (IntKind.wrap .i64 ((v11.getD v16.toNat 0) + (v7.getD v16.toNat 0))) 4294967295)).bind fun r0 =>
 lp_spec_l02Block_5 R L v7 v11 r0.1 (IntKind.wrap .i64 (v16 + 1)))
 none)
 none)
 none)
 none)
 (some (List.map (fun (n : Int) => UInt8.ofNat n.toNat) v15, ()))) := by kernel_rfl
theorem q_spec_l02Block_6 (v7 v11 : List Int) (v12 v14 : Int) : @Eq _ (lp_spec_l02Block_6 R L v7 v11 v12 v14 ([1, 1, 1, 1, 1, 1, 1, 0, 1, 0, 0, 1, 0, 0, 1, 1, 0] ++ [0])) (cond (decide (v14 < 4))
 ((c_spec_l02Round R v11 v14 (IntKind.wrap .i64 (4 + (Int.tmod (IntKind.wrap .i64 (v14 + 1)) 4))) (IntKind.wrap .i64 (8 + (Int.tmod (IntKind.wrap .i64 (v14 + 2)) 4))) (IntKind.wrap .i64 (12 + (Int.tmod (IntKind.wrap .i64 (v14 + 3)) 4)))).bind fun r0 =>
 lp_spec_l02Block_6 R L v7 r0.1 v12 (IntKind.wrap .i64 (v14 + 1)))
 (lp_spec_l02Block_3 R L v7 v11 (IntKind.wrap .i64 (v12 + 1)))) := by kernel_rfl
theorem q_impl_xor (x0 x1 : List UInt8) : @Eq _ (c_impl_xor (bodyK EE R L) x0 x1) (lp_impl_xor_0 R L x1 (List.map (fun (b : UInt8) => (UInt8.toNat b : Int)) x0) ((List.map (fun (b : UInt8) => (UInt8.toNat b : Int)) x0).length : Int) 0) := by kernel_rfl
theorem q_impl_xor_0 (v1 : List UInt8) (v5 : List Int) (v10 v11 : Int) : @Eq _ (lp_impl_xor_0 R L v1 v5 v10 v11 ([1, 1, 0, 1, 0] ++ [0])) (cond (decide (v11 < v10))
 (cond (nonneg v11)
 (cond (Nat.blt v11.toNat v5.length)
 (cond (nonneg v11)
 (cond (Nat.blt v11.toNat v1.length)
 (cond (nonneg v11)
 (cond (Nat.blt v11.toNat v5.length)
 (lp_impl_xor_0 R L v1 (v5.set v11.toNat (bitI .xor .u8 (v5.getD v11.toNat 0) (UInt8.toNat (v1.getD v11.toNat 0) : Int))) v10 (IntKind.wrap .i64 (v11 + 1)))
 none)
 none)
 none)
 none)
 none)
 none)
 (some (List.map (fun (n : Int) => UInt8.ofNat n.toNat) v5, ()))) := by kernel_rfl
theorem q_spec_l02Xor (x0 x1 : List UInt8) (x2 : Int) (x3 : List UInt8) : @Eq _ (c_spec_l02Xor (bodyK EE R L) x0 x1 x2 x3) (lp_spec_l02Xor_0 R L x0 x1 x2 x3 [] [] 0) := by kernel_rfl
theorem q_spec_l02Xor_0 (v0 v1 : List UInt8) (v2 : Int) (v3 : List UInt8) (v9 : List Int) (v10 : List UInt8) (v11 : Int) : @Eq _ (lp_spec_l02Xor_0 R L v0 v1 v2 v3 v9 v10 v11 ([1, 1, 1, 0, 1, 0] ++ [0])) (cond (decide (v11 < (v3.length : Int)))
 (cond (eqI (Int.tmod v11 64) 0)
 ((c_spec_l02Block R v0 v1 (IntKind.wrap .i64 (v2 + (IntKind.wrap .i64 (Int.tdiv v11 64))))).bind fun r0 =>
 cond (nonneg v11)
 (cond (Nat.blt v11.toNat v3.length)
 (cond (nonneg (Int.tmod v11 64))
 (cond (Nat.blt (Int.tmod v11 64).toNat r0.1.length)
 (cond (lenOK (v9.length + ([bitI .xor .u8 (UInt8.toNat (v3.getD v11.toNat 0) : Int) (UInt8.toNat (r0.1.getD (Int.tmod v11 64).toNat 0) : Int)]).length))
 (lp_spec_l02Xor_0 R L v0 v1 v2 v3 (v9 ++ [bitI .xor .u8 (UInt8.toNat (v3.getD v11.toNat 0) : Int) (UInt8.toNat (r0.1.getD (Int.tmod v11 64).toNat 0) : Int)]) r0.1 (IntKind.wrap .i64 (v11 + 1)))
 none)
 none)
 none)
 none)
 none)
 (cond (nonneg v11)
 (cond (Nat.blt v11.toNat v3.length)
 (cond (nonneg (Int.tmod v11 64))
 (cond (Nat.blt (Int.tmod v11 64).toNat v10.length)
 (cond (lenOK (v9.length + ([bitI .xor .u8 (UInt8.toNat (v3.getD v11.toNat 0) : Int) (UInt8.toNat (v10.getD (Int.tmod v11 64).toNat 0) : Int)]).length))
 (lp_spec_l02Xor_0 R L v0 v1 v2 v3 (v9 ++ [bitI .xor .u8 (UInt8.toNat (v3.getD v11.toNat 0) : Int) (UInt8.toNat (v10.getD (Int.tmod v11 64).toNat 0) : Int)]) v10 (IntKind.wrap .i64 (v11 + 1)))
 none)
 none)
 none)
 none)
 none))
 (some (List.map (fun (n : Int) => UInt8.ofNat n.toNat) v9, ()))) := by kernel_rfl
theorem q_laws_szRegister (x0 : d59) (x1 : Int) : @Eq _ (c_laws_szRegister (bodyK EE R L) x0 x1) (cond (decide ((IntKind.wrap .i64 (x1 - (x0.2.2.2.2.1.length : Int))) < 0))
 (some (-1, ()))
 (cond (decide ((IntKind.wrap .i64 ((IntKind.wrap .i64 (x1 - (x0.2.2.2.2.1.length : Int))) - (x0.2.2.2.2.2.1.length : Int))) < 0))
 (some (-1, ()))
 (cond (decide ((IntKind.wrap .i64 ((IntKind.wrap .i64 ((IntKind.wrap .i64 (x1 - (x0.2.2.2.2.1.length : Int))) - (x0.2.2.2.2.2.1.length : Int))) - (x0.2.2.2.2.2.2.1.length : Int))) < 0))
 (some (-1, ()))
 (some (IntKind.wrap .i64 ((IntKind.wrap .i64 ((IntKind.wrap .i64 (x1 - (x0.2.2.2.2.1.length : Int))) - (x0.2.2.2.2.2.1.length : Int))) - (x0.2.2.2.2.2.2.1.length : Int)), ()))))) := by kernel_rfl
theorem q_laws_szStringS (x0 : List (List UInt8)) (x1 : Int) : @Eq _ (c_laws_szStringS (bodyK EE R L) x0 x1) (cond (decide ((IntKind.wrap .i64 (x1 - (x0.length : Int))) < 0))
 (some (-1, ()))
 (lp_laws_szStringS_0 R L x0 (IntKind.wrap .i64 (x1 - (x0.length : Int))) 0 0)) := by kernel_rfl
theorem q_laws_szStringS_0 (v0 : List (List UInt8)) (v1 v4 v5 : Int) : @Eq _ (lp_laws_szStringS_0 R L v0 v1 v4 v5 ([1, 1, 1, 0, 1, 0] ++ [0])) (cond (decide (v5 < (v0.length : Int)))
 (cond (nonneg v5)
 (cond (Nat.blt v5.toNat v0.length)
 (cond (decide ((IntKind.wrap .i64 (v1 - ((v0.getD v5.toNat []).length : Int))) < 0))
 (some (-1, ()))
 (lp_laws_szStringS_0 R L v0 (IntKind.wrap .i64 (v1 - ((v0.getD v5.toNat []).length : Int))) v4 (IntKind.wrap .i64 (v5 + 1))))
 none)
 none)
 (some (v1, ()))) := by kernel_rfl
theorem q_laws_szIo (x0 : d60) (x1 : Int) : @Eq _ (c_laws_szIo (bodyK EE R L) x0 x1) (cond (decide ((IntKind.wrap .i64 (x1 - (x0.2.1.length : Int))) < 0))
 (some (-1, ()))
 (some (IntKind.wrap .i64 (x1 - (x0.2.1.length : Int)), ()))) := by kernel_rfl
theorem q_laws_szIoS (x0 : List d60) (x1 : Int) : @Eq _ (c_laws_szIoS (bodyK EE R L) x0 x1) (cond (decide ((IntKind.wrap .i64 (x1 - (x0.length : Int))) < 0))
 (some (-1, ()))
 (lp_laws_szIoS_0 R L x0 (IntKind.wrap .i64 (x1 - (x0.length : Int))) 0 0)) := by kernel_rfl
theorem q_laws_szIoS_0 (v0 : List d60) (v1 v4 v5 : Int) : @Eq _ (lp_laws_szIoS_0 R L v0 v1 v4 v5 ([1, 1, 1, 0, 1, 0] ++ [0])) (cond (decide (v5 < (v0.length : Int)))
 (cond (nonneg v5)
 (cond (Nat.blt v5.toNat v0.length)
 ((c_laws_szIo R (v0.getD v5.toNat (0, ([], ()))) v1).bind fun r0 =>
 cond (decide (r0.1 < 0))
 (some (-1, ()))
 (lp_laws_szIoS_0 R L v0 r0.1 v4 (IntKind.wrap .i64 (v5 + 1))))
 none)
 none)
 (some (v1, ()))) := by kernel_rfl
theorem q_laws_szDevice (x0 : d61) (x1 : Int) : @Eq _ (c_laws_szDevice (bodyK EE R L) x0 x1) ((c_laws_szStringS R x0.1 x1).bind fun r0 =>
 cond (decide (r0.1 < 0))
 (some (-1, ()))
 ((c_laws_szIoS R x0.2.1 r0.1).bind fun r1 =>
 cond (decide (r1.1 < 0))
 (some (-1, ()))
 (some (r1.1, ())))) := by kernel_rfl
theorem q_laws_szStore (x0 : d62) (x1 : Int) : @Eq _ (c_laws_szStore (bodyK EE R L) x0 x1) (cond (decide ((IntKind.wrap .i64 (x1 - (x0.1.length : Int))) < 0))
 (some (-1, ()))
 ((c_laws_szRegister R x0.2.1 (IntKind.wrap .i64 (x1 - (x0.1.length : Int)))).bind fun r0 =>
 cond (decide (r0.1 < 0))
 (some (-1, ()))
 ((c_laws_szDevice R x0.2.2.1 r0.1).bind fun r1 =>
 cond (decide (r1.1 < 0))
 (some (-1, ()))
 (some (r1.1, ()))))) := by kernel_rfl
theorem q_laws_szOpS (x0 : List d53) (x1 : Int) : @Eq _ (c_laws_szOpS (bodyK EE R L) x0 x1) (cond (decide ((IntKind.wrap .i64 (x1 - (x0.length : Int))) < 0))
 (some (-1, ()))
 (some (IntKind.wrap .i64 (x1 - (x0.length : Int)), ()))) := by kernel_rfl
theorem q_laws_szTxn (x0 : d54) (x1 : Int) : @Eq _ (c_laws_szTxn (bodyK EE R L) x0 x1) ((c_laws_szOpS R x0.1 x1).bind fun r0 =>
 cond (decide (r0.1 < 0))
 (some (-1, ()))
 (some (r0.1, ()))) := by kernel_rfl
theorem q_laws_szTxnS (x0 : List d54) (x1 : Int) : @Eq _ (c_laws_szTxnS (bodyK EE R L) x0 x1) (cond (decide ((IntKind.wrap .i64 (x1 - (x0.length : Int))) < 0))
 (some (-1, ()))
 (lp_laws_szTxnS_0 R L x0 (IntKind.wrap .i64 (x1 - (x0.length : Int))) 0 0)) := by kernel_rfl
theorem q_laws_szTxnS_0 (v0 : List d54) (v1 v4 v5 : Int) : @Eq _ (lp_laws_szTxnS_0 R L v0 v1 v4 v5 ([1, 1, 1, 0, 1, 0] ++ [0])) (cond (decide (v5 < (v0.length : Int)))
 (cond (nonneg v5)
 (cond (Nat.blt v5.toNat v0.length)
 ((c_laws_szTxn R (v0.getD v5.toNat ([], ())) v1).bind fun r0 =>
 cond (decide (r0.1 < 0))
 (some (-1, ()))
 (lp_laws_szTxnS_0 R L v0 r0.1 v4 (IntKind.wrap .i64 (v5 + 1))))
 none)
 none)
 (some (v1, ()))) := by kernel_rfl
theorem q_laws_toRegister (x0 : d59) : @Eq _ (c_laws_toRegister (bodyK EE R L) x0) (some ((x0.1, (x0.2.1, (x0.2.2.1, (x0.2.2.2.1, (x0.2.2.2.2.1, (x0.2.2.2.2.2.1, (x0.2.2.2.2.2.2.1, ()))))))), ())) := by kernel_rfl
theorem q_laws_toStringS (x0 : List (List UInt8)) : @Eq _ (c_laws_toStringS (bodyK EE R L) x0) (cond (leI (x0.length : Int) (x0.length : Int))
 (cond (lenOK (x0.length : Int).toNat)
 (lp_laws_toStringS_0 R L x0 [] (List.replicate (x0.length : Int).toNat []) 0)
 none)
 none) := by kernel_rfl
theorem q_laws_toStringS_0 (v0 v2 v3 : List (List UInt8)) (v4 : Int) : @Eq _ (lp_laws_toStringS_0 R L v0 v2 v3 v4 ([1, 1, 0, 1, 0] ++ [0])) (cond (decide (v4 < (v0.length : Int)))
 (cond (nonneg v4)
 (cond (Nat.blt v4.toNat v0.length)
 (cond (nonneg v4)
 (cond (Nat.blt v4.toNat v3.length)
 (lp_laws_toStringS_0 R L v0 v2 (v3.set v4.toNat (v0.getD v4.toNat [])) (IntKind.wrap .i64 (v4 + 1)))
 none)
 none)
 none)
 none)
 (some (v3, ()))) := by kernel_rfl
theorem q_laws_toIo (x0 : d60) : @Eq _ (c_laws_toIo (bodyK EE R L) x0) (some ((x0.1, (x0.2.1, ())), ())) := by kernel_rfl
theorem q_laws_toIoS (x0 : List d60) : @Eq _ (c_laws_toIoS (bodyK EE R L) x0) (cond (leI (x0.length : Int) (x0.length : Int))
 (cond (lenOK (x0.length : Int).toNat)
 (lp_laws_toIoS_0 R L x0 [] (List.replicate (x0.length : Int).toNat (0, ([], ()))) 0)
 none)
 none) := by kernel_rfl
theorem q_laws_toIoS_0 (v0 v2 v3 : List d60) (v4 : Int) : @Eq _ (lp_laws_toIoS_0 R L v0 v2 v3 v4 ([1, 1, 0, 1, 0] ++ [0])) (cond (decide (v4 < (v0.length : Int)))
 (cond (nonneg v4)
 (cond (Nat.blt v4.toNat v0.length)
 ((c_laws_toIo R (v0.getD v4.toNat (0, ([], ())))).bind fun r0 =>
 cond (nonneg v4)
 (cond (Nat.blt v4.toNat v3.length)
 (lp_laws_toIoS_0 R L v0 v2 (v3.set v4.toNat r0.1) (IntKind.wrap .i64 (v4 + 1)))
 none)
 none)
 none)
 none)
 (some (v3, ()))) := by kernel_rfl
theorem q_laws_toDevice (x0 : d61) : @Eq _ (c_laws_toDevice (bodyK EE R L) x0) ((c_laws_toStringS R x0.1).bind fun r0 =>
 (c_laws_toIoS R x0.2.1).bind fun r1 =>
 some ((r0.1, (r1.1, ())), ())) := by kernel_rfl
theorem q_laws_toStore (x0 : d62) : @Eq _ (c_laws_toStore (bodyK EE R L) x0) ((c_laws_toRegister R x0.2.1).bind fun r0 =>
 (c_laws_toDevice R x0.2.2.1).bind fun r1 =>
 some ((x0.1, (r0.1, (r1.1, (x0.2.2.2.1, (x0.2.2.2.2.1, ()))))), ())) := by kernel_rfl
theorem q_laws_toOp (x0 : d53) : @Eq _ (c_laws_toOp (bodyK EE R L) x0) (some ((x0.1, (x0.2.1, (x0.2.2.1, ()))), ())) := by kernel_rfl
theorem q_laws_toOpS (x0 : List d53) : @Eq _ (c_laws_toOpS (bodyK EE R L) x0) (cond (leI (x0.length : Int) (x0.length : Int))
 (cond (lenOK (x0.length : Int).toNat)
 (lp_laws_toOpS_0 R L x0 [] (List.replicate (x0.length : Int).toNat (0, (0, (0, ())))) 0)
 none)
 none) := by kernel_rfl
theorem q_laws_toOpS_0 (v0 v2 v3 : List d53) (v4 : Int) : @Eq _ (lp_laws_toOpS_0 R L v0 v2 v3 v4 ([1, 1, 0, 1, 0] ++ [0])) (cond (decide (v4 < (v0.length : Int)))
 (cond (nonneg v4)
 (cond (Nat.blt v4.toNat v0.length)
 ((c_laws_toOp R (v0.getD v4.toNat (0, (0, (0, ()))))).bind fun r0 =>
 cond (nonneg v4)
 (cond (Nat.blt v4.toNat v3.length)
 (lp_laws_toOpS_0 R L v0 v2 (v3.set v4.toNat r0.1) (IntKind.wrap .i64 (v4 + 1)))
 none)
 none)
 none)
 none)
 (some (v3, ()))) := by kernel_rfl
theorem q_laws_toTxn (x0 : d54) : @Eq _ (c_laws_toTxn (bodyK EE R L) x0) ((c_laws_toOpS R x0.1).bind fun r0 =>
 some ((r0.1, ()), ())) := by kernel_rfl
theorem q_laws_toTxnS (x0 : List d54) : @Eq _ (c_laws_toTxnS (bodyK EE R L) x0) (cond (leI (x0.length : Int) (x0.length : Int))
 (cond (lenOK (x0.length : Int).toNat)
 (lp_laws_toTxnS_0 R L x0 [] (List.replicate (x0.length : Int).toNat ([], ())) 0)
 none)
 none) := by kernel_rfl
theorem q_laws_toTxnS_0 (v0 v2 v3 : List d54) (v4 : Int) : @Eq _ (lp_laws_toTxnS_0 R L v0 v2 v3 v4 ([1, 1, 0, 1, 0] ++ [0])) (cond (decide (v4 < (v0.length : Int)))
 (cond (nonneg v4)
 (cond (Nat.blt v4.toNat v0.length)
 ((c_laws_toTxn R (v0.getD v4.toNat ([], ()))).bind fun r0 =>
 cond (nonneg v4)
 (cond (Nat.blt v4.toNat v3.length)
 (lp_laws_toTxnS_0 R L v0 v2 (v3.set v4.toNat r0.1) (IntKind.wrap .i64 (v4 + 1)))
 none)
 none)
 none)
 none)
 (some (v3, ()))) := by kernel_rfl
theorem q_laws_toIntS (x0 : List Int) : @Eq _ (c_laws_toIntS (bodyK EE R L) x0) (cond (leI (x0.length : Int) (x0.length : Int))
 (cond (lenOK (x0.length : Int).toNat)
 (lp_laws_toIntS_0 R L x0 [] (List.replicate (x0.length : Int).toNat 0) 0)
 none)
 none) := by kernel_rfl
theorem q_laws_toIntS_0 (v0 v2 v3 : List Int) (v4 : Int) : @Eq _ (lp_laws_toIntS_0 R L v0 v2 v3 v4 ([1, 1, 0, 1, 0] ++ [0])) (cond (decide (v4 < (v0.length : Int)))
 (cond (nonneg v4)
 (cond (Nat.blt v4.toNat v0.length)
 (cond (nonneg v4)
 (cond (Nat.blt v4.toNat v3.length)
 (lp_laws_toIntS_0 R L v0 v2 (v3.set v4.toNat (v0.getD v4.toNat 0)) (IntKind.wrap .i64 (v4 + 1)))
 none)
 none)
 none)
 none)
 (some (v3, ()))) := by kernel_rfl
theorem q_spec_l01In (x0 x1 x2 : Int) : @Eq _ (c_spec_l01In (bodyK EE R L) x0 x1 x2) (cond (decide (x1 ≤ x0))
 (some (decide (x0 ≤ x2), ()))
 (some (false, ()))) := by kernel_rfl
theorem q_spec_l08Leaves (x0 : List Int) : @Eq _ (c_spec_l08Leaves (bodyK EE R L) x0) (lp_spec_l08Leaves_0 R L x0 0) := by kernel_rfl
theorem q_spec_l08Leaves_0 (v0 : List Int) (v3 : Int) : @Eq _ (lp_spec_l08Leaves_0 R L v0 v3 ([1, 0, 1, 0] ++ [0])) (cond (decide (v3 < (v0.length : Int)))
 (cond (nonneg v3)
 (cond (Nat.blt v3.toNat v0.length)
 ((c_spec_l01In R (v0.getD v3.toNat 0) 0 7).bind fun r0 =>
 cond (!r0.1)
 (some (false, ()))
 (lp_spec_l08Leaves_0 R L v0 (IntKind.wrap .i64 (v3 + 1))))
 none)
 none)
 (some (true, ()))) := by kernel_rfl
theorem q_spec_l11Draws (x0 : List Int) (x1 : Int) : @Eq _ (c_spec_l11Draws (bodyK EE R L) x0 x1) (cond (decide (4096 < (x0.length : Int)))
 (some (2, ()))
 (cond (!(eqI (x0.length : Int) x1))
 (some (13, ()))
 ((c_spec_l08Leaves R x0).bind fun r0 =>
 cond (!r0.1)
 (some (4, ()))
 (some (0, ()))))) := by kernel_rfl
theorem q_spec_RegisterOK (x0 : d59) : @Eq _ (c_spec_RegisterOK (bodyK EE R L) x0) ((c_spec_l01In R x0.1 0 1000000).bind fun r0 =>
 cond r0.1
 ((c_spec_l01In R x0.2.1 0 1).bind fun r1 =>
 cond r1.1
 ((c_spec_l01In R x0.2.2.2.1 0 1000000).bind fun r2 =>
 cond r2.1
 ((c_spec_l01In R x0.2.2.1 x0.1 (minI (IntKind.wrap .i64 (x0.1 + 4)) 1000000)).bind fun r3 =>
 cond r3.1
 (cond (eqI (x0.2.2.2.2.1.length : Int) 32)
 (cond (eqI (x0.2.2.2.2.2.1.length : Int) 32)
 (cond (eqI (x0.2.2.2.2.2.2.1.length : Int) 32)
 (cond (decide (x0.1 < x0.2.2.1))
 (some (true, ()))
 (some (eqS x0.2.2.2.2.1 x0.2.2.2.2.2.1, ())))
 (some (false, ())))
 (some (false, ())))
 (some (false, ())))
 (some (false, ())))
 (some (false, ())))
 (some (false, ())))
 (some (false, ()))) := by kernel_rfl
theorem q_spec_l05In (x0 : Int) : @Eq _ (c_spec_l05In (bodyK EE R L) x0) ((c_spec_l01In R x0 0 39).bind fun r0 =>
 some (r0.1, ())) := by kernel_rfl
theorem q_spec_DeviceOK (x0 : d61) : @Eq _ (c_spec_DeviceOK (bodyK EE R L) x0) (cond (!(eqI (x0.1.length : Int) 40))
 (some (false, ()))
 (cond (decide (60 < (x0.2.1.length : Int)))
 (some (false, ()))
 (lp_spec_DeviceOK_0 R L x0 x0 false 0))) := by kernel_rfl
theorem q_spec_DeviceOK_0 (v0 v1 : d61) (v2 : Bool) (v3 : Int) : @Eq _ (lp_spec_DeviceOK_0 R L v0 v1 v2 v3 ([1, 1, 0, 1, 0] ++ [0])) (cond (decide (v3 < (v1.1.length : Int)))
 (cond (nonneg v3)
 (cond (Nat.blt v3.toNat v1.1.length)
 (cond (decide (700 < ((v1.1.getD v3.toNat []).length : Int)))
 (some (false, ()))
 (lp_spec_DeviceOK_0 R L v0 v1 v2 (IntKind.wrap .i64 (v3 + 1))))
 none)
 none)
 (lp_spec_DeviceOK_1 R L v0 v1 v2 v3 0)) := by kernel_rfl
theorem q_spec_DeviceOK_1 (v0 v1 : d61) (v2 : Bool) (v3 v4 : Int) : @Eq _ (lp_spec_DeviceOK_1 R L v0 v1 v2 v3 v4 ([1, 1, 1, 0, 1, 0] ++ [0])) (cond (decide (v4 < (v1.2.1.length : Int)))
 (cond (nonneg v4)
 (cond (Nat.blt v4.toNat v1.2.1.length)
 ((c_spec_l05In R (v1.2.1.getD v4.toNat (0, ([], ()))).1).bind fun r0 =>
 cond (!r0.1)
 (some (false, ()))
 (cond (nonneg v4)
 (cond (Nat.blt v4.toNat v1.2.1.length)
 (cond (decide (700 < ((v1.2.1.getD v4.toNat (0, ([], ()))).2.1.length : Int)))
 (some (false, ()))
 (lp_spec_DeviceOK_1 R L v0 v1 v2 v3 (IntKind.wrap .i64 (v4 + 1))))
 none)
 none))
 none)
 none)
 (some (true, ()))) := by kernel_rfl
theorem q_spec_StoreOK (x0 : d62) : @Eq _ (c_spec_StoreOK (bodyK EE R L) x0) (cond (eqI (x0.1.length : Int) 32)
 ((c_spec_RegisterOK R x0.2.1).bind fun r0 =>
 cond r0.1
 ((c_spec_DeviceOK R x0.2.2.1).bind fun r1 =>
 cond r1.1
 (cond (eqI (x0.2.2.1.2.1.length : Int) 0)
 (cond x0.2.2.2.1
 (some (!x0.2.2.2.2.1, ()))
 (some (!false, ())))
 (some (false, ())))
 (some (false, ())))
 (some (false, ())))
 (some (false, ()))) := by kernel_rfl
theorem q_spec_OpOK (x0 : d53) : @Eq _ (c_spec_OpOK (bodyK EE R L) x0) ((c_spec_l01In R x0.1 1 6).bind fun r0 =>
 cond (!r0.1)
 (some (false, ()))
 ((c_spec_l01In R x0.2.1 1 9999).bind fun r1 =>
 cond (!r1.1)
 (some (false, ()))
 (cond (eqI x0.1 1)
 (some (eqI x0.2.2.1 0, ()))
 (cond (eqI x0.1 3)
 (some (eqI x0.2.2.1 0, ()))
 (cond (eqI x0.1 6)
 ((c_spec_l01In R x0.2.2.1 1 4).bind fun r2 =>
 some (r2.1, ()))
 ((c_spec_l01In R x0.2.2.1 0 999999).bind fun r2 =>
 some (r2.1, ()))))))) := by kernel_rfl
theorem q_spec_l09Txn (x0 : d54) : @Eq _ (c_spec_l09Txn (bodyK EE R L) x0) (lp_spec_l09Txn_0 R L x0 x0 false 0) := by kernel_rfl
theorem q_spec_l09Txn_0 (v0 v1 : d54) (v2 : Bool) (v3 : Int) : @Eq _ (lp_spec_l09Txn_0 R L v0 v1 v2 v3 ([1, 0, 1, 0] ++ [0])) (cond (decide (v3 < (v1.1.length : Int)))
 (cond (nonneg v3)
 (cond (Nat.blt v3.toNat v1.1.length)
 ((c_spec_OpOK R (v1.1.getD v3.toNat (0, (0, (0, ()))))).bind fun r0 =>
 cond (!r0.1)
 (some (false, ()))
 (lp_spec_l09Txn_0 R L v0 v1 v2 (IntKind.wrap .i64 (v3 + 1))))
 none)
 none)
 ((c_spec_l01In R (v1.1.length : Int) 1 4).bind fun r0 =>
 some (r0.1, ()))) := by kernel_rfl
theorem q_spec_BatchOK (x0 : List d54) : @Eq _ (c_spec_BatchOK (bodyK EE R L) x0) (cond (decide (4096 < (x0.length : Int)))
 (some (false, ()))
 ((c_spec_l01In R (x0.length : Int) 1 2).bind fun r0 =>
 cond (!r0.1)
 (some (false, ()))
 (lp_spec_BatchOK_0 R L x0 false 0))) := by kernel_rfl
theorem q_spec_BatchOK_0 (v0 : List d54) (v2 : Bool) (v3 : Int) : @Eq _ (lp_spec_BatchOK_0 R L v0 v2 v3 ([1, 1, 1, 0, 1, 0] ++ [0])) (cond (decide (v3 < (v0.length : Int)))
 (cond (nonneg v3)
 (cond (Nat.blt v3.toNat v0.length)
 ((c_spec_l09Txn R (v0.getD v3.toNat ([], ()))).bind fun r0 =>
 cond (!r0.1)
 (some (false, ()))
 (lp_spec_BatchOK_0 R L v0 v2 (IntKind.wrap .i64 (v3 + 1))))
 none)
 none)
 (some (true, ()))) := by kernel_rfl
theorem q_spec_l13Batch (x0 : d62) (x1 : List d54) (x2 : List Int) : @Eq _ (c_spec_l13Batch (bodyK EE R L) x0 x1 x2) ((c_spec_l11Draws R x2 40).bind fun r0 =>
 cond (!(eqI r0.1 0))
 (some (r0.1, ()))
 (cond (decide (4096 < (x1.length : Int)))
 (some (2, ()))
 ((c_spec_StoreOK R x0).bind fun r1 =>
 cond (!r1.1)
 (some (1, ()))
 ((c_spec_BatchOK R x1).bind fun r2 =>
 cond (!r2.1)
 (some (1, ()))
 (some (0, ())))))) := by kernel_rfl
theorem q_spec_l13Ask (x0 : d62) : @Eq _ (c_spec_l13Ask (bodyK EE R L) x0) (cond x0.2.2.2.2.1
 (some (18, ()))
 (cond (!x0.2.2.2.1)
 (some (16, ()))
 (some (0, ())))) := by kernel_rfl
theorem q_spec_l13Room (x0 : d62) : @Eq _ (c_spec_l13Room (bodyK EE R L) x0) (cond (eqI (IntKind.wrap .i64 (x0.2.1.2.2.1 - x0.2.1.1)) 4)
 (some (7, ()))
 (cond (decide (1000000 ≤ x0.2.1.2.2.1))
 (some (7, ()))
 (some (0, ())))) := by kernel_rfl
theorem q_spec_l13Number (x0 x1 : Int) : @Eq _ (c_spec_l13Number (bodyK EE R L) x0 x1) (some (IntKind.wrap .i64 (x0 + (IntKind.wrap .i64 (x1 * (2 ^ (Min.min (20 : Int).toNat (IntKind.bits .i64)))))), ())) := by kernel_rfl
theorem q_spec_l04Eight (x0 : Int) : @Eq _ (c_spec_l04Eight (bodyK EE R L) x0) (lp_spec_l04Eight_0 R L x0 [] 0) := by kernel_rfl
theorem q_spec_l04Eight_0 (v0 : Int) (v3 : List Int) (v4 : Int) : @Eq _ (lp_spec_l04Eight_0 R L v0 v3 v4 ([1, 1, 0, 1, 0] ++ [0])) (cond (decide (v4 < 8))
 (cond (decide ((IntKind.wrap .i64 (8 * v4)) < 0))
 none
 (cond (lenOK (v3.length + ([IntKind.wrap .u8 (Int.fdiv v0 (2 ^ (Min.min (IntKind.wrap .i64 (8 * v4)).toNat (IntKind.bits .i64))))]).length))
 (lp_spec_l04Eight_0 R L v0 (v3 ++ [IntKind.wrap .u8 (Int.fdiv v0 (2 ^ (Min.min (IntKind.wrap .i64 (8 * v4)).toNat (IntKind.bits .i64))))]) (IntKind.wrap .i64 (v4 + 1)))
 none))
 (some (List.map (fun (n : Int) => UInt8.ofNat n.toNat) v3, ()))) := by kernel_rfl
theorem q_spec_l06Nonce (x0 x1 x2 : Int) : @Eq _ (c_spec_l06Nonce (bodyK EE R L) x0 x1 x2) ((c_spec_l04Eight R x2).bind fun r0 =>
 cond (lenOK ((List.map (fun (n : Int) => UInt8.ofNat n.toNat) [IntKind.wrap .u8 x0, IntKind.wrap .u8 x1, IntKind.wrap .u8 (Int.fdiv x1 (2 ^ (Min.min (8 : Int).toNat (IntKind.bits .i64)))), 0]).length + r0.1.length))
 (some ((List.map (fun (n : Int) => UInt8.ofNat n.toNat) [IntKind.wrap .u8 x0, IntKind.wrap .u8 x1, IntKind.wrap .u8 (Int.fdiv x1 (2 ^ (Min.min (8 : Int).toNat (IntKind.bits .i64)))), 0]) ++ r0.1, ()))
 none) := by kernel_rfl
theorem q_spec_l04Pad (x0 : List UInt8) : @Eq _ (c_spec_l04Pad (bodyK EE R L) x0) (lp_spec_l04Pad_0 R L x0) := by kernel_rfl
theorem q_spec_l04Pad_0 (v0 : List UInt8) : @Eq _ (lp_spec_l04Pad_0 R L v0 ([1, 0, 0] ++ [0])) (cond (!(eqI (Int.tmod (v0.length : Int) 16) 0))
 (cond (lenOK (v0.length + ([(0 : UInt8)]).length))
 (lp_spec_l04Pad_0 R L (v0 ++ [0]))
 none)
 (some (v0, ()))) := by kernel_rfl
theorem q_spec_l03Clamp (x0 : List UInt8) : @Eq _ (c_spec_l03Clamp (bodyK EE R L) x0) (cond (Nat.ble (16 : Int).toNat x0.length)
 (lp_spec_l03Clamp_0 R L (List.map (fun (b : UInt8) => (UInt8.toNat b : Int)) (List.drop 0 (List.take (16 : Int).toNat x0))) 3)
 none) := by kernel_rfl
theorem q_spec_l03Clamp_0 (v3 : List Int) (v4 : Int) : @Eq _ (lp_spec_l03Clamp_0 R L v3 v4 ([1, 1, 0, 1, 0] ++ [0])) (cond (decide (v4 < 16))
 (cond (nonneg v4)
 (cond (Nat.blt v4.toNat v3.length)
 (cond (nonneg v4)
 (cond (Nat.blt v4.toNat v3.length)
 (lp_spec_l03Clamp_0 R L (v3.set v4.toNat (bitI .and .u8 (v3.getD v4.toNat 0) 15)) (IntKind.wrap .i64 (v4 + 4)))
 none)
 none)
 none)
 none)
 (lp_spec_l03Clamp_1 R L v3 4)) := by kernel_rfl
theorem q_spec_l03Clamp_1 (v3 : List Int) (v5 : Int) : @Eq _ (lp_spec_l03Clamp_1 R L v3 v5 ([1, 1, 1, 0, 1, 0] ++ [0])) (cond (decide (v5 < 16))
 (cond (nonneg v5)
 (cond (Nat.blt v5.toNat v3.length)
 (cond (nonneg v5)
 (cond (Nat.blt v5.toNat v3.length)
 (lp_spec_l03Clamp_1 R L (v3.set v5.toNat (bitI .and .u8 (v3.getD v5.toNat 0) 252)) (IntKind.wrap .i64 (v5 + 4)))
 none)
 none)
 none)
 none)
 (some (List.map (fun (n : Int) => UInt8.ofNat n.toNat) v3, ()))) := by kernel_rfl
theorem q_spec_l03Parts (x0 : List UInt8) : @Eq _ (c_spec_l03Parts (bodyK EE R L) x0) (lp_spec_l03Parts_0 R L x0 (List.replicate 5 0) [0, 0, 0, 0, 0] 0) := by kernel_rfl
theorem q_spec_l03Parts_0 (v0 : List UInt8) (v2 v3 : List Int) (v4 : Int) : @Eq _ (lp_spec_l03Parts_0 R L v0 v2 v3 v4 ([1, 1, 0, 1, 0] ++ [0])) (cond (decide (v4 < 17))
 (cond (nonneg v4)
 (cond (Nat.blt v4.toNat v0.length)
 (cond (nonneg (IntKind.wrap .i64 (Int.tdiv (IntKind.wrap .i64 (8 * v4)) 26)))
 (cond (Nat.blt (IntKind.wrap .i64 (Int.tdiv (IntKind.wrap .i64 (8 * v4)) 26)).toNat 5)
 (cond (decide ((Int.tmod (IntKind.wrap .i64 (8 * v4)) 26) < 0))
 none
 (cond (nonneg (IntKind.wrap .i64 (Int.tdiv (IntKind.wrap .i64 (8 * v4)) 26)))
 (cond (Nat.blt (IntKind.wrap .i64 (Int.tdiv (IntKind.wrap .i64 (8 * v4)) 26)).toNat 5)
 (cond (decide (18 < (Int.tmod (IntKind.wrap .i64 (8 * v4)) 26)))
 (cond (decide ((IntKind.wrap .i64 (Int.tdiv (IntKind.wrap .i64 (8 * v4)) 26)) < 4))
 (cond (nonneg (IntKind.wrap .i64 ((IntKind.wrap .i64 (Int.tdiv (IntKind.wrap .i64 (8 * v4)) 26)) + 1)))
 (cond (Nat.blt (IntKind.wrap .i64 ((IntKind.wrap .i64 (Int.tdiv (IntKind.wrap .i64 (8 * v4)) 26)) + 1)).toNat 5)
 (cond (decide ((IntKind.wrap .i64 (26 - (Int.tmod (IntKind.wrap .i64 (8 * v4)) 26))) < 0))
 none
 (cond (nonneg (IntKind.wrap .i64 ((IntKind.wrap .i64 (Int.tdiv (IntKind.wrap .i64 (8 * v4)) 26)) + 1)))
 (cond (Nat.blt (IntKind.wrap .i64 ((IntKind.wrap .i64 (Int.tdiv (IntKind.wrap .i64 (8 * v4)) 26)) + 1)).toNat 5)
 (lp_spec_l03Parts_0 R L v0 v2 ((v3.set (IntKind.wrap .i64 (Int.tdiv (IntKind.wrap .i64 (8 * v4)) 26)).toNat (IntKind.wrap .i64 ((v3.getD (IntKind.wrap .i64 (Int.tdiv (IntKind.wrap .i64 (8 * v4)) 26)).toNat 0) + (bitI .and .i64 (IntKind.wrap .i64 ((IntKind.wrap .i64 (UInt8.toNat (v0.getD v4.toNat 0) : Int)) * (2 ^ (Min.min (Int.tmod (IntKind.wrap .i64 (8 * v4)) 26).toNat (IntKind.bits .i64))))) 67108863)))).set (IntKind.wrap .i64 ((IntKind.wrap .i64 (Int.tdiv (IntKind.wrap .i64 (8 * v4)) 26)) + 1)).toNat (IntKind.wrap .i64 (((v3.set (IntKind.wrap .i64 (Int.tdiv (IntKind.wrap .i64 (8 * v4)) 26)).toNat (IntKind.wrap .i64 ((v3.getD (IntKind.wrap .i64 (Int.tdiv (IntKind.wrap .i64 (8 * v4)) 26)).toNat 0) + (bitI .and .i64 (IntKind.wrap .i64 ((IntKind.wrap .i64 (UInt8.toNat (v0.getD v4.toNat 0) : Int)) * (2 ^ (Min.min (Int.tmod (IntKind.wrap .i64 (8 * v4)) 26).toNat (IntKind.bits .i64))))) 67108863)))).getD (IntKind.wrap .i64 ((IntKind.wrap .i64 (Int.tdiv (IntKind.wrap .i64 (8 * v4)) 26)) + 1)).toNat 0) + (Int.fdiv (IntKind.wrap .i64 (UInt8.toNat (v0.getD v4.toNat 0) : Int)) (2 ^ (Min.min (IntKind.wrap .i64 (26 - (Int.tmod (IntKind.wrap .i64 (8 * v4)) 26))).toNat (IntKind.bits .i64))))))) (IntKind.wrap .i64 (v4 + 1)))
 none)
 none))
 none)
 none)
 (lp_spec_l03Parts_0 R L v0 v2 (v3.set (IntKind.wrap .i64 (Int.tdiv (IntKind.wrap .i64 (8 * v4)) 26)).toNat (IntKind.wrap .i64 ((v3.getD (IntKind.wrap .i64 (Int.tdiv (IntKind.wrap .i64 (8 * v4)) 26)).toNat 0) + (bitI .and .i64 (IntKind.wrap .i64 ((IntKind.wrap .i64 (UInt8.toNat (v0.getD v4.toNat 0) : Int)) * (2 ^ (Min.min (Int.tmod (IntKind.wrap .i64 (8 * v4)) 26).toNat (IntKind.bits .i64))))) 67108863)))) (IntKind.wrap .i64 (v4 + 1))))
 (lp_spec_l03Parts_0 R L v0 v2 (v3.set (IntKind.wrap .i64 (Int.tdiv (IntKind.wrap .i64 (8 * v4)) 26)).toNat (IntKind.wrap .i64 ((v3.getD (IntKind.wrap .i64 (Int.tdiv (IntKind.wrap .i64 (8 * v4)) 26)).toNat 0) + (bitI .and .i64 (IntKind.wrap .i64 ((IntKind.wrap .i64 (UInt8.toNat (v0.getD v4.toNat 0) : Int)) * (2 ^ (Min.min (Int.tmod (IntKind.wrap .i64 (8 * v4)) 26).toNat (IntKind.bits .i64))))) 67108863)))) (IntKind.wrap .i64 (v4 + 1))))
 none)
 none))
 none)
 none)
 none)
 none)
 (some (v3, ()))) := by kernel_rfl
theorem q_spec_l03Carry (x0 : List Int) : @Eq _ (c_spec_l03Carry (bodyK EE R L) x0) (lp_spec_l03Carry_0 R L x0 (List.replicate 5 0) 0) := by kernel_rfl
theorem q_spec_l03Carry_0 (v1 v2 : List Int) (v3 : Int) : @Eq _ (lp_spec_l03Carry_0 R L v1 v2 v3 ([1, 0, 1, 0] ++ [0])) (cond (decide (v3 < 3))
 (lp_spec_l03Carry_1 R L v1 v2 v3 0)
 (some (v1, ()))) := by kernel_rfl
theorem q_spec_l03Carry_1 (v1 v2 : List Int) (v3 v4 : Int) : @Eq _ (lp_spec_l03Carry_1 R L v1 v2 v3 v4 ([1, 0, 1, 0, 0, 1, 0, 0, 0, 1, 0] ++ [0])) (cond (decide (v4 < 4))
 (cond (nonneg (IntKind.wrap .i64 (v4 + 1)))
 (cond (Nat.blt (IntKind.wrap .i64 (v4 + 1)).toNat 5)
 (cond (nonneg v4)
 (cond (Nat.blt v4.toNat 5)
 (cond (nonneg (IntKind.wrap .i64 (v4 + 1)))
 (cond (Nat.blt (IntKind.wrap .i64 (v4 + 1)).toNat 5)
 (cond (nonneg v4)
 (cond (Nat.blt v4.toNat 5)
 (cond (nonneg v4)
 (cond (Nat.blt v4.toNat 5)
 (lp_spec_l03Carry_1 R L ((v1.set (IntKind.wrap .i64 (v4 + 1)).toNat (IntKind.wrap .i64 ((v1.getD (IntKind.wrap .i64 (v4 + 1)).toNat 0) + (Int.fdiv (v1.getD v4.toNat 0) (2 ^ (Min.min (26 : Int).toNat (IntKind.bits .i64))))))).set v4.toNat (bitI .and .i64 ((v1.set (IntKind.wrap .i64 (v4 + 1)).toNat (IntKind.wrap .i64 ((v1.getD (IntKind.wrap .i64 (v4 + 1)).toNat 0) + (Int.fdiv (v1.getD v4.toNat 0) (2 ^ (Min.min (26 : Int).toNat (IntKind.bits .i64))))))).getD v4.toNat 0) 67108863)) v2 v3 (IntKind.wrap .i64 (v4 + 1)))
 none)
 none)
 none)
 none)
 none)
 none)
 none)
 none)
 none)
 none)
 (lp_spec_l03Carry_0 R L ((v1.set (0 : Int).toNat (IntKind.wrap .i64 ((v1.getD (0 : Int).toNat 0) + (IntKind.wrap .i64 (5 * (Int.fdiv (v1.getD (4 : Int).toNat 0) (2 ^ (Min.min (26 : Int).toNat (IntKind.bits .i64))))))))).set (4 : Int).toNat (bitI .and .i64 ((v1.set (0 : Int).toNat (IntKind.wrap .i64 ((v1.getD (0 : Int).toNat 0) + (IntKind.wrap .i64 (5 * (Int.fdiv (v1.getD (4 : Int).toNat 0) (2 ^ (Min.min (26 : Int).toNat (IntKind.bits .i64))))))))).getD (4 : Int).toNat 0) 67108863)) v2 (IntKind.wrap .i64 (v3 + 1)))) := by kernel_rfl
theorem q_spec_l03Times (x0 x1 : List Int) : @Eq _ (c_spec_l03Times (bodyK EE R L) x0 x1) (lp_spec_l03Times_0 R L x0 x1 (List.replicate 5 0) [0, 0, 0, 0, 0] 0) := by kernel_rfl
theorem q_spec_l03Times_0 (v2 v3 v4 v5 : List Int) (v6 : Int) : @Eq _ (lp_spec_l03Times_0 R L v2 v3 v4 v5 v6 ([1, 1, 0, 1, 0] ++ [0])) (cond (decide (v6 < 5))
 (lp_spec_l03Times_1 R L v2 v3 v4 v5 v6 0)
 ((c_spec_l03Carry R v5).bind fun r0 =>
 some (r0.1, ()))) := by kernel_rfl
theorem q_spec_l03Times_1 (v2 v3 v4 v5 : List Int) (v6 v7 : Int) : @Eq _ (lp_spec_l03Times_1 R L v2 v3 v4 v5 v6 v7 ([1, 1, 0, 1, 0, 0, 1, 0, 0, 1, 0] ++ [0])) (cond (decide (v7 < 5))
 (cond (nonneg v6)
 (cond (Nat.blt v6.toNat 5)
 (cond (nonneg v7)
 (cond (Nat.blt v7.toNat 5)
 (cond (decide (4 < (IntKind.wrap .i64 (v6 + v7))))
 (cond (nonneg (Int.tmod (IntKind.wrap .i64 (v6 + v7)) 5))
 (cond (Nat.blt (Int.tmod (IntKind.wrap .i64 (v6 + v7)) 5).toNat 5)
 (cond (nonneg (Int.tmod (IntKind.wrap .i64 (v6 + v7)) 5))
 (cond (Nat.blt (Int.tmod (IntKind.wrap .i64 (v6 + v7)) 5).toNat 5)
 (lp_spec_l03Times_1 R L v2 v3 v4 (v5.set (Int.tmod (IntKind.wrap .i64 (v6 + v7)) 5).toNat (IntKind.wrap .i64 ((v5.getD (Int.tmod (IntKind.wrap .i64 (v6 + v7)) 5).toNat 0) + (IntKind.wrap .i64 ((IntKind.wrap .i64 ((v2.getD v6.toNat 0) * (v3.getD v7.toNat 0))) * 5))))) v6 (IntKind.wrap .i64 (v7 + 1)))
 none)
 none)
 none)
 none)
 (cond (nonneg (Int.tmod (IntKind.wrap .i64 (v6 + v7)) 5))
 (cond (Nat.blt (Int.tmod (IntKind.wrap .i64 (v6 + v7)) 5).toNat 5)
 (cond (nonneg (Int.tmod (IntKind.wrap .i64 (v6 + v7)) 5))
 (cond (Nat.blt (Int.tmod (IntKind.wrap .i64 (v6 + v7)) 5).toNat 5)
 (lp_spec_l03Times_1 R L v2 v3 v4 (v5.set (Int.tmod (IntKind.wrap .i64 (v6 + v7)) 5).toNat (IntKind.wrap .i64 ((v5.getD (Int.tmod (IntKind.wrap .i64 (v6 + v7)) 5).toNat 0) + (IntKind.wrap .i64 ((v2.getD v6.toNat 0) * (v3.getD v7.toNat 0)))))) v6 (IntKind.wrap .i64 (v7 + 1)))
 none)
 none)
 none)
 none))
 none)
 none)
 none)
 none)
 (lp_spec_l03Times_0 R L v2 v3 v4 v5 (IntKind.wrap .i64 (v6 + 1)))) := by kernel_rfl
theorem q_spec_l03Less (x0 : List Int) : @Eq _ (c_spec_l03Less (bodyK EE R L) x0) (lp_spec_l03Less_0 R L x0 (List.replicate 5 0) (x0.set (0 : Int).toNat (IntKind.wrap .i64 ((x0.getD (0 : Int).toNat 0) + 5))) 0) := by kernel_rfl
theorem q_spec_l03Less_0 (v1 v2 v3 : List Int) (v4 : Int) : @Eq _ (lp_spec_l03Less_0 R L v1 v2 v3 v4 ([1, 1, 1, 0, 1, 0] ++ [0])) (cond (decide (v4 < 4))
 (cond (nonneg (IntKind.wrap .i64 (v4 + 1)))
 (cond (Nat.blt (IntKind.wrap .i64 (v4 + 1)).toNat 5)
 (cond (nonneg v4)
 (cond (Nat.blt v4.toNat 5)
 (cond (nonneg (IntKind.wrap .i64 (v4 + 1)))
 (cond (Nat.blt (IntKind.wrap .i64 (v4 + 1)).toNat 5)
 (cond (nonneg v4)
 (cond (Nat.blt v4.toNat 5)
 (cond (nonneg v4)
 (cond (Nat.blt v4.toNat 5)
 (lp_spec_l03Less_0 R L v1 v2 ((v3.set (IntKind.wrap .i64 (v4 + 1)).toNat (IntKind.wrap .i64 ((v3.getD (IntKind.wrap .i64 (v4 + 1)).toNat 0) + (Int.fdiv (v3.getD v4.toNat 0) (2 ^ (Min.min (26 : Int).toNat (IntKind.bits .i64))))))).set v4.toNat (bitI .and .i64 ((v3.set (IntKind.wrap .i64 (v4 + 1)).toNat (IntKind.wrap .i64 ((v3.getD (IntKind.wrap .i64 (v4 + 1)).toNat 0) + (Int.fdiv (v3.getD v4.toNat 0) (2 ^ (Min.min (26 : Int).toNat (IntKind.bits .i64))))))).getD v4.toNat 0) 67108863)) (IntKind.wrap .i64 (v4 + 1)))
 none)
 none)
 none)
 none)
 none)
 none)
 none)
 none)
 none)
 none)
 (cond (eqI (Int.fdiv (v3.getD (4 : Int).toNat 0) (2 ^ (Min.min (26 : Int).toNat (IntKind.bits .i64)))) 0)
 (some (v1, ()))
 (some (v3.set (4 : Int).toNat (bitI .and .i64 (v3.getD (4 : Int).toNat 0) 67108863), ())))) := by kernel_rfl
theorem q_spec_l03Tag (x0 x1 : List UInt8) : @Eq _ (c_spec_l03Tag (bodyK EE R L) x0 x1) ((c_spec_l03Clamp R x0).bind fun r0 =>
 cond (lenOK (r0.1.length + ([(0 : UInt8)]).length))
 ((c_spec_l03Parts R (r0.1 ++ [0])).bind fun r1 =>
 lp_spec_l03Tag_0 R L x0 x1 r1.1 [0, 0, 0, 0, 0] 0)
 none) := by kernel_rfl
theorem q_spec_l03Tag_0 (v0 v1 : List UInt8) (v5 v6 : List Int) (v7 : Int) : @Eq _ (lp_spec_l03Tag_0 R L v0 v1 v5 v6 v7 ([1, 1, 1, 0, 1, 0] ++ [0])) (cond (decide (v7 < (v1.length : Int)))
 (cond (nonneg (minI (v1.length : Int) (IntKind.wrap .i64 (v7 + 16))))
 (cond (nonneg v7)
 (cond (Nat.ble (minI (v1.length : Int) (IntKind.wrap .i64 (v7 + 16))).toNat v1.length)
 (cond (Nat.ble v7.toNat (minI (v1.length : Int) (IntKind.wrap .i64 (v7 + 16))).toNat)
 (cond (lenOK ((List.drop v7.toNat (List.take (minI (v1.length : Int) (IntKind.wrap .i64 (v7 + 16))).toNat v1)).length + ([(1 : UInt8)]).length))
 (lp_spec_l03Tag_1 R L v0 v1 v5 v6 v7 ((List.drop v7.toNat (List.take (minI (v1.length : Int) (IntKind.wrap .i64 (v7 + 16))).toNat v1)) ++ [1]))
 none)
 none)
 none)
 none)
 none)
 ((c_spec_l03Carry R v6).bind fun r0 =>
 (c_spec_l03Less R r0.1).bind fun r1 =>
 lp_spec_l03Tag_2 R L v0 r1.1 [] 0 0)) := by kernel_rfl
theorem q_spec_l03Tag_1 (v0 v1 : List UInt8) (v5 v6 : List Int) (v7 : Int) (v8 : List UInt8) : @Eq _ (lp_spec_l03Tag_1 R L v0 v1 v5 v6 v7 v8 ([1, 1, 1, 0, 1, 0, 0, 1, 0, 0, 1, 0, 0] ++ [0])) (cond (decide ((v8.length : Int) < 17))
 (cond (lenOK (v8.length + ([(0 : UInt8)]).length))
 (lp_spec_l03Tag_1 R L v0 v1 v5 v6 v7 (v8 ++ [0]))
 none)
 ((c_spec_l03Parts R v8).bind fun r0 =>
 lp_spec_l03Tag_3 R L v0 v1 v5 v6 v7 r0.1 0)) := by kernel_rfl
theorem q_spec_l03Tag_2 (v0 : List UInt8) (v6 v11 : List Int) (v12 v13 : Int) : @Eq _ (lp_spec_l03Tag_2 R L v0 v6 v11 v12 v13 ([1, 1, 1, 1, 1, 1, 1, 0, 1, 0] ++ [0])) (cond (decide (v13 < 16))
 (cond (nonneg (IntKind.wrap .i64 (Int.tdiv (IntKind.wrap .i64 (8 * v13)) 26)))
 (cond (Nat.blt (IntKind.wrap .i64 (Int.tdiv (IntKind.wrap .i64 (8 * v13)) 26)).toNat 5)
 (cond (decide ((Int.tmod (IntKind.wrap .i64 (8 * v13)) 26) < 0))
 none
 (cond (decide (18 < (Int.tmod (IntKind.wrap .i64 (8 * v13)) 26)))
 (cond (nonneg (IntKind.wrap .i64 ((IntKind.wrap .i64 (Int.tdiv (IntKind.wrap .i64 (8 * v13)) 26)) + 1)))
 (cond (Nat.blt (IntKind.wrap .i64 ((IntKind.wrap .i64 (Int.tdiv (IntKind.wrap .i64 (8 * v13)) 26)) + 1)).toNat 5)
 (cond (decide ((IntKind.wrap .i64 (26 - (Int.tmod (IntKind.wrap .i64 (8 * v13)) 26))) < 0))
 none
 (cond (nonneg (IntKind.wrap .i64 (16 + v13)))
 (cond (Nat.blt (IntKind.wrap .i64 (16 + v13)).toNat v0.length)
 (cond (lenOK (v11.length + ([IntKind.wrap .u8 (IntKind.wrap .i64 (v12 + (IntKind.wrap .i64 ((bitI .and .i64 (IntKind.wrap .i64 ((Int.fdiv (v6.getD (IntKind.wrap .i64 (Int.tdiv (IntKind.wrap .i64 (8 * v13)) 26)).toNat 0) (2 ^ (Min.min (Int.tmod (IntKind.wrap .i64 (8 * v13)) 26).toNat (IntKind.bits .i64)))) + (IntKind.wrap .i64 ((v6.getD (IntKind.wrap .i64 ((IntKind.wrap .i64 (Int.tdiv (IntKind.wrap .i64 (8 * v13)) 26)) + 1)).toNat 0) * (2 ^ (Min.min (IntKind.wrap .i64 (26 - (Int.tmod (IntKind.wrap .i64 (8 * v13)) 26))).toNat (IntKind.bits .i64))))))) 255) + (IntKind.wrap .i64 (UInt8.toNat (v0.getD (IntKind.wrap .i64 (16 + v13)).toNat 0) : Int))))))]).length))
 (lp_spec_l03Tag_2 R L v0 v6 (v11 ++ [IntKind.wrap .u8 (IntKind.wrap .i64 (v12 + (IntKind.wrap .i64 ((bitI .and .i64 (IntKind.wrap .i64 ((Int.fdiv (v6.getD (IntKind.wrap .i64 (Int.tdiv (IntKind.wrap .i64 (8 * v13)) 26)).toNat 0) (2 ^ (Min.min (Int.tmod (IntKind.wrap .i64 (8 * v13)) 26).toNat (IntKind.bits .i64)))) + (IntKind.wrap .i64 ((v6.getD (IntKind.wrap .i64 ((IntKind.wrap .i64 (Int.tdiv (IntKind.wrap .i64 (8 * v13)) 26)) + 1)).toNat 0) * (2 ^ (Min.min (IntKind.wrap .i64 (26 - (Int.tmod (IntKind.wrap .i64 (8 * v13)) 26))).toNat (IntKind.bits .i64))))))) 255) + (IntKind.wrap .i64 (UInt8.toNat (v0.getD (IntKind.wrap .i64 (16 + v13)).toNat 0) : Int))))))]) (Int.fdiv (IntKind.wrap .i64 (v12 + (IntKind.wrap .i64 ((bitI .and .i64 (IntKind.wrap .i64 ((Int.fdiv (v6.getD (IntKind.wrap .i64 (Int.tdiv (IntKind.wrap .i64 (8 * v13)) 26)).toNat 0) (2 ^ (Min.min (Int.tmod (IntKind.wrap .i64 (8 * v13)) 26).toNat (IntKind.bits .i64)))) + (IntKind.wrap .i64 ((v6.getD (IntKind.wrap .i64 ((IntKind.wrap .i64 (Int.tdiv (IntKind.wrap .i64 (8 * v13)) 26)) + 1)).toNat 0) * (2 ^ (Min.min (IntKind.wrap .i64 (26 - (Int.tmod (IntKind.wrap .i64 (8 * v13)) 26))).toNat (IntKind.bits .i64))))))) 255) + (IntKind.wrap .i64 (UInt8.toNat (v0.getD (IntKind.wrap .i64 (16 + v13)).toNat 0) : Int)))))) (2 ^ (Min.min (8 : Int).toNat (IntKind.bits .i64)))) (IntKind.wrap .i64 (v13 + 1)))
 none)
 none)
 none))
 none)
 none)
 (cond (nonneg (IntKind.wrap .i64 (16 + v13)))
 (cond (Nat.blt (IntKind.wrap .i64 (16 + v13)).toNat v0.length)
 (cond (lenOK (v11.length + ([IntKind.wrap .u8 (IntKind.wrap .i64 (v12 + (IntKind.wrap .i64 ((bitI .and .i64 (Int.fdiv (v6.getD (IntKind.wrap .i64 (Int.tdiv (IntKind.wrap .i64 (8 * v13)) 26)).toNat 0) (2 ^ (Min.min (Int.tmod (IntKind.wrap .i64 (8 * v13)) 26).toNat (IntKind.bits .i64)))) 255) + (IntKind.wrap .i64 (UInt8.toNat (v0.getD (IntKind.wrap .i64 (16 + v13)).toNat 0) : Int))))))]).length))
 (lp_spec_l03Tag_2 R L v0 v6 (v11 ++ [IntKind.wrap .u8 (IntKind.wrap .i64 (v12 + (IntKind.wrap .i64 ((bitI .and .i64 (Int.fdiv (v6.getD (IntKind.wrap .i64 (Int.tdiv (IntKind.wrap .i64 (8 * v13)) 26)).toNat 0) (2 ^ (Min.min (Int.tmod (IntKind.wrap .i64 (8 * v13)) 26).toNat (IntKind.bits .i64)))) 255) + (IntKind.wrap .i64 (UInt8.toNat (v0.getD (IntKind.wrap .i64 (16 + v13)).toNat 0) : Int))))))]) (Int.fdiv (IntKind.wrap .i64 (v12 + (IntKind.wrap .i64 ((bitI .and .i64 (Int.fdiv (v6.getD (IntKind.wrap .i64 (Int.tdiv (IntKind.wrap .i64 (8 * v13)) 26)).toNat 0) (2 ^ (Min.min (Int.tmod (IntKind.wrap .i64 (8 * v13)) 26).toNat (IntKind.bits .i64)))) 255) + (IntKind.wrap .i64 (UInt8.toNat (v0.getD (IntKind.wrap .i64 (16 + v13)).toNat 0) : Int)))))) (2 ^ (Min.min (8 : Int).toNat (IntKind.bits .i64)))) (IntKind.wrap .i64 (v13 + 1)))
 none)
 none)
 none)))
 none)
 none)
 (some (List.map (fun (n : Int) => UInt8.ofNat n.toNat) v11, ()))) := by kernel_rfl
theorem q_spec_l03Tag_3 (v0 v1 : List UInt8) (v5 v6 : List Int) (v7 : Int) (v9 : List Int) (v10 : Int) : @Eq _ (lp_spec_l03Tag_3 R L v0 v1 v5 v6 v7 v9 v10 ([1, 1, 1, 0, 1, 0, 0, 1, 0, 0, 1, 1, 1, 0, 1, 0] ++ [0])) (cond (decide (v10 < 5))
 (cond (nonneg v10)
 (cond (Nat.blt v10.toNat 5)
 (cond (nonneg v10)
 (cond (Nat.blt v10.toNat 5)
 (cond (nonneg v10)
 (cond (Nat.blt v10.toNat 5)
 (lp_spec_l03Tag_3 R L v0 v1 v5 (v6.set v10.toNat (IntKind.wrap .i64 ((v6.getD v10.toNat 0) + (v9.getD v10.toNat 0)))) v7 v9 (IntKind.wrap .i64 (v10 + 1)))
 none)
 none)
 none)
 none)
 none)
 none)
 ((c_spec_l03Times R v6 v5).bind fun r0 =>
 lp_spec_l03Tag_0 R L v0 v1 v5 r0.1 (IntKind.wrap .i64 (v7 + 16)))) := by kernel_rfl
theorem q_spec_l04Tag (x0 x1 x2 x3 : List UInt8) : @Eq _ (c_spec_l04Tag (bodyK EE R L) x0 x1 x2 x3) ((c_spec_l02Block R x0 x1 0).bind fun r0 =>
 cond (Nat.ble (32 : Int).toNat r0.1.length)
 ((c_spec_l04Pad R x2).bind fun r1 =>
 (c_spec_l04Pad R x3).bind fun r2 =>
 cond (lenOK (r1.1.length + r2.1.length))
 ((c_spec_l04Eight R (x2.length : Int)).bind fun r3 =>
 cond (lenOK ((r1.1 ++ r2.1).length + r3.1.length))
 ((c_spec_l04Eight R (x3.length : Int)).bind fun r4 =>
 cond (lenOK (((r1.1 ++ r2.1) ++ r3.1).length + r4.1.length))
 ((c_spec_l03Tag R (List.drop 0 (List.take (32 : Int).toNat r0.1)) (((r1.1 ++ r2.1) ++ r3.1) ++ r4.1)).bind fun r5 =>
 some (r5.1, ()))
 none)
 none)
 none)
 none) := by kernel_rfl
theorem q_spec_l04Seal (x0 x1 x2 x3 : List UInt8) : @Eq _ (c_spec_l04Seal (bodyK EE R L) x0 x1 x2 x3) ((c_spec_l02Xor R x0 x1 1 x3).bind fun r0 =>
 (c_spec_l04Tag R x0 x1 x2 r0.1).bind fun r1 =>
 cond (lenOK (r0.1.length + r1.1.length))
 (some (r0.1 ++ r1.1, ()))
 none) := by kernel_rfl
theorem q_spec_l06Seal (x0 : List UInt8) (x1 x2 x3 : Int) (x4 : List UInt8) : @Eq _ (c_spec_l06Seal (bodyK EE R L) x0 x1 x2 x3 x4) ((c_spec_l06Nonce R x1 x2 x3).bind fun r0 =>
 (c_spec_l04Seal R x0 r0.1 [98, 108, 111, 99, 107] x4).bind fun r1 =>
 some (r1.1, ())) := by kernel_rfl
theorem q_spec_l05Write (x0 : d61) (x1 : Int) (x2 : List UInt8) : @Eq _ (c_spec_l05Write (bodyK EE R L) x0 x1 x2) (cond (lenOK (([] : List d60).length + x0.2.1.length))
 (cond (lenOK ((([] : List d60) ++ x0.2.1).length + ([(x1, (x2, ()))]).length))
 (some ((x0.1, (([] ++ x0.2.1) ++ [(x1, (x2, ()))], x0.2.2)), ()))
 none)
 none) := by kernel_rfl
theorem q_spec_l13Entry (x0 : d62) (x1 : List d54) (x2 : List Int) : @Eq _ (c_spec_l13Entry (bodyK EE R L) x0 x1 x2) ((c_spec_l06Ints R [x0.2.1.2.2.2.1]).bind fun r0 =>
 (c_spec_l13Number R (IntKind.wrap .i64 (x0.2.1.2.2.1 + 1)) x0.2.1.2.2.2.1).bind fun r1 =>
 (c_spec_l12Entry R x1 x2).bind fun r2 =>
 (c_spec_l06Seal R x0.1 3 (IntKind.wrap .i64 (32 + (Int.tmod (IntKind.wrap .i64 (x0.2.1.2.2.1 + 1)) 8))) r1.1 r2.1).bind fun r3 =>
 cond (lenOK (r0.1.length + r3.1.length))
 ((c_spec_l05Write R x0.2.2.1 (IntKind.wrap .i64 (32 + (Int.tmod (IntKind.wrap .i64 (x0.2.1.2.2.1 + 1)) 8))) (r0.1 ++ r3.1)).bind fun r4 =>
 some ((x0.1, (x0.2.1, (r4.1, x0.2.2.2))), (r0.1 ++ r3.1, ())))
 none) := by kernel_rfl
theorem q_spec_l05Sync (x0 : d61) : @Eq _ (c_spec_l05Sync (bodyK EE R L) x0) (cond (lenOK (([] : List (List UInt8)).length + x0.1.length))
 (lp_spec_l05Sync_0 R L x0 ([], ([], ())) ([] ++ x0.1, ([], ())) 0)
 none) := by kernel_rfl
theorem q_spec_l05Sync_0 (v1 v2 v3 : d61) (v4 : Int) : @Eq _ (lp_spec_l05Sync_0 R L v1 v2 v3 v4 ([1, 1, 0, 1, 0] ++ [0])) (cond (decide (v4 < (v1.2.1.length : Int)))
 (cond (nonneg v4)
 (cond (Nat.blt v4.toNat v1.2.1.length)
 (cond (nonneg v4)
 (cond (Nat.blt v4.toNat v1.2.1.length)
 (cond (nonneg (v1.2.1.getD v4.toNat (0, ([], ()))).1)
 (cond (Nat.blt (v1.2.1.getD v4.toNat (0, ([], ()))).1.toNat v3.1.length)
 (lp_spec_l05Sync_0 R L v1 v2 (v3.1.set (v1.2.1.getD v4.toNat (0, ([], ()))).1.toNat (v1.2.1.getD v4.toNat (0, ([], ()))).2.1, v3.2) (IntKind.wrap .i64 (v4 + 1)))
 none)
 none)
 none)
 none)
 none)
 none)
 (some (v3, ()))) := by kernel_rfl
theorem q_spec_l07Chain (x0 x1 : List UInt8) : @Eq _ (c_spec_l07Chain (bodyK EE R L) x0 x1) (cond (lenOK (([(2 : UInt8)]).length + x0.length))
 (cond (lenOK (([(2 : UInt8)] ++ x0).length + x1.length))
 ((c_spec_l01Of R (([2] ++ x0) ++ x1)).bind fun r0 =>
 some (r0.1, ()))
 none)
 none) := by kernel_rfl
theorem q_spec_l13Submit (x0 : d62) (x1 : List d54) (x2 : List Int) : @Eq _ (c_spec_l13Submit (bodyK EE R L) x0 x1 x2) ((c_spec_l13Ask R x0).bind fun r0 =>
 cond (!(eqI r0.1 0))
 (some (x0, (r0.1, ())))
 ((c_spec_l13Room R x0).bind fun r1 =>
 cond (!(eqI r1.1 0))
 (some (x0, (r1.1, ())))
 ((c_spec_l13Entry R x0 x1 x2).bind fun r2 =>
 (c_spec_l05Sync R r2.1.2.2.1).bind fun r3 =>
 (c_spec_l07Chain R x0.2.1.2.2.2.2.2.1 r2.2.1).bind fun r4 =>
 some ((r2.1.1, ((r2.1.2.1.1, (r2.1.2.1.2.1, (IntKind.wrap .i64 (r2.1.2.1.2.2.1 + 1), (r2.1.2.1.2.2.2.1, (r2.1.2.1.2.2.2.2.1, (r4.1, r2.1.2.1.2.2.2.2.2.2)))))), (r3.1, r2.1.2.2.2))), (0, ()))))) := by kernel_rfl
theorem q_spec_l05Own (x0 : d61) : @Eq _ (c_spec_l05Own (bodyK EE R L) x0) (cond (lenOK (([] : List (List UInt8)).length + x0.1.length))
 (cond (lenOK (([] : List d60).length + x0.2.1.length))
 (some (([] ++ x0.1, ([] ++ x0.2.1, ())), ()))
 none)
 none) := by kernel_rfl
theorem q_spec_l13Own (x0 : d62) : @Eq _ (c_spec_l13Own (bodyK EE R L) x0) ((c_spec_l05Own R x0.2.2.1).bind fun r0 =>
 some ((x0.1, (x0.2.1, (r0.1, x0.2.2.2))), ())) := by kernel_rfl
theorem q_spec_Submit (x0 : d62) (x1 : List d54) (x2 : List Int) : @Eq _ (c_spec_Submit (bodyK EE R L) x0 x1 x2) (cond (decide (4096 < (x1.length : Int)))
 (some (([], ((0, (0, (0, (0, ([], ([], ([], ()))))))), (([], ([], ())), (false, (false, ()))))), (2, ())))
 (cond (decide (4096 < (x2.length : Int)))
 (some (([], ((0, (0, (0, (0, ([], ([], ([], ()))))))), (([], ([], ())), (false, (false, ()))))), (2, ())))
 ((c_spec_l13Batch R x0 x1 x2).bind fun r0 =>
 cond (!(eqI r0.1 0))
 (some (([], ((0, (0, (0, (0, ([], ([], ([], ()))))))), (([], ([], ())), (false, (false, ()))))), (r0.1, ())))
 ((c_spec_l13Submit R x0 x1 x2).bind fun r1 =>
 (c_spec_l13Own R r1.1).bind fun r2 =>
 some (r2.1, (r1.2.1, ())))))) := by kernel_rfl
theorem q_impl_areAll_int__1 (x0 : Int) (x1 : FnVal) : @Eq _ (c_impl_areAll_int__1 (bodyK EE R L) x0 x1) ((callVB EE R x1 [⟨(.int .i64), (x0 : Int)⟩]).bind fun (r0 : Bool) =>
 some (!r0, ())) := by kernel_rfl
theorem q_slices_IndexFunc___int_int_ (x0 : List Int) (x1 : FnVal) : @Eq _ (c_slices_IndexFunc___int_int_ (bodyK EE R L) x0 x1) (lp_slices_IndexFunc___int_int__0 R L x0 x1 0 (x0.length : Int) 0) := by kernel_rfl
theorem q_slices_IndexFunc___int_int__0 (v0 : List Int) (v1 : FnVal) (v4 v7 v8 : Int) : @Eq _ (lp_slices_IndexFunc___int_int__0 R L v0 v1 v4 v7 v8 ([1, 0, 1, 0] ++ [0])) (cond (decide (v8 < v7))
 (cond (nonneg v8)
 (cond (Nat.blt v8.toNat v0.length)
 ((callVB EE R v1 [⟨(.int .i64), (v0.getD v8.toNat 0 : Int)⟩]).bind fun (r0 : Bool) =>
 cond r0
 (some (v8, ()))
 (lp_slices_IndexFunc___int_int__1 R L v0 v1 v4 v8 v7 (IntKind.wrap .i64 (v8 + 1))))
 none)
 none)
 (some (-1, ()))) := by kernel_rfl
theorem q_slices_IndexFunc___int_int__1 (v0 : List Int) (v1 : FnVal) (v4 v5 v7 v8 : Int) : @Eq _ (lp_slices_IndexFunc___int_int__1 R L v0 v1 v4 v5 v7 v8 ([1, 0, 1, 0] ++ [0])) (cond (decide (v8 < v7))
 (cond (nonneg v8)
 (cond (Nat.blt v8.toNat v0.length)
 ((callVB EE R v1 [⟨(.int .i64), (v0.getD v8.toNat 0 : Int)⟩]).bind fun (r0 : Bool) =>
 cond r0
 (some (v8, ()))
 (lp_slices_IndexFunc___int_int__1 R L v0 v1 v4 v8 v7 (IntKind.wrap .i64 (v8 + 1))))
 none)
 none)
 (some (-1, ()))) := by kernel_rfl
theorem q_slices_ContainsFunc___int_int_ (x0 : List Int) (x1 : FnVal) : @Eq _ (c_slices_ContainsFunc___int_int_ (bodyK EE R L) x0 x1) ((c_slices_IndexFunc___int_int_ R x0 x1).bind fun r0 =>
 some (decide (0 ≤ r0.1), ())) := by kernel_rfl
theorem q_impl_areAll_int_ (x0 : List Int) (x1 : FnVal) : @Eq _ (c_impl_areAll_int_ (bodyK EE R L) x0 x1) ((c_slices_ContainsFunc___int_int_ R x0 (FnVal.mk (268 : Nat) (FCaps.fn x1 FCaps.nil))).bind fun r0 =>
 some (!r0.1, ())) := by kernel_rfl
theorem q_impl_within (x0 x1 x2 : Int) : @Eq _ (c_impl_within (bodyK EE R L) x0 x1 x2) (cond (decide (x1 ≤ x0))
 (some (decide (x0 ≤ x2), ()))
 (some (false, ()))) := by kernel_rfl
theorem q_impl_isLeaf (x0 : Int) : @Eq _ (c_impl_isLeaf (bodyK EE R L) x0) ((c_impl_within R x0 0 7).bind fun r0 =>
 some (r0.1, ())) := by kernel_rfl
theorem q_impl_drawsCode (x0 : List Int) (x1 : Int) : @Eq _ (c_impl_drawsCode (bodyK EE R L) x0 x1) (cond (!(eqI (x0.length : Int) x1))
 (some (13, ()))
 ((c_impl_areAll_int_ R x0 (FnVal.mk (205 : Nat) FCaps.nil)).bind fun r0 =>
 cond (!r0.1)
 (some (4, ()))
 (some (0, ())))) := by kernel_rfl
theorem q_impl_isDigest (x0 : List UInt8) : @Eq _ (c_impl_isDigest (bodyK EE R L) x0) (some (eqI (x0.length : Int) 32, ())) := by kernel_rfl
theorem q_impl_Register_waiting (x0 : d59) : @Eq _ (c_impl_Register_waiting (bodyK EE R L) x0) (some (IntKind.wrap .i64 (x0.2.2.1 - x0.1), ())) := by kernel_rfl
theorem q_impl_RegisterOK (x0 : d59) : @Eq _ (c_impl_RegisterOK (bodyK EE R L) x0) ((c_impl_within R x0.1 0 1000000).bind fun r0 =>
 cond r0.1
 ((c_impl_within R x0.2.1 0 1).bind fun r1 =>
 cond r1.1
 ((c_impl_within R x0.2.2.1 x0.1 (minI (IntKind.wrap .i64 (x0.1 + 4)) 1000000)).bind fun r2 =>
 cond r2.1
 ((c_impl_within R x0.2.2.2.1 0 1000000).bind fun r3 =>
 cond r3.1
 ((c_impl_isDigest R x0.2.2.2.2.1).bind fun r4 =>
 cond r4.1
 ((c_impl_isDigest R x0.2.2.2.2.2.1).bind fun r5 =>
 cond r5.1
 ((c_impl_isDigest R x0.2.2.2.2.2.2.1).bind fun r6 =>
 cond r6.1
 ((c_impl_Register_waiting R x0).bind fun r7 =>
 cond (decide (0 < r7.1))
 (some (true, ()))
 (some (eqS x0.2.2.2.2.1 x0.2.2.2.2.2.1, ())))
 (some (false, ())))
 (some (false, ())))
 (some (false, ())))
 (some (false, ())))
 (some (false, ())))
 (some (false, ())))
 (some (false, ()))) := by kernel_rfl
theorem q_impl_areAll_string__1 (x0 : List UInt8) (x1 : FnVal) : @Eq _ (c_impl_areAll_string__1 (bodyK EE R L) x0 x1) ((callVB EE R x1 [⟨.str, (x0 : List UInt8)⟩]).bind fun (r0 : Bool) =>
 some (!r0, ())) := by kernel_rfl
theorem q_slices_IndexFunc___string_string_ (x0 : List (List UInt8)) (x1 : FnVal) : @Eq _ (c_slices_IndexFunc___string_string_ (bodyK EE R L) x0 x1) (lp_slices_IndexFunc___string_string__0 R L x0 x1 0 (x0.length : Int) 0) := by kernel_rfl
theorem q_slices_IndexFunc___string_string__0 (v0 : List (List UInt8)) (v1 : FnVal) (v4 v7 v8 : Int) : @Eq _ (lp_slices_IndexFunc___string_string__0 R L v0 v1 v4 v7 v8 ([1, 0, 1, 0] ++ [0])) (cond (decide (v8 < v7))
 (cond (nonneg v8)
 (cond (Nat.blt v8.toNat v0.length)
 ((callVB EE R v1 [⟨.str, (v0.getD v8.toNat [] : List UInt8)⟩]).bind fun (r0 : Bool) =>
 cond r0
 (some (v8, ()))
 (lp_slices_IndexFunc___string_string__1 R L v0 v1 v4 v8 v7 (IntKind.wrap .i64 (v8 + 1))))
 none)
 none)
 (some (-1, ()))) := by kernel_rfl
theorem q_slices_IndexFunc___string_string__1 (v0 : List (List UInt8)) (v1 : FnVal) (v4 v5 v7 v8 : Int) : @Eq _ (lp_slices_IndexFunc___string_string__1 R L v0 v1 v4 v5 v7 v8 ([1, 0, 1, 0] ++ [0])) (cond (decide (v8 < v7))
 (cond (nonneg v8)
 (cond (Nat.blt v8.toNat v0.length)
 ((callVB EE R v1 [⟨.str, (v0.getD v8.toNat [] : List UInt8)⟩]).bind fun (r0 : Bool) =>
 cond r0
 (some (v8, ()))
 (lp_slices_IndexFunc___string_string__1 R L v0 v1 v4 v8 v7 (IntKind.wrap .i64 (v8 + 1))))
 none)
 none)
 (some (-1, ()))) := by kernel_rfl
theorem q_slices_ContainsFunc___string_string_ (x0 : List (List UInt8)) (x1 : FnVal) : @Eq _ (c_slices_ContainsFunc___string_string_ (bodyK EE R L) x0 x1) ((c_slices_IndexFunc___string_string_ R x0 x1).bind fun r0 =>
 some (decide (0 ≤ r0.1), ())) := by kernel_rfl
theorem q_impl_areAll_string_ (x0 : List (List UInt8)) (x1 : FnVal) : @Eq _ (c_impl_areAll_string_ (bodyK EE R L) x0 x1) ((c_slices_ContainsFunc___string_string_ R x0 (FnVal.mk (254 : Nat) (FCaps.fn x1 FCaps.nil))).bind fun r0 =>
 some (!r0.1, ())) := by kernel_rfl
theorem q_impl_isContent (x0 : List UInt8) : @Eq _ (c_impl_isContent (bodyK EE R L) x0) (some (decide ((x0.length : Int) ≤ 700), ())) := by kernel_rfl
theorem q_impl_areAll_impl_Io__1 (x0 : d60) (x1 : FnVal) : @Eq _ (c_impl_areAll_impl_Io__1 (bodyK EE R L) x0 x1) ((callVB EE R x1 [⟨t24, (x0 : d60)⟩]).bind fun (r0 : Bool) =>
 some (!r0, ())) := by kernel_rfl
theorem q_slices_IndexFunc___impl_Io_impl_Io_ (x0 : List d60) (x1 : FnVal) : @Eq _ (c_slices_IndexFunc___impl_Io_impl_Io_ (bodyK EE R L) x0 x1) (lp_slices_IndexFunc___impl_Io_impl_Io__0 R L x0 x1 0 (x0.length : Int) 0) := by kernel_rfl
theorem q_slices_IndexFunc___impl_Io_impl_Io__0 (v0 : List d60) (v1 : FnVal) (v4 v7 v8 : Int) : @Eq _ (lp_slices_IndexFunc___impl_Io_impl_Io__0 R L v0 v1 v4 v7 v8 ([1, 0, 1, 0] ++ [0])) (cond (decide (v8 < v7))
 (cond (nonneg v8)
 (cond (Nat.blt v8.toNat v0.length)
 ((callVB EE R v1 [⟨t24, (v0.getD v8.toNat (0, ([], ())) : d60)⟩]).bind fun (r0 : Bool) =>
 cond r0
 (some (v8, ()))
 (lp_slices_IndexFunc___impl_Io_impl_Io__1 R L v0 v1 v4 v8 v7 (IntKind.wrap .i64 (v8 + 1))))
 none)
 none)
 (some (-1, ()))) := by kernel_rfl
theorem q_slices_IndexFunc___impl_Io_impl_Io__1 (v0 : List d60) (v1 : FnVal) (v4 v5 v7 v8 : Int) : @Eq _ (lp_slices_IndexFunc___impl_Io_impl_Io__1 R L v0 v1 v4 v5 v7 v8 ([1, 0, 1, 0] ++ [0])) (cond (decide (v8 < v7))
 (cond (nonneg v8)
 (cond (Nat.blt v8.toNat v0.length)
 ((callVB EE R v1 [⟨t24, (v0.getD v8.toNat (0, ([], ())) : d60)⟩]).bind fun (r0 : Bool) =>
 cond r0
 (some (v8, ()))
 (lp_slices_IndexFunc___impl_Io_impl_Io__1 R L v0 v1 v4 v8 v7 (IntKind.wrap .i64 (v8 + 1))))
 none)
 none)
 (some (-1, ()))) := by kernel_rfl
theorem q_slices_ContainsFunc___impl_Io_impl_Io_ (x0 : List d60) (x1 : FnVal) : @Eq _ (c_slices_ContainsFunc___impl_Io_impl_Io_ (bodyK EE R L) x0 x1) ((c_slices_IndexFunc___impl_Io_impl_Io_ R x0 x1).bind fun r0 =>
 some (decide (0 ≤ r0.1), ())) := by kernel_rfl
theorem q_impl_areAll_impl_Io_ (x0 : List d60) (x1 : FnVal) : @Eq _ (c_impl_areAll_impl_Io_ (bodyK EE R L) x0 x1) ((c_slices_ContainsFunc___impl_Io_impl_Io_ R x0 (FnVal.mk (331 : Nat) (FCaps.fn x1 FCaps.nil))).bind fun r0 =>
 some (!r0.1, ())) := by kernel_rfl
theorem q_impl_isSector (x0 : Int) : @Eq _ (c_impl_isSector (bodyK EE R L) x0) ((c_impl_within R x0 0 39).bind fun r0 =>
 some (r0.1, ())) := by kernel_rfl
theorem q_impl_DeviceOK_1 (x0 : d60) : @Eq _ (c_impl_DeviceOK_1 (bodyK EE R L) x0) ((c_impl_isSector R x0.1).bind fun r0 =>
 cond r0.1
 ((c_impl_isContent R x0.2.1).bind fun r1 =>
 some (r1.1, ()))
 (some (false, ()))) := by kernel_rfl
theorem q_impl_DeviceOK (x0 : d61) : @Eq _ (c_impl_DeviceOK (bodyK EE R L) x0) (cond (eqI (x0.1.length : Int) 40)
 ((c_impl_areAll_string_ R x0.1 (FnVal.mk (285 : Nat) FCaps.nil)).bind fun r0 =>
 cond r0.1
 (cond (decide ((x0.2.1.length : Int) ≤ 60))
 ((c_impl_areAll_impl_Io_ R x0.2.1 (FnVal.mk (287 : Nat) FCaps.nil)).bind fun r1 =>
 some (r1.1, ()))
 (some (false, ())))
 (some (false, ())))
 (some (false, ()))) := by kernel_rfl
theorem q_impl_isSure (x0 : d61) : @Eq _ (c_impl_isSure (bodyK EE R L) x0) ((c_impl_DeviceOK R x0).bind fun r0 =>
 cond r0.1
 (some (eqI (x0.2.1.length : Int) 0, ()))
 (some (false, ()))) := by kernel_rfl
theorem q_impl_StoreOK (x0 : d62) : @Eq _ (c_impl_StoreOK (bodyK EE R L) x0) (cond (eqI (x0.1.length : Int) 32)
 ((c_impl_RegisterOK R x0.2.1).bind fun r0 =>
 cond r0.1
 ((c_impl_isSure R x0.2.2.1).bind fun r1 =>
 cond r1.1
 (cond x0.2.2.2.1
 (some (!x0.2.2.2.2.1, ()))
 (some (!false, ())))
 (some (false, ())))
 (some (false, ())))
 (some (false, ()))) := by kernel_rfl
theorem q_impl_areAll_impl_Txn__1 (x0 : d54) (x1 : FnVal) : @Eq _ (c_impl_areAll_impl_Txn__1 (bodyK EE R L) x0 x1) ((callVB EE R x1 [⟨t4, (x0 : d54)⟩]).bind fun (r0 : Bool) =>
 some (!r0, ())) := by kernel_rfl
theorem q_slices_IndexFunc___impl_Txn_impl_Txn_ (x0 : List d54) (x1 : FnVal) : @Eq _ (c_slices_IndexFunc___impl_Txn_impl_Txn_ (bodyK EE R L) x0 x1) (lp_slices_IndexFunc___impl_Txn_impl_Txn__0 R L x0 x1 0 (x0.length : Int) 0) := by kernel_rfl
theorem q_slices_IndexFunc___impl_Txn_impl_Txn__0 (v0 : List d54) (v1 : FnVal) (v4 v7 v8 : Int) : @Eq _ (lp_slices_IndexFunc___impl_Txn_impl_Txn__0 R L v0 v1 v4 v7 v8 ([1, 0, 1, 0] ++ [0])) (cond (decide (v8 < v7))
 (cond (nonneg v8)
 (cond (Nat.blt v8.toNat v0.length)
 ((callVB EE R v1 [⟨t4, (v0.getD v8.toNat ([], ()) : d54)⟩]).bind fun (r0 : Bool) =>
 cond r0
 (some (v8, ()))
 (lp_slices_IndexFunc___impl_Txn_impl_Txn__1 R L v0 v1 v4 v8 v7 (IntKind.wrap .i64 (v8 + 1))))
 none)
 none)
 (some (-1, ()))) := by kernel_rfl
theorem q_slices_IndexFunc___impl_Txn_impl_Txn__1 (v0 : List d54) (v1 : FnVal) (v4 v5 v7 v8 : Int) : @Eq _ (lp_slices_IndexFunc___impl_Txn_impl_Txn__1 R L v0 v1 v4 v5 v7 v8 ([1, 0, 1, 0] ++ [0])) (cond (decide (v8 < v7))
 (cond (nonneg v8)
 (cond (Nat.blt v8.toNat v0.length)
 ((callVB EE R v1 [⟨t4, (v0.getD v8.toNat ([], ()) : d54)⟩]).bind fun (r0 : Bool) =>
 cond r0
 (some (v8, ()))
 (lp_slices_IndexFunc___impl_Txn_impl_Txn__1 R L v0 v1 v4 v8 v7 (IntKind.wrap .i64 (v8 + 1))))
 none)
 none)
 (some (-1, ()))) := by kernel_rfl
theorem q_slices_ContainsFunc___impl_Txn_impl_Txn_ (x0 : List d54) (x1 : FnVal) : @Eq _ (c_slices_ContainsFunc___impl_Txn_impl_Txn_ (bodyK EE R L) x0 x1) ((c_slices_IndexFunc___impl_Txn_impl_Txn_ R x0 x1).bind fun r0 =>
 some (decide (0 ≤ r0.1), ())) := by kernel_rfl
theorem q_impl_areAll_impl_Txn_ (x0 : List d54) (x1 : FnVal) : @Eq _ (c_impl_areAll_impl_Txn_ (bodyK EE R L) x0 x1) ((c_slices_ContainsFunc___impl_Txn_impl_Txn_ R x0 (FnVal.mk (270 : Nat) (FCaps.fn x1 FCaps.nil))).bind fun r0 =>
 some (!r0.1, ())) := by kernel_rfl
theorem q_impl_areAll_impl_Op__1 (x0 : d53) (x1 : FnVal) : @Eq _ (c_impl_areAll_impl_Op__1 (bodyK EE R L) x0 x1) ((callVB EE R x1 [⟨t3, (x0 : d53)⟩]).bind fun (r0 : Bool) =>
 some (!r0, ())) := by kernel_rfl
theorem q_slices_IndexFunc___impl_Op_impl_Op_ (x0 : List d53) (x1 : FnVal) : @Eq _ (c_slices_IndexFunc___impl_Op_impl_Op_ (bodyK EE R L) x0 x1) (lp_slices_IndexFunc___impl_Op_impl_Op__0 R L x0 x1 0 (x0.length : Int) 0) := by kernel_rfl
theorem q_slices_IndexFunc___impl_Op_impl_Op__0 (v0 : List d53) (v1 : FnVal) (v4 v7 v8 : Int) : @Eq _ (lp_slices_IndexFunc___impl_Op_impl_Op__0 R L v0 v1 v4 v7 v8 ([1, 0, 1, 0] ++ [0])) (cond (decide (v8 < v7))
 (cond (nonneg v8)
 (cond (Nat.blt v8.toNat v0.length)
 ((callVB EE R v1 [⟨t3, (v0.getD v8.toNat (0, (0, (0, ()))) : d53)⟩]).bind fun (r0 : Bool) =>
 cond r0
 (some (v8, ()))
 (lp_slices_IndexFunc___impl_Op_impl_Op__1 R L v0 v1 v4 v8 v7 (IntKind.wrap .i64 (v8 + 1))))
 none)
 none)
 (some (-1, ()))) := by kernel_rfl
theorem q_slices_IndexFunc___impl_Op_impl_Op__1 (v0 : List d53) (v1 : FnVal) (v4 v5 v7 v8 : Int) : @Eq _ (lp_slices_IndexFunc___impl_Op_impl_Op__1 R L v0 v1 v4 v5 v7 v8 ([1, 0, 1, 0] ++ [0])) (cond (decide (v8 < v7))
 (cond (nonneg v8)
 (cond (Nat.blt v8.toNat v0.length)
 ((callVB EE R v1 [⟨t3, (v0.getD v8.toNat (0, (0, (0, ()))) : d53)⟩]).bind fun (r0 : Bool) =>
 cond r0
 (some (v8, ()))
 (lp_slices_IndexFunc___impl_Op_impl_Op__1 R L v0 v1 v4 v8 v7 (IntKind.wrap .i64 (v8 + 1))))
 none)
 none)
 (some (-1, ()))) := by kernel_rfl
theorem q_slices_ContainsFunc___impl_Op_impl_Op_ (x0 : List d53) (x1 : FnVal) : @Eq _ (c_slices_ContainsFunc___impl_Op_impl_Op_ (bodyK EE R L) x0 x1) ((c_slices_IndexFunc___impl_Op_impl_Op_ R x0 x1).bind fun r0 =>
 some (decide (0 ≤ r0.1), ())) := by kernel_rfl
theorem q_impl_areAll_impl_Op_ (x0 : List d53) (x1 : FnVal) : @Eq _ (c_impl_areAll_impl_Op_ (bodyK EE R L) x0 x1) ((c_slices_ContainsFunc___impl_Op_impl_Op_ R x0 (FnVal.mk (318 : Nat) (FCaps.fn x1 FCaps.nil))).bind fun r0 =>
 some (!r0.1, ())) := by kernel_rfl
theorem q_impl_isKey (x0 : Int) : @Eq _ (c_impl_isKey (bodyK EE R L) x0) ((c_impl_within R x0 1 9999).bind fun r0 =>
 some (r0.1, ())) := by kernel_rfl
theorem q_impl_isBare (x0 : Int) : @Eq _ (c_impl_isBare (bodyK EE R L) x0) (cond (eqI x0 1)
 (some (true, ()))
 (some (eqI x0 3, ()))) := by kernel_rfl
theorem q_impl_isValue (x0 : Int) : @Eq _ (c_impl_isValue (bodyK EE R L) x0) ((c_impl_within R x0 0 999999).bind fun r0 =>
 some (r0.1, ())) := by kernel_rfl
theorem q_impl_OpOK (x0 : d53) : @Eq _ (c_impl_OpOK (bodyK EE R L) x0) ((c_impl_within R x0.1 1 6).bind fun r0 =>
 cond (!r0.1)
 (some (false, ()))
 ((c_impl_isKey R x0.2.1).bind fun r1 =>
 cond (!r1.1)
 (some (false, ()))
 ((c_impl_isBare R x0.1).bind fun r2 =>
 cond r2.1
 (some (eqI x0.2.2.1 0, ()))
 (cond (eqI x0.1 6)
 ((c_impl_within R x0.2.2.1 1 4).bind fun r3 =>
 some (r3.1, ()))
 ((c_impl_isValue R x0.2.2.1).bind fun r3 =>
 some (r3.1, ())))))) := by kernel_rfl
theorem q_impl_isTxn (x0 : d54) : @Eq _ (c_impl_isTxn (bodyK EE R L) x0) ((c_impl_within R (x0.1.length : Int) 1 4).bind fun r0 =>
 cond r0.1
 ((c_impl_areAll_impl_Op_ R x0.1 (FnVal.mk (272 : Nat) FCaps.nil)).bind fun r1 =>
 some (r1.1, ()))
 (some (false, ()))) := by kernel_rfl
theorem q_impl_BatchOK (x0 : List d54) : @Eq _ (c_impl_BatchOK (bodyK EE R L) x0) ((c_impl_within R (x0.length : Int) 1 2).bind fun r0 =>
 cond r0.1
 ((c_impl_areAll_impl_Txn_ R x0 (FnVal.mk (207 : Nat) FCaps.nil)).bind fun r1 =>
 some (r1.1, ()))
 (some (false, ()))) := by kernel_rfl
theorem q_impl_submitCode (x0 : d62) (x1 : List d54) (x2 : List Int) : @Eq _ (c_impl_submitCode (bodyK EE R L) x0 x1 x2) (cond (decide (4096 < (x1.length : Int)))
 (some (2, ()))
 (cond (decide (4096 < (x2.length : Int)))
 (some (2, ()))
 ((c_impl_drawsCode R x2 40).bind fun r0 =>
 cond (!(eqI r0.1 0))
 (some (r0.1, ()))
 ((c_impl_StoreOK R x0).bind fun r1 =>
 cond (!r1.1)
 (some (1, ()))
 ((c_impl_BatchOK R x1).bind fun r2 =>
 cond (!r2.1)
 (some (1, ()))
 (some (0, ()))))))) := by kernel_rfl
theorem q_impl_Store_upCode (x0 : d62) : @Eq _ (c_impl_Store_upCode (bodyK EE R L) x0) (cond x0.2.2.2.2.1
 (some (18, ()))
 (cond (!x0.2.2.2.1)
 (some (16, ()))
 (some (0, ())))) := by kernel_rfl
theorem q_impl_entrySector (x0 : Int) : @Eq _ (c_impl_entrySector (bodyK EE R L) x0) (some (IntKind.wrap .i64 (32 + (Int.tmod x0 8)), ())) := by kernel_rfl
theorem q_impl_logEpoch (x0 x1 : Int) : @Eq _ (c_impl_logEpoch (bodyK EE R L) x0 x1) (some (IntKind.wrap .i64 (x0 + (IntKind.wrap .i64 (1048576 * x1))), ())) := by kernel_rfl
theorem q_impl_nonceOf (x0 x1 x2 : Int) : @Eq _ (c_impl_nonceOf (bodyK EE R L) x0 x1 x2) ((c_impl_little R x0 1).bind fun r0 =>
 (c_impl_little R x1 2).bind fun r1 =>
 cond (lenOK (r0.1.length + r1.1.length))
 ((c_impl_little R 0 1).bind fun r2 =>
 cond (lenOK ((r0.1 ++ r1.1).length + r2.1.length))
 ((c_impl_little R x2 8).bind fun r3 =>
 cond (lenOK (((r0.1 ++ r1.1) ++ r2.1).length + r3.1.length))
 (some (((r0.1 ++ r1.1) ++ r2.1) ++ r3.1, ()))
 none)
 none)
 none) := by kernel_rfl
theorem q_impl_padded (x0 : List UInt8) : @Eq _ (c_impl_padded (bodyK EE R L) x0) ((c_strings_Repeat R [0] (Int.tmod (IntKind.wrap .i64 (16 - (Int.tmod (x0.length : Int) 16))) 16)).bind fun r0 =>
 cond (lenOK (x0.length + r0.1.length))
 (some (x0 ++ r0.1, ()))
 none) := by kernel_rfl
theorem q_impl_clamped (x0 : List UInt8) : @Eq _ (c_impl_clamped (bodyK EE R L) x0) (cond (Nat.ble (16 : Int).toNat x0.length)
 (lp_impl_clamped_0 R L (List.map (fun (b : UInt8) => (UInt8.toNat b : Int)) (List.drop 0 (List.take (16 : Int).toNat x0))) 3)
 none) := by kernel_rfl
theorem q_impl_clamped_0 (v3 : List Int) (v4 : Int) : @Eq _ (lp_impl_clamped_0 R L v3 v4 ([1, 1, 0, 1, 0] ++ [0])) (cond (decide (v4 < 16))
 (cond (nonneg v4)
 (cond (Nat.blt v4.toNat v3.length)
 (cond (nonneg v4)
 (cond (Nat.blt v4.toNat v3.length)
 (lp_impl_clamped_0 R L (v3.set v4.toNat (bitI .and .u8 (v3.getD v4.toNat 0) 15)) (IntKind.wrap .i64 (v4 + 4)))
 none)
 none)
 none)
 none)
 (lp_impl_clamped_1 R L v3 4)) := by kernel_rfl
theorem q_impl_clamped_1 (v3 : List Int) (v5 : Int) : @Eq _ (lp_impl_clamped_1 R L v3 v5 ([1, 1, 1, 0, 1, 0] ++ [0])) (cond (decide (v5 < 16))
 (cond (nonneg v5)
 (cond (Nat.blt v5.toNat v3.length)
 (cond (nonneg v5)
 (cond (Nat.blt v5.toNat v3.length)
 (lp_impl_clamped_1 R L (v3.set v5.toNat (bitI .and .u8 (v3.getD v5.toNat 0) 252)) (IntKind.wrap .i64 (v5 + 4)))
 none)
 none)
 none)
 none)
 (some (List.map (fun (n : Int) => UInt8.ofNat n.toNat) v3, ()))) := by kernel_rfl
theorem q_impl_limbsOf (x0 : List UInt8) : @Eq _ (c_impl_limbsOf (bodyK EE R L) x0) (lp_impl_limbsOf_0 R L (List.replicate 5 0) (List.replicate 5 0) (List.map (fun (b : UInt8) => (UInt8.toNat b : Int)) x0) ((List.map (fun (b : UInt8) => (UInt8.toNat b : Int)) x0).length : Int) 0) := by kernel_rfl
theorem q_impl_limbsOf_0 (v2 v3 v9 : List Int) (v10 v11 : Int) : @Eq _ (lp_impl_limbsOf_0 R L v2 v3 v9 v10 v11 ([1, 1, 0, 1, 0] ++ [0])) (cond (decide (v11 < v10))
 (cond (nonneg v11)
 (cond (Nat.blt v11.toNat v9.length)
 (lp_impl_limbsOf_1 R L v2 v3 v11 (v9.getD v11.toNat 0) v9 v10 v11 0)
 none)
 none)
 (some (v3, ()))) := by kernel_rfl
theorem q_impl_limbsOf_1 (v2 v3 : List Int) (v4 v5 : Int) (v9 : List Int) (v10 v11 v16 : Int) : @Eq _ (lp_impl_limbsOf_1 R L v2 v3 v4 v5 v9 v10 v11 v16 ([1, 1, 0, 1, 0, 0, 1, 1, 0, 0, 1, 1, 0] ++ [0])) (cond (decide (v16 < 8))
 (cond (decide (v16 < 0))
 none
 (cond (eqI (bitI .and .u8 (Int.fdiv v5 (2 ^ (Min.min v16.toNat (IntKind.bits .u8)))) 1) 1)
 (cond (nonneg (IntKind.wrap .i64 (Int.tdiv (IntKind.wrap .i64 ((IntKind.wrap .i64 (8 * v4)) + v16)) 26)))
 (cond (Nat.blt (IntKind.wrap .i64 (Int.tdiv (IntKind.wrap .i64 ((IntKind.wrap .i64 (8 * v4)) + v16)) 26)).toNat 5)
 (cond (decide ((Int.tmod (IntKind.wrap .i64 ((IntKind.wrap .i64 (8 * v4)) + v16)) 26) < 0))
 none
 (cond (nonneg (IntKind.wrap .i64 (Int.tdiv (IntKind.wrap .i64 ((IntKind.wrap .i64 (8 * v4)) + v16)) 26)))
 (cond (Nat.blt (IntKind.wrap .i64 (Int.tdiv (IntKind.wrap .i64 ((IntKind.wrap .i64 (8 * v4)) + v16)) 26)).toNat 5)
 (lp_impl_limbsOf_1 R L v2 (v3.set (IntKind.wrap .i64 (Int.tdiv (IntKind.wrap .i64 ((IntKind.wrap .i64 (8 * v4)) + v16)) 26)).toNat (bitI .or .u64 (v3.getD (IntKind.wrap .i64 (Int.tdiv (IntKind.wrap .i64 ((IntKind.wrap .i64 (8 * v4)) + v16)) 26)).toNat 0) (IntKind.wrap .u64 (1 * (2 ^ (Min.min (Int.tmod (IntKind.wrap .i64 ((IntKind.wrap .i64 (8 * v4)) + v16)) 26).toNat (IntKind.bits .u64))))))) v4 v5 v9 v10 v11 (IntKind.wrap .i64 (v16 + 1)))
 none)
 none))
 none)
 none)
 (lp_impl_limbsOf_1 R L v2 v3 v4 v5 v9 v10 v11 (IntKind.wrap .i64 (v16 + 1)))))
 (lp_impl_limbsOf_0 R L v2 v3 v9 v10 (IntKind.wrap .i64 (v11 + 1)))) := by kernel_rfl
theorem q_impl_limbs_carried (x0 : List Int) : @Eq _ (c_impl_limbs_carried (bodyK EE R L) x0) (lp_impl_limbs_carried_0 R L x0 (List.replicate 5 0) 0) := by kernel_rfl
theorem q_impl_limbs_carried_0 (v1 v2 : List Int) (v5 : Int) : @Eq _ (lp_impl_limbs_carried_0 R L v1 v2 v5 ([1, 0, 1, 0] ++ [0])) (cond (decide (v5 < 3))
 (lp_impl_limbs_carried_1 R L v1 v2 0 v5 0)
 (some (v1, ()))) := by kernel_rfl
theorem q_impl_limbs_carried_1 (v1 v2 : List Int) (v3 v5 v7 : Int) : @Eq _ (lp_impl_limbs_carried_1 R L v1 v2 v3 v5 v7 ([1, 0, 1, 0, 0, 1, 1, 0, 0, 1, 0, 1, 0] ++ [0])) (cond (decide (v7 < 5))
 (cond (nonneg v7)
 (cond (Nat.blt v7.toNat 5)
 (cond (nonneg v7)
 (cond (Nat.blt v7.toNat 5)
 (cond (nonneg v7)
 (cond (Nat.blt v7.toNat 5)
 (cond (nonneg v7)
 (cond (Nat.blt v7.toNat 5)
 (cond (nonneg v7)
 (cond (Nat.blt v7.toNat 5)
 (lp_impl_limbs_carried_1 R L ((v1.set v7.toNat (IntKind.wrap .u64 ((v1.getD v7.toNat 0) + v3))).set v7.toNat (bitI .and .u64 ((v1.set v7.toNat (IntKind.wrap .u64 ((v1.getD v7.toNat 0) + v3))).getD v7.toNat 0) 67108863)) v2 (Int.fdiv ((v1.set v7.toNat (IntKind.wrap .u64 ((v1.getD v7.toNat 0) + v3))).getD v7.toNat 0) (2 ^ (Min.min (26 : Int).toNat (IntKind.bits .u64)))) v5 (IntKind.wrap .i64 (v7 + 1)))
 none)
 none)
 none)
 none)
 none)
 none)
 none)
 none)
 none)
 none)
 (lp_impl_limbs_carried_0 R L (v1.set (0 : Int).toNat (IntKind.wrap .u64 ((v1.getD (0 : Int).toNat 0) + (IntKind.wrap .u64 (5 * v3))))) v2 (IntKind.wrap .i64 (v5 + 1)))) := by kernel_rfl
theorem q_impl_limbs_plus (x0 x1 : List Int) : @Eq _ (c_impl_limbs_plus (bodyK EE R L) x0 x1) (lp_impl_limbs_plus_0 R L x0 x1 (List.replicate 5 0) 0) := by kernel_rfl
theorem q_impl_limbs_plus_0 (v2 v3 v4 : List Int) (v6 : Int) : @Eq _ (lp_impl_limbs_plus_0 R L v2 v3 v4 v6 ([1, 0, 1, 0] ++ [0])) (cond (decide (v6 < 5))
 (cond (nonneg v6)
 (cond (Nat.blt v6.toNat 5)
 (cond (nonneg v6)
 (cond (Nat.blt v6.toNat 5)
 (cond (nonneg v6)
 (cond (Nat.blt v6.toNat 5)
 (lp_impl_limbs_plus_0 R L (v2.set v6.toNat (IntKind.wrap .u64 ((v2.getD v6.toNat 0) + (v3.getD v6.toNat 0)))) v3 v4 (IntKind.wrap .i64 (v6 + 1)))
 none)
 none)
 none)
 none)
 none)
 none)
 ((c_impl_limbs_carried R v2).bind fun r0 =>
 some (r0.1, ()))) := by kernel_rfl
theorem q_impl_limbs_times (x0 x1 : List Int) : @Eq _ (c_impl_limbs_times (bodyK EE R L) x0 x1) (lp_impl_limbs_times_0 R L x1 (List.replicate 5 0) (List.replicate 5 0) x0 0) := by kernel_rfl
theorem q_impl_limbs_times_0 (v3 v4 v5 v10 : List Int) (v11 : Int) : @Eq _ (lp_impl_limbs_times_0 R L v3 v4 v5 v10 v11 ([1, 1, 0, 1, 0] ++ [0])) (cond (decide (v11 < 5))
 (cond (nonneg v11)
 (cond (Nat.blt v11.toNat 5)
 (lp_impl_limbs_times_1 R L v3 v4 v5 v11 (v10.getD v11.toNat 0) v10 v11 v3 0)
 none)
 none)
 ((c_impl_limbs_carried R v5).bind fun r0 =>
 some (r0.1, ()))) := by kernel_rfl
theorem q_impl_limbs_times_1 (v3 v4 v5 : List Int) (v6 v7 : Int) (v10 : List Int) (v11 : Int) (v15 : List Int) (v16 : Int) : @Eq _ (lp_impl_limbs_times_1 R L v3 v4 v5 v6 v7 v10 v11 v15 v16 ([1, 1, 0, 1, 0, 0, 1, 1, 0, 0, 1, 1, 0] ++ [0])) (cond (decide (v16 < 5))
 (cond (nonneg v16)
 (cond (Nat.blt v16.toNat 5)
 (cond (decide ((IntKind.wrap .i64 (v6 + v16)) < 5))
 (cond (nonneg (IntKind.wrap .i64 (v6 + v16)))
 (cond (Nat.blt (IntKind.wrap .i64 (v6 + v16)).toNat 5)
 (cond (nonneg (IntKind.wrap .i64 (v6 + v16)))
 (cond (Nat.blt (IntKind.wrap .i64 (v6 + v16)).toNat 5)
 (lp_impl_limbs_times_1 R L v3 v4 (v5.set (IntKind.wrap .i64 (v6 + v16)).toNat (IntKind.wrap .u64 ((v5.getD (IntKind.wrap .i64 (v6 + v16)).toNat 0) + (IntKind.wrap .u64 (v7 * (v15.getD v16.toNat 0)))))) v6 v7 v10 v11 v15 (IntKind.wrap .i64 (v16 + 1)))
 none)
 none)
 none)
 none)
 (cond (nonneg (IntKind.wrap .i64 ((IntKind.wrap .i64 (v6 + v16)) - 5)))
 (cond (Nat.blt (IntKind.wrap .i64 ((IntKind.wrap .i64 (v6 + v16)) - 5)).toNat 5)
 (cond (nonneg (IntKind.wrap .i64 ((IntKind.wrap .i64 (v6 + v16)) - 5)))
 (cond (Nat.blt (IntKind.wrap .i64 ((IntKind.wrap .i64 (v6 + v16)) - 5)).toNat 5)
 (lp_impl_limbs_times_1 R L v3 v4 (v5.set (IntKind.wrap .i64 ((IntKind.wrap .i64 (v6 + v16)) - 5)).toNat (IntKind.wrap .u64 ((v5.getD (IntKind.wrap .i64 ((IntKind.wrap .i64 (v6 + v16)) - 5)).toNat 0) + (IntKind.wrap .u64 ((IntKind.wrap .u64 (5 * v7)) * (v15.getD v16.toNat 0)))))) v6 v7 v10 v11 v15 (IntKind.wrap .i64 (v16 + 1)))
 none)
 none)
 none)
 none))
 none)
 none)
 (lp_impl_limbs_times_0 R L v3 v4 v5 v10 (IntKind.wrap .i64 (v11 + 1)))) := by kernel_rfl
theorem q_impl_limbs_reduced (x0 : List Int) : @Eq _ (c_impl_limbs_reduced (bodyK EE R L) x0) ((c_impl_limbs_carried R x0).bind fun r0 =>
 lp_impl_limbs_reduced_0 R L r0.1 (List.replicate 5 0) [67108859, 67108863, 67108863, 67108863, 67108863] 4) := by kernel_rfl
theorem q_impl_limbs_reduced_0 (v1 v2 v3 : List Int) (v4 : Int) : @Eq _ (lp_impl_limbs_reduced_0 R L v1 v2 v3 v4 ([1, 1, 1, 0, 1, 0] ++ [0])) (cond (decide (0 ≤ v4))
 (cond (nonneg v4)
 (cond (Nat.blt v4.toNat 5)
 (cond (nonneg v4)
 (cond (Nat.blt v4.toNat 5)
 (cond (!(eqI (v1.getD v4.toNat 0) (v3.getD v4.toNat 0)))
 (cond (nonneg v4)
 (cond (Nat.blt v4.toNat 5)
 (cond (nonneg v4)
 (cond (Nat.blt v4.toNat 5)
 (cond (decide ((v1.getD v4.toNat 0) < (v3.getD v4.toNat 0)))
 (some (v1, ()))
 (lp_impl_limbs_reduced_1 R L v1 v2 v3 0))
 none)
 none)
 none)
 none)
 (lp_impl_limbs_reduced_0 R L v1 v2 v3 (IntKind.wrap .i64 (v4 - 1))))
 none)
 none)
 none)
 none)
 (lp_impl_limbs_reduced_1 R L v1 v2 v3 0)) := by kernel_rfl
theorem q_impl_limbs_reduced_1 (v1 v2 v3 : List Int) (v28 : Int) : @Eq _ (lp_impl_limbs_reduced_1 R L v1 v2 v3 v28 ([1, 1, 1, 1, 0, 1, 0] ++ [0])) (cond (decide (v28 < 5))
 (cond (nonneg v28)
 (cond (Nat.blt v28.toNat 5)
 (cond (nonneg v28)
 (cond (Nat.blt v28.toNat 5)
 (cond (nonneg v28)
 (cond (Nat.blt v28.toNat 5)
 (lp_impl_limbs_reduced_1 R L (v1.set v28.toNat (IntKind.wrap .u64 ((v1.getD v28.toNat 0) - (v3.getD v28.toNat 0)))) v2 v3 (IntKind.wrap .i64 (v28 + 1)))
 none)
 none)
 none)
 none)
 none)
 none)
 (some (v1, ()))) := by kernel_rfl
theorem q_impl_limbs_bytes (x0 : List Int) (x1 : List UInt8) : @Eq _ (c_impl_limbs_bytes (bodyK EE R L) x0 x1) (lp_impl_limbs_bytes_0 R L x1 x0 (List.replicate (16 : Int).toNat 0) 0 ((List.replicate (16 : Int).toNat (0 : Int)).length : Int) 0) := by kernel_rfl
theorem q_impl_limbs_bytes_0 (v1 : List UInt8) (v2 v5 : List Int) (v6 v13 v14 : Int) : @Eq _ (lp_impl_limbs_bytes_0 R L v1 v2 v5 v6 v13 v14 ([1, 1, 1, 0, 1, 0] ++ [0])) (cond (decide (v14 < v13))
 (lp_impl_limbs_bytes_1 R L v1 v2 v5 v6 v14 0 v13 v14 0)
 (some (List.map (fun (n : Int) => UInt8.ofNat n.toNat) v5, ()))) := by kernel_rfl
theorem q_impl_limbs_bytes_1 (v1 : List UInt8) (v2 v5 : List Int) (v6 v7 v8 v13 v14 v17 : Int) : @Eq _ (lp_impl_limbs_bytes_1 R L v1 v2 v5 v6 v7 v8 v13 v14 v17 ([1, 1, 1, 0, 1, 0, 0, 1, 1, 0, 0, 1, 1, 0, 1, 0] ++ [0])) (cond (decide (v17 < 8))
 (cond (nonneg (IntKind.wrap .i64 (Int.tdiv (IntKind.wrap .i64 ((IntKind.wrap .i64 (8 * v7)) + v17)) 26)))
 (cond (Nat.blt (IntKind.wrap .i64 (Int.tdiv (IntKind.wrap .i64 ((IntKind.wrap .i64 (8 * v7)) + v17)) 26)).toNat 5)
 (cond (decide ((Int.tmod (IntKind.wrap .i64 ((IntKind.wrap .i64 (8 * v7)) + v17)) 26) < 0))
 none
 (cond (decide (v17 < 0))
 none
 (lp_impl_limbs_bytes_1 R L v1 v2 v5 v6 v7 (bitI .or .i64 v8 (IntKind.wrap .i64 ((IntKind.wrap .i64 (bitI .and .u64 (Int.fdiv (v2.getD (IntKind.wrap .i64 (Int.tdiv (IntKind.wrap .i64 ((IntKind.wrap .i64 (8 * v7)) + v17)) 26)).toNat 0) (2 ^ (Min.min (Int.tmod (IntKind.wrap .i64 ((IntKind.wrap .i64 (8 * v7)) + v17)) 26).toNat (IntKind.bits .u64)))) 1)) * (2 ^ (Min.min v17.toNat (IntKind.bits .i64)))))) v13 v14 (IntKind.wrap .i64 (v17 + 1)))))
 none)
 none)
 (cond (nonneg v7)
 (cond (Nat.blt v7.toNat v1.length)
 (cond (nonneg v7)
 (cond (Nat.blt v7.toNat v5.length)
 (lp_impl_limbs_bytes_0 R L v1 v2 (v5.set v7.toNat (IntKind.wrap .u8 (IntKind.wrap .i64 (v6 + (IntKind.wrap .i64 (v8 + (IntKind.wrap .i64 (UInt8.toNat (v1.getD v7.toNat 0) : Int)))))))) (Int.fdiv (IntKind.wrap .i64 (v6 + (IntKind.wrap .i64 (v8 + (IntKind.wrap .i64 (UInt8.toNat (v1.getD v7.toNat 0) : Int)))))) (2 ^ (Min.min (8 : Int).toNat (IntKind.bits .i64)))) v13 (IntKind.wrap .i64 (v14 + 1)))
 none)
 none)
 none)
 none)) := by kernel_rfl
theorem q_impl_tag (x0 x1 : List UInt8) : @Eq _ (c_impl_tag (bodyK EE R L) x0 x1) ((c_impl_clamped R x0).bind fun r0 =>
 (c_impl_limbsOf R r0.1).bind fun r1 =>
 lp_impl_tag_0 R L x0 x1 (List.replicate 5 0) r1.1 0) := by kernel_rfl
theorem q_impl_tag_0 (v0 v1 : List UInt8) (v5 v6 : List Int) (v7 : Int) : @Eq _ (lp_impl_tag_0 R L v0 v1 v5 v6 v7 ([1, 1, 1, 0, 1, 0] ++ [0])) (cond (decide (v7 < (v1.length : Int)))
 (cond (nonneg (minI (IntKind.wrap .i64 (v7 + 16)) (v1.length : Int)))
 (cond (nonneg v7)
 (cond (Nat.ble (minI (IntKind.wrap .i64 (v7 + 16)) (v1.length : Int)).toNat v1.length)
 (cond (Nat.ble v7.toNat (minI (IntKind.wrap .i64 (v7 + 16)) (v1.length : Int)).toNat)
 (cond (lenOK ((List.drop v7.toNat (List.take (minI (IntKind.wrap .i64 (v7 + 16)) (v1.length : Int)).toNat v1)).length + ([(1 : UInt8)]).length))
 ((c_impl_limbsOf R ((List.drop v7.toNat (List.take (minI (IntKind.wrap .i64 (v7 + 16)) (v1.length : Int)).toNat v1)) ++ [1])).bind fun r0 =>
 (c_impl_limbs_plus R v5 r0.1).bind fun r1 =>
 (c_impl_limbs_times R r1.1 v6).bind fun r2 =>
 lp_impl_tag_0 R L v0 v1 r2.1 v6 (IntKind.wrap .i64 (v7 + 16)))
 none)
 none)
 none)
 none)
 none)
 ((c_impl_limbs_reduced R v5).bind fun r0 =>
 cond (Nat.ble v0.length v0.length)
 (cond (Nat.ble (16 : Int).toNat v0.length)
 ((c_impl_limbs_bytes R r0.1 (List.drop (16 : Int).toNat (List.take v0.length v0))).bind fun r1 =>
 some (r1.1, ()))
 none)
 none)) := by kernel_rfl
theorem q_impl_boxTag (x0 x1 x2 x3 : List UInt8) : @Eq _ (c_impl_boxTag (bodyK EE R L) x0 x1 x2 x3) ((c_impl_stream R x0 x1 0).bind fun r0 =>
 cond (Nat.ble (32 : Int).toNat r0.1.length)
 ((c_impl_padded R x2).bind fun r1 =>
 (c_impl_padded R x3).bind fun r2 =>
 cond (lenOK (r1.1.length + r2.1.length))
 ((c_impl_little R (x2.length : Int) 8).bind fun r3 =>
 cond (lenOK ((r1.1 ++ r2.1).length + r3.1.length))
 ((c_impl_little R (x3.length : Int) 8).bind fun r4 =>
 cond (lenOK (((r1.1 ++ r2.1) ++ r3.1).length + r4.1.length))
 ((c_impl_tag R (List.drop 0 (List.take (32 : Int).toNat r0.1)) (((r1.1 ++ r2.1) ++ r3.1) ++ r4.1)).bind fun r5 =>
 some (r5.1, ()))
 none)
 none)
 none)
 none) := by kernel_rfl
theorem q_impl_seal (x0 x1 x2 x3 : List UInt8) : @Eq _ (c_impl_seal (bodyK EE R L) x0 x1 x2 x3) ((c_impl_chaXor R x0 x1 1 x3).bind fun r0 =>
 (c_impl_boxTag R x0 x1 x2 r0.1).bind fun r1 =>
 cond (lenOK (r0.1.length + r1.1.length))
 (some (r0.1 ++ r1.1, ()))
 none) := by kernel_rfl
theorem q_impl_sealed (x0 : List UInt8) (x1 x2 x3 : Int) (x4 : List UInt8) : @Eq _ (c_impl_sealed (bodyK EE R L) x0 x1 x2 x3 x4) ((c_impl_nonceOf R x1 x2 x3).bind fun r0 =>
 (c_impl_seal R x0 r0.1 [98, 108, 111, 99, 107] x4).bind fun r1 =>
 some (r1.1, ())) := by kernel_rfl
theorem q_impl_chain (x0 x1 : List UInt8) : @Eq _ (c_impl_chain (bodyK EE R L) x0 x1) (cond (lenOK (([(2 : UInt8)]).length + x0.length))
 (cond (lenOK (([(2 : UInt8)] ++ x0).length + x1.length))
 ((c_impl_digest R (([2] ++ x0) ++ x1)).bind fun r0 =>
 some (r0.1, ()))
 none)
 none) := by kernel_rfl
theorem q_slices_Clone___string_string_ (x0 : List (List UInt8)) : @Eq _ (c_slices_Clone___string_string_ (bodyK EE R L) x0) (cond (Nat.beq x0.length 0)
 (agree
 (some ([], ()))
 (cond (lenOK (([] : List (List UInt8)).length + x0.length))
 (some ([] ++ x0, ()))
 none))
 (cond (lenOK (([] : List (List UInt8)).length + x0.length))
 (some ([] ++ x0, ()))
 none)) := by kernel_rfl
theorem q_slices_Clone___impl_Io_impl_Io_ (x0 : List d60) : @Eq _ (c_slices_Clone___impl_Io_impl_Io_ (bodyK EE R L) x0) (cond (Nat.beq x0.length 0)
 (agree
 (some ([], ()))
 (cond (lenOK (([] : List d60).length + x0.length))
 (some ([] ++ x0, ()))
 none))
 (cond (lenOK (([] : List d60).length + x0.length))
 (some ([] ++ x0, ()))
 none)) := by kernel_rfl
theorem q_impl_Device_own (x0 : d61) : @Eq _ (c_impl_Device_own (bodyK EE R L) x0) ((c_slices_Clone___string_string_ R x0.1).bind fun r0 =>
 (c_slices_Clone___impl_Io_impl_Io_ R x0.2.1).bind fun r1 =>
 some ((r0.1, (r1.1, ())), ())) := by kernel_rfl
theorem q_impl_Device_write (x0 : d61) (x1 : Int) (x2 : List UInt8) : @Eq _ (c_impl_Device_write (bodyK EE R L) x0 x1 x2) ((c_impl_Device_own R x0).bind fun r0 =>
 cond (lenOK (r0.1.2.1.length + ([(x1, (x2, ()))]).length))
 (some ((r0.1.1, (r0.1.2.1 ++ [(x1, (x2, ()))], r0.1.2.2)), ()))
 none) := by kernel_rfl
theorem q_impl_Store_submission (x0 : d62) (x1 : List d54) (x2 : List Int) : @Eq _ (c_impl_Store_submission (bodyK EE R L) x0 x1 x2) ((c_impl_Store_upCode R x0).bind fun r0 =>
 cond (!(eqI r0.1 0))
 (some (([], ([], ())), ((0, (0, (0, (0, ([], ([], ([], ()))))))), (r0.1, ()))))
 ((c_impl_Register_waiting R x0.2.1).bind fun r1 =>
 cond (eqI r1.1 4)
 (some (([], ([], ())), ((0, (0, (0, (0, ([], ([], ([], ()))))))), (7, ()))))
 (cond (eqI x0.2.1.2.2.1 1000000)
 (some (([], ([], ())), ((0, (0, (0, (0, ([], ([], ([], ()))))))), (7, ()))))
 ((c_impl_entrySector R (IntKind.wrap .i64 (x0.2.1.2.2.1 + 1))).bind fun r2 =>
 (c_impl_little R x0.2.1.2.2.2.1 4).bind fun r3 =>
 (c_impl_logEpoch R (IntKind.wrap .i64 (x0.2.1.2.2.1 + 1)) x0.2.1.2.2.2.1).bind fun r4 =>
 (c_impl_entryText R x1 x2).bind fun r5 =>
 (c_impl_sealed R x0.1 3 r2.1 r4.1 r5.1).bind fun r6 =>
 cond (lenOK (r3.1.length + r6.1.length))
 ((c_impl_chain R x0.2.1.2.2.2.2.2.1 (r3.1 ++ r6.1)).bind fun r7 =>
 (c_impl_Device_write R x0.2.2.1 r2.1 (r3.1 ++ r6.1)).bind fun r8 =>
 some (r8.1, ((x0.2.1.1, (x0.2.1.2.1, (IntKind.wrap .i64 (x0.2.1.2.2.1 + 1), (x0.2.1.2.2.2.1, (x0.2.1.2.2.2.2.1, (r7.1, x0.2.1.2.2.2.2.2.2)))))), (0, ()))))
 none)))) := by kernel_rfl
theorem q_impl_Store_own (x0 : d62) : @Eq _ (c_impl_Store_own (bodyK EE R L) x0) ((c_impl_Device_own R x0.2.2.1).bind fun r0 =>
 some ((x0.1, (x0.2.1, (r0.1, x0.2.2.2))), ())) := by kernel_rfl
theorem q_impl_Device_crash (x0 : d61) (x1 : List Int) : @Eq _ (c_impl_Device_crash (bodyK EE R L) x0 x1) ((c_slices_Clone___string_string_ R x0.1).bind fun r0 =>
 lp_impl_Device_crash_0 R L x1 ([], ([], ())) (r0.1, ([], ())) x0.2.1 (x0.2.1.length : Int) 0) := by kernel_rfl
theorem q_impl_Device_crash_0 (v1 : List Int) (v4 v5 : d61) (v16 : List d60) (v17 v18 : Int) : @Eq _ (lp_impl_Device_crash_0 R L v1 v4 v5 v16 v17 v18 ([1, 1, 0, 1, 0] ++ [0])) (cond (decide (v18 < v17))
 (cond (nonneg v18)
 (cond (Nat.blt v18.toNat v16.length)
 (cond (decide (0 < (v1.length : Int)))
 (cond (eqI (v1.length : Int) 0)
 none
 (cond (nonneg (Int.tmod v18 (v1.length : Int)))
 (cond (Nat.blt (Int.tmod v18 (v1.length : Int)).toNat v1.length)
 (cond (eqI (v1.getD (Int.tmod v18 (v1.length : Int)).toNat 0) 1)
 (cond (nonneg (v16.getD v18.toNat (0, ([], ()))).1)
 (cond (Nat.blt (v16.getD v18.toNat (0, ([], ()))).1.toNat v5.1.length)
 (lp_impl_Device_crash_0 R L v1 v4 (v5.1.set (v16.getD v18.toNat (0, ([], ()))).1.toNat (v16.getD v18.toNat (0, ([], ()))).2.1, v5.2) v16 v17 (IntKind.wrap .i64 (v18 + 1)))
 none)
 none)
 (cond (eqI (v1.getD (Int.tmod v18 (v1.length : Int)).toNat 0) 2)
 (cond (nonneg (v16.getD v18.toNat (0, ([], ()))).1)
 (cond (Nat.blt (v16.getD v18.toNat (0, ([], ()))).1.toNat v5.1.length)
 (cond (nonneg (IntKind.wrap .i64 (Int.tdiv ((v16.getD v18.toNat (0, ([], ()))).2.1.length : Int) 2)))
 (cond (Nat.ble (IntKind.wrap .i64 (Int.tdiv ((v16.getD v18.toNat (0, ([], ()))).2.1.length : Int) 2)).toNat (v16.getD v18.toNat (0, ([], ()))).2.1.length)
 (cond (nonneg (minI (IntKind.wrap .i64 (Int.tdiv ((v16.getD v18.toNat (0, ([], ()))).2.1.length : Int) 2)) ((v5.1.getD (v16.getD v18.toNat (0, ([], ()))).1.toNat []).length : Int)))
 (cond (Nat.ble (v5.1.getD (v16.getD v18.toNat (0, ([], ()))).1.toNat []).length (v5.1.getD (v16.getD v18.toNat (0, ([], ()))).1.toNat []).length)
 (cond (Nat.ble (minI (IntKind.wrap .i64 (Int.tdiv ((v16.getD v18.toNat (0, ([], ()))).2.1.length : Int) 2)) ((v5.1.getD (v16.getD v18.toNat (0, ([], ()))).1.toNat []).length : Int)).toNat (v5.1.getD (v16.getD v18.toNat (0, ([], ()))).1.toNat []).length)
 (cond (lenOK ((List.drop 0 (List.take (IntKind.wrap .i64 (Int.tdiv ((v16.getD v18.toNat (0, ([], ()))).2.1.length : Int) 2)).toNat (v16.getD v18.toNat (0, ([], ()))).2.1)).length + (List.drop (minI (IntKind.wrap .i64 (Int.tdiv ((v16.getD v18.toNat (0, ([], ()))).2.1.length : Int) 2)) ((v5.1.getD (v16.getD v18.toNat (0, ([], ()))).1.toNat []).length : Int)).toNat (List.take (v5.1.getD (v16.getD v18.toNat (0, ([], ()))).1.toNat []).length (v5.1.getD (v16.getD v18.toNat (0, ([], ()))).1.toNat []))).length))
 (cond (nonneg (v16.getD v18.toNat (0, ([], ()))).1)
 (cond (Nat.blt (v16.getD v18.toNat (0, ([], ()))).1.toNat v5.1.length)
 (lp_impl_Device_crash_0 R L v1 v4 (v5.1.set (v16.getD v18.toNat (0, ([], ()))).1.toNat ((List.drop 0 (List.take (IntKind.wrap .i64 (Int.tdiv ((v16.getD v18.toNat (0, ([], ()))).2.1.length : Int) 2)).toNat (v16.getD v18.toNat (0, ([], ()))).2.1)) ++ (List.drop (minI (IntKind.wrap .i64 (Int.tdiv ((v16.getD v18.toNat (0, ([], ()))).2.1.length : Int) 2)) ((v5.1.getD (v16.getD v18.toNat (0, ([], ()))).1.toNat []).length : Int)).toNat (List.take (v5.1.getD (v16.getD v18.toNat (0, ([], ()))).1.toNat []).length (v5.1.getD (v16.getD v18.toNat (0, ([], ()))).1.toNat [])))), v5.2) v16 v17 (IntKind.wrap .i64 (v18 + 1)))
 none)
 none)
 none)
 none)
 none)
 none)
 none)
 none)
 none)
 none)
 (lp_impl_Device_crash_0 R L v1 v4 v5 v16 v17 (IntKind.wrap .i64 (v18 + 1)))))
 none)
 none))
 (lp_impl_Device_crash_0 R L v1 v4 v5 v16 v17 (IntKind.wrap .i64 (v18 + 1))))
 none)
 none)
 (some (v5, ()))) := by kernel_rfl
theorem q_impl_Device_sync (x0 : d61) : @Eq _ (c_impl_Device_sync (bodyK EE R L) x0) ((c_impl_Device_crash R x0 [1]).bind fun r0 =>
 some (r0.1, ())) := by kernel_rfl
theorem q_impl_Submit (x0 : d62) (x1 : List d54) (x2 : List Int) : @Eq _ (c_impl_Submit (bodyK EE R L) x0 x1 x2) ((c_impl_submitCode R x0 x1 x2).bind fun r0 =>
 cond (!(eqI r0.1 0))
 (some (([], ((0, (0, (0, (0, ([], ([], ([], ()))))))), (([], ([], ())), (false, (false, ()))))), (r0.1, ())))
 ((c_impl_Store_submission R x0 x1 x2).bind fun r1 =>
 cond (!(eqI r1.2.2.1 0))
 ((c_impl_Store_own R x0).bind fun r2 =>
 some (r2.1, (r1.2.2.1, ())))
 ((c_impl_Device_sync R r1.1).bind fun r2 =>
 some ((x0.1, (r1.2.1, (r2.1, x0.2.2.2))), (0, ()))))) := by kernel_rfl
theorem q_laws_eqRegister (x0 x1 : d59) : @Eq _ (c_laws_eqRegister (bodyK EE R L) x0 x1) (cond (!(eqI x0.1 x1.1))
 (some (false, ()))
 (cond (!(eqI x0.2.1 x1.2.1))
 (some (false, ()))
 (cond (!(eqI x0.2.2.1 x1.2.2.1))
 (some (false, ()))
 (cond (!(eqI x0.2.2.2.1 x1.2.2.2.1))
 (some (false, ()))
 (cond (!(eqS x0.2.2.2.2.1 x1.2.2.2.2.1))
 (some (false, ()))
 (cond (!(eqS x0.2.2.2.2.2.1 x1.2.2.2.2.2.1))
 (some (false, ()))
 (cond (!(eqS x0.2.2.2.2.2.2.1 x1.2.2.2.2.2.2.1))
 (some (false, ()))
 (some (true, ()))))))))) := by kernel_rfl
theorem q_laws_eqStringS (x0 x1 : List (List UInt8)) : @Eq _ (c_laws_eqStringS (bodyK EE R L) x0 x1) (cond (!(eqI (x0.length : Int) (x1.length : Int)))
 (some (false, ()))
 (lp_laws_eqStringS_0 R L x0 x1 false 0)) := by kernel_rfl
theorem q_laws_eqStringS_0 (v0 v1 : List (List UInt8)) (v4 : Bool) (v5 : Int) : @Eq _ (lp_laws_eqStringS_0 R L v0 v1 v4 v5 ([1, 1, 0, 1, 0] ++ [0])) (cond (decide (v5 < (v0.length : Int)))
 (cond (nonneg v5)
 (cond (Nat.blt v5.toNat v0.length)
 (cond (nonneg v5)
 (cond (Nat.blt v5.toNat v1.length)
 (cond (!(eqS (v0.getD v5.toNat []) (v1.getD v5.toNat [])))
 (some (false, ()))
 (lp_laws_eqStringS_0 R L v0 v1 v4 (IntKind.wrap .i64 (v5 + 1))))
 none)
 none)
 none)
 none)
 (some (true, ()))) := by kernel_rfl
theorem q_laws_eqIo (x0 x1 : d60) : @Eq _ (c_laws_eqIo (bodyK EE R L) x0 x1) (cond (!(eqI x0.1 x1.1))
 (some (false, ()))
 (cond (!(eqS x0.2.1 x1.2.1))
 (some (false, ()))
 (some (true, ())))) := by kernel_rfl
theorem q_laws_eqIoS (x0 x1 : List d60) : @Eq _ (c_laws_eqIoS (bodyK EE R L) x0 x1) (cond (!(eqI (x0.length : Int) (x1.length : Int)))
 (some (false, ()))
 (lp_laws_eqIoS_0 R L x0 x1 false 0)) := by kernel_rfl
theorem q_laws_eqIoS_0 (v0 v1 : List d60) (v4 : Bool) (v5 : Int) : @Eq _ (lp_laws_eqIoS_0 R L v0 v1 v4 v5 ([1, 1, 0, 1, 0] ++ [0])) (cond (decide (v5 < (v0.length : Int)))
 (cond (nonneg v5)
 (cond (Nat.blt v5.toNat v0.length)
 (cond (nonneg v5)
 (cond (Nat.blt v5.toNat v1.length)
 ((c_laws_eqIo R (v0.getD v5.toNat (0, ([], ()))) (v1.getD v5.toNat (0, ([], ())))).bind fun r0 =>
 cond (!r0.1)
 (some (false, ()))
 (lp_laws_eqIoS_0 R L v0 v1 v4 (IntKind.wrap .i64 (v5 + 1))))
 none)
 none)
 none)
 none)
 (some (true, ()))) := by kernel_rfl
theorem q_laws_eqDevice (x0 x1 : d61) : @Eq _ (c_laws_eqDevice (bodyK EE R L) x0 x1) ((c_laws_eqStringS R x0.1 x1.1).bind fun r0 =>
 cond (!r0.1)
 (some (false, ()))
 ((c_laws_eqIoS R x0.2.1 x1.2.1).bind fun r1 =>
 cond (!r1.1)
 (some (false, ()))
 (some (true, ())))) := by kernel_rfl
theorem q_laws_eqStore (x0 x1 : d62) : @Eq _ (c_laws_eqStore (bodyK EE R L) x0 x1) (cond (!(eqS x0.1 x1.1))
 (some (false, ()))
 ((c_laws_eqRegister R x0.2.1 x1.2.1).bind fun r0 =>
 cond (!r0.1)
 (some (false, ()))
 ((c_laws_eqDevice R x0.2.2.1 x1.2.2.1).bind fun r1 =>
 cond (!r1.1)
 (some (false, ()))
 (cond (!(eqB x0.2.2.2.1 x1.2.2.2.1))
 (some (false, ()))
 (cond (!(eqB x0.2.2.2.2.1 x1.2.2.2.2.1))
 (some (false, ()))
 (some (true, ()))))))) := by kernel_rfl
theorem q_laws_eqOp (x0 x1 : d53) : @Eq _ (c_laws_eqOp (bodyK EE R L) x0 x1) (cond (!(eqI x0.1 x1.1))
 (some (false, ()))
 (cond (!(eqI x0.2.1 x1.2.1))
 (some (false, ()))
 (cond (!(eqI x0.2.2.1 x1.2.2.1))
 (some (false, ()))
 (some (true, ()))))) := by kernel_rfl
theorem q_laws_eqOpS (x0 x1 : List d53) : @Eq _ (c_laws_eqOpS (bodyK EE R L) x0 x1) (cond (!(eqI (x0.length : Int) (x1.length : Int)))
 (some (false, ()))
 (lp_laws_eqOpS_0 R L x0 x1 false 0)) := by kernel_rfl
theorem q_laws_eqOpS_0 (v0 v1 : List d53) (v4 : Bool) (v5 : Int) : @Eq _ (lp_laws_eqOpS_0 R L v0 v1 v4 v5 ([1, 1, 0, 1, 0] ++ [0])) (cond (decide (v5 < (v0.length : Int)))
 (cond (nonneg v5)
 (cond (Nat.blt v5.toNat v0.length)
 (cond (nonneg v5)
 (cond (Nat.blt v5.toNat v1.length)
 ((c_laws_eqOp R (v0.getD v5.toNat (0, (0, (0, ())))) (v1.getD v5.toNat (0, (0, (0, ()))))).bind fun r0 =>
 cond (!r0.1)
 (some (false, ()))
 (lp_laws_eqOpS_0 R L v0 v1 v4 (IntKind.wrap .i64 (v5 + 1))))
 none)
 none)
 none)
 none)
 (some (true, ()))) := by kernel_rfl
theorem q_laws_eqTxn (x0 x1 : d54) : @Eq _ (c_laws_eqTxn (bodyK EE R L) x0 x1) ((c_laws_eqOpS R x0.1 x1.1).bind fun r0 =>
 cond (!r0.1)
 (some (false, ()))
 (some (true, ()))) := by kernel_rfl
theorem q_laws_eqTxnS (x0 x1 : List d54) : @Eq _ (c_laws_eqTxnS (bodyK EE R L) x0 x1) (cond (!(eqI (x0.length : Int) (x1.length : Int)))
 (some (false, ()))
 (lp_laws_eqTxnS_0 R L x0 x1 false 0)) := by kernel_rfl
theorem q_laws_eqTxnS_0 (v0 v1 : List d54) (v4 : Bool) (v5 : Int) : @Eq _ (lp_laws_eqTxnS_0 R L v0 v1 v4 v5 ([1, 1, 0, 1, 0] ++ [0])) (cond (decide (v5 < (v0.length : Int)))
 (cond (nonneg v5)
 (cond (Nat.blt v5.toNat v0.length)
 (cond (nonneg v5)
 (cond (Nat.blt v5.toNat v1.length)
 ((c_laws_eqTxn R (v0.getD v5.toNat ([], ())) (v1.getD v5.toNat ([], ()))).bind fun r0 =>
 cond (!r0.1)
 (some (false, ()))
 (lp_laws_eqTxnS_0 R L v0 v1 v4 (IntKind.wrap .i64 (v5 + 1))))
 none)
 none)
 none)
 none)
 (some (true, ()))) := by kernel_rfl
theorem q_laws_eqIntS (x0 x1 : List Int) : @Eq _ (c_laws_eqIntS (bodyK EE R L) x0 x1) (cond (!(eqI (x0.length : Int) (x1.length : Int)))
 (some (false, ()))
 (lp_laws_eqIntS_0 R L x0 x1 false 0)) := by kernel_rfl
theorem q_laws_eqIntS_0 (v0 v1 : List Int) (v4 : Bool) (v5 : Int) : @Eq _ (lp_laws_eqIntS_0 R L v0 v1 v4 v5 ([1, 1, 0, 1, 0] ++ [0])) (cond (decide (v5 < (v0.length : Int)))
 (cond (nonneg v5)
 (cond (Nat.blt v5.toNat v0.length)
 (cond (nonneg v5)
 (cond (Nat.blt v5.toNat v1.length)
 (cond (!(eqI (v0.getD v5.toNat 0) (v1.getD v5.toNat 0)))
 (some (false, ()))
 (lp_laws_eqIntS_0 R L v0 v1 v4 (IntKind.wrap .i64 (v5 + 1))))
 none)
 none)
 none)
 none)
 (some (true, ()))) := by kernel_rfl
theorem q_laws_markText (x0 : Int) : @Eq _ (c_laws_markText (bodyK EE R L) x0) (cond (decide (x0 ≤ 0))
 (some ([109, 48], ()))
 (lp_laws_markText_0 R L x0 [] [])) := by kernel_rfl
theorem q_laws_markText_0 (v0 : Int) (v2 v3 : List UInt8) : @Eq _ (lp_laws_markText_0 R L v0 v2 v3 ([1, 1, 1, 0, 0] ++ [0])) (cond (decide (0 < v0))
 (cond (lenOK ((List.map (fun (n : Int) => UInt8.ofNat n.toNat) [IntKind.wrap .u8 (IntKind.wrap .i64 (48 + (Int.tmod v0 10)))]).length + v3.length))
 (lp_laws_markText_0 R L (IntKind.wrap .i64 (Int.tdiv v0 10)) v2 ((List.map (fun (n : Int) => UInt8.ofNat n.toNat) [IntKind.wrap .u8 (IntKind.wrap .i64 (48 + (Int.tmod v0 10)))]) ++ v3))
 none)
 (cond (lenOK (([(109 : UInt8)]).length + v3.length))
 (some ([109] ++ v3, ()))
 none)) := by kernel_rfl
theorem q_laws_markStringS (x0 : List (List UInt8)) (x1 : Int) : @Eq _ (c_laws_markStringS (bodyK EE R L) x0 x1) (lp_laws_markStringS_0 R L x0 x1 0 0) := by kernel_rfl
theorem q_laws_markStringS_0 (v0 : List (List UInt8)) (v1 v4 v5 : Int) : @Eq _ (lp_laws_markStringS_0 R L v0 v1 v4 v5 ([1, 0, 1, 0] ++ [0])) (cond (decide (v5 < (v0.length : Int)))
 ((c_laws_markText R v1).bind fun r0 =>
 cond (nonneg v5)
 (cond (Nat.blt v5.toNat v0.length)
 (lp_laws_markStringS_0 R L (v0.set v5.toNat r0.1) (IntKind.wrap .i64 (v1 + 1)) v4 (IntKind.wrap .i64 (v5 + 1)))
 none)
 none)
 (some (v1, (v0, ())))) := by kernel_rfl
theorem q_laws_markIoS (x0 : List d60) (x1 : Int) : @Eq _ (c_laws_markIoS (bodyK EE R L) x0 x1) (lp_laws_markIoS_0 R L x0 x1 0 0) := by kernel_rfl
theorem q_laws_markIoS_0 (v0 : List d60) (v1 v4 v5 : Int) : @Eq _ (lp_laws_markIoS_0 R L v0 v1 v4 v5 ([1, 0, 1, 0] ++ [0])) (cond (decide (v5 < (v0.length : Int)))
 (cond (nonneg v5)
 (cond (Nat.blt v5.toNat v0.length)
 ((c_laws_markText R (IntKind.wrap .i64 (v1 + 1))).bind fun r0 =>
 cond (nonneg v5)
 (cond (Nat.blt v5.toNat (v0.set v5.toNat (v1, (v0.getD v5.toNat (0, ([], ()))).2)).length)
 (lp_laws_markIoS_0 R L ((v0.set v5.toNat (v1, (v0.getD v5.toNat (0, ([], ()))).2)).set v5.toNat (((v0.set v5.toNat (v1, (v0.getD v5.toNat (0, ([], ()))).2)).getD v5.toNat (0, ([], ()))).1, (r0.1, ((v0.set v5.toNat (v1, (v0.getD v5.toNat (0, ([], ()))).2)).getD v5.toNat (0, ([], ()))).2.2))) (IntKind.wrap .i64 ((IntKind.wrap .i64 (v1 + 1)) + 1)) v4 (IntKind.wrap .i64 (v5 + 1)))
 none)
 none)
 none)
 none)
 (some (v1, (v0, ())))) := by kernel_rfl
theorem q_laws_markDevice (x0 : d61) (x1 : Int) : @Eq _ (c_laws_markDevice (bodyK EE R L) x0 x1) ((c_laws_markStringS R x0.1 x1).bind fun r0 =>
 (c_laws_markIoS R x0.2.1 r0.1).bind fun r1 =>
 some (r1.1, ((r0.2.1, (r1.2.1, x0.2.2)), ()))) := by kernel_rfl
theorem q_laws_markStore (x0 : d62) (x1 : Int) : @Eq _ (c_laws_markStore (bodyK EE R L) x0 x1) ((c_laws_markDevice R x0.2.2.1 x1).bind fun r0 =>
 some (r0.1, ((x0.1, (x0.2.1, (r0.2.1, x0.2.2.2))), ()))) := by kernel_rfl
theorem q_laws_markOpS (x0 : List d53) (x1 : Int) : @Eq _ (c_laws_markOpS (bodyK EE R L) x0 x1) (lp_laws_markOpS_0 R L x0 x1 0 0) := by kernel_rfl
theorem q_laws_markOpS_0 (v0 : List d53) (v1 v4 v5 : Int) : @Eq _ (lp_laws_markOpS_0 R L v0 v1 v4 v5 ([1, 0, 1, 0] ++ [0])) (cond (decide (v5 < (v0.length : Int)))
 (cond (nonneg v5)
 (cond (Nat.blt v5.toNat v0.length)
 (cond (nonneg v5)
 (cond (Nat.blt v5.toNat (v0.set v5.toNat (v1, (v0.getD v5.toNat (0, (0, (0, ())))).2)).length)
 (cond (nonneg v5)
 (cond (Nat.blt v5.toNat ((v0.set v5.toNat (v1, (v0.getD v5.toNat (0, (0, (0, ())))).2)).set v5.toNat (((v0.set v5.toNat (v1, (v0.getD v5.toNat (0, (0, (0, ())))).2)).getD v5.toNat (0, (0, (0, ())))).1, (IntKind.wrap .i64 (v1 + 1), ((v0.set v5.toNat (v1, (v0.getD v5.toNat (0, (0, (0, ())))).2)).getD v5.toNat (0, (0, (0, ())))).2.2))).length)
 (lp_laws_markOpS_0 R L (((v0.set v5.toNat (v1, (v0.getD v5.toNat (0, (0, (0, ())))).2)).set v5.toNat (((v0.set v5.toNat (v1, (v0.getD v5.toNat (0, (0, (0, ())))).2)).getD v5.toNat (0, (0, (0, ())))).1, (IntKind.wrap .i64 (v1 + 1), ((v0.set v5.toNat (v1, (v0.getD v5.toNat (0, (0, (0, ())))).2)).getD v5.toNat (0, (0, (0, ())))).2.2))).set v5.toNat ((((v0.set v5.toNat (v1, (v0.getD v5.toNat (0, (0, (0, ())))).2)).set v5.toNat (((v0.set v5.toNat (v1, (v0.getD v5.toNat (0, (0, (0, ())))).2)).getD v5.toNat (0, (0, (0, ())))).1, (IntKind.wrap .i64 (v1 + 1), ((v0.set v5.toNat (v1, (v0.getD v5.toNat (0, (0, (0, ())))).2)).getD v5.toNat (0, (0, (0, ())))).2.2))).getD v5.toNat (0, (0, (0, ())))).1, ((((v0.set v5.toNat (v1, (v0.getD v5.toNat (0, (0, (0, ())))).2)).set v5.toNat (((v0.set v5.toNat (v1, (v0.getD v5.toNat (0, (0, (0, ())))).2)).getD v5.toNat (0, (0, (0, ())))).1, (IntKind.wrap .i64 (v1 + 1), ((v0.set v5.toNat (v1, (v0.getD v5.toNat (0, (0, (0, ())))).2)).getD v5.toNat (0, (0, (0, ())))).2.2))).getD v5.toNat (0, (0, (0, ())))).2.1, (IntKind.wrap .i64 ((IntKind.wrap .i64 (v1 + 1)) + 1), (((v0.set v5.toNat (v1, (v0.getD v5.toNat (0, (0, (0, ())))).2)).set v5.toNat (((v0.set v5.toNat (v1, (v0.getD v5.toNat (0, (0, (0, ())))).2)).getD v5.toNat (0, (0, (0, ())))).1, (IntKind.wrap .i64 (v1 + 1), ((v0.set v5.toNat (v1, (v0.getD v5.toNat (0, (0, (0, ())))).2)).getD v5.toNat (0, (0, (0, ())))).2.2))).getD v5.toNat (0, (0, (0, ())))).2.2.2)))) (IntKind.wrap .i64 ((IntKind.wrap .i64 ((IntKind.wrap .i64 (v1 + 1)) + 1)) + 1)) v4 (IntKind.wrap .i64 (v5 + 1)))
 none)
 none)
 none)
 none)
 none)
 none)
 (some (v1, (v0, ())))) := by kernel_rfl
theorem q_laws_markTxnS (x0 : List d54) (x1 : Int) : @Eq _ (c_laws_markTxnS (bodyK EE R L) x0 x1) (lp_laws_markTxnS_0 R L x0 x1 0 0) := by kernel_rfl
theorem q_laws_markTxnS_0 (v0 : List d54) (v1 v4 v5 : Int) : @Eq _ (lp_laws_markTxnS_0 R L v0 v1 v4 v5 ([1, 0, 1, 0] ++ [0])) (cond (decide (v5 < (v0.length : Int)))
 (cond (nonneg v5)
 (cond (Nat.blt v5.toNat v0.length)
 ((c_laws_markOpS R (v0.getD v5.toNat ([], ())).1 v1).bind fun r0 =>
 lp_laws_markTxnS_0 R L (v0.set v5.toNat (r0.2.1, (v0.getD v5.toNat ([], ())).2)) r0.1 v4 (IntKind.wrap .i64 (v5 + 1)))
 none)
 none)
 (some (v1, (v0, ())))) := by kernel_rfl
theorem q_laws_markIntS (x0 : List Int) (x1 : Int) : @Eq _ (c_laws_markIntS (bodyK EE R L) x0 x1) (lp_laws_markIntS_0 R L x0 x1 0 0) := by kernel_rfl
theorem q_laws_markIntS_0 (v0 : List Int) (v1 v4 v5 : Int) : @Eq _ (lp_laws_markIntS_0 R L v0 v1 v4 v5 ([1, 0, 1, 0] ++ [0])) (cond (decide (v5 < (v0.length : Int)))
 (cond (nonneg v5)
 (cond (Nat.blt v5.toNat v0.length)
 (lp_laws_markIntS_0 R L (v0.set v5.toNat v1) (IntKind.wrap .i64 (v1 + 1)) v4 (IntKind.wrap .i64 (v5 + 1)))
 none)
 none)
 (some (v1, (v0, ())))) := by kernel_rfl
theorem q_laws_heldStringS (x0 : List (List UInt8)) (x1 : Int) : @Eq _ (c_laws_heldStringS (bodyK EE R L) x0 x1) (lp_laws_heldStringS_0 R L x0 x1 0 0) := by kernel_rfl
theorem q_laws_heldStringS_0 (v0 : List (List UInt8)) (v1 v4 v5 : Int) : @Eq _ (lp_laws_heldStringS_0 R L v0 v1 v4 v5 ([1, 0, 1, 0] ++ [0])) (cond (decide (v5 < (v0.length : Int)))
 (cond (nonneg v5)
 (cond (Nat.blt v5.toNat v0.length)
 ((c_laws_markText R v1).bind fun r0 =>
 cond (!(eqS (v0.getD v5.toNat []) r0.1))
 (some (-1, ()))
 (lp_laws_heldStringS_0 R L v0 (IntKind.wrap .i64 (v1 + 1)) v4 (IntKind.wrap .i64 (v5 + 1))))
 none)
 none)
 (some (v1, ()))) := by kernel_rfl
theorem q_laws_heldIoS (x0 : List d60) (x1 : Int) : @Eq _ (c_laws_heldIoS (bodyK EE R L) x0 x1) (lp_laws_heldIoS_0 R L x0 x1 0 0) := by kernel_rfl
theorem q_laws_heldIoS_0 (v0 : List d60) (v1 v4 v5 : Int) : @Eq _ (lp_laws_heldIoS_0 R L v0 v1 v4 v5 ([1, 0, 1, 0] ++ [0])) (cond (decide (v5 < (v0.length : Int)))
 (cond (nonneg v5)
 (cond (Nat.blt v5.toNat v0.length)
 (cond (!(eqI (v0.getD v5.toNat (0, ([], ()))).1 v1))
 (some (-1, ()))
 (cond (nonneg v5)
 (cond (Nat.blt v5.toNat v0.length)
 ((c_laws_markText R (IntKind.wrap .i64 (v1 + 1))).bind fun r0 =>
 cond (!(eqS (v0.getD v5.toNat (0, ([], ()))).2.1 r0.1))
 (some (-1, ()))
 (lp_laws_heldIoS_0 R L v0 (IntKind.wrap .i64 ((IntKind.wrap .i64 (v1 + 1)) + 1)) v4 (IntKind.wrap .i64 (v5 + 1))))
 none)
 none))
 none)
 none)
 (some (v1, ()))) := by kernel_rfl
theorem q_laws_heldDevice (x0 : d61) (x1 : Int) : @Eq _ (c_laws_heldDevice (bodyK EE R L) x0 x1) ((c_laws_heldStringS R x0.1 x1).bind fun r0 =>
 cond (decide (r0.1 < 0))
 (some (-1, ()))
 ((c_laws_heldIoS R x0.2.1 r0.1).bind fun r1 =>
 cond (decide (r1.1 < 0))
 (some (-1, ()))
 (some (r1.1, ())))) := by kernel_rfl
theorem q_laws_heldStore (x0 : d62) (x1 : Int) : @Eq _ (c_laws_heldStore (bodyK EE R L) x0 x1) ((c_laws_heldDevice R x0.2.2.1 x1).bind fun r0 =>
 cond (decide (r0.1 < 0))
 (some (-1, ()))
 (some (r0.1, ()))) := by kernel_rfl
theorem q_laws_FnExactSubmit (x0 : d62) (x1 : List d54) (x2 : List Int) : @Eq _ (c_laws_FnExactSubmit (bodyK EE R L) x0 x1 x2) (cond (decide (1048576 < (x2.length : Int)))
 (some (true, ()))
 ((c_laws_szStore R x0 1048576).bind fun r0 =>
 cond (decide (r0.1 < 0))
 (some (true, ()))
 ((c_laws_szTxnS R x1 r0.1).bind fun r1 =>
 cond (decide (r1.1 < 0))
 (some (true, ()))
 ((c_laws_toStore R x0).bind fun r2 =>
 (c_laws_toTxnS R x1).bind fun r3 =>
 (c_laws_toIntS R x2).bind fun r4 =>
 (c_spec_Submit R r2.1 r3.1 r4.1).bind fun r5 =>
 (c_laws_toStore R x0).bind fun r6 =>
 (c_laws_toTxnS R x1).bind fun r7 =>
 (c_laws_toIntS R x2).bind fun r8 =>
 (c_impl_Submit R r6.1 r7.1 r8.1).bind fun r9 =>
 (c_laws_eqStore R r9.1 r5.1).bind fun r10 =>
 cond (!r10.1)
 (some (false, ()))
 (cond (!(eqI r9.2.1 r5.2.1))
 (some (false, ()))
 ((c_laws_toStore R x0).bind fun r11 =>
 (c_laws_eqStore R r6.1 r11.1).bind fun r12 =>
 cond (!r12.1)
 (some (false, ()))
 ((c_laws_toTxnS R x1).bind fun r13 =>
 (c_laws_eqTxnS R r7.1 r13.1).bind fun r14 =>
 cond (!r14.1)
 (some (false, ()))
 ((c_laws_toIntS R x2).bind fun r15 =>
 (c_laws_eqIntS R r8.1 r15.1).bind fun r16 =>
 cond (!r16.1)
 (some (false, ()))
 ((c_laws_markStore R r6.1 1).bind fun r17 =>
 (c_laws_markTxnS R r7.1 r17.1).bind fun r18 =>
 (c_laws_markIntS R r8.1 r18.1).bind fun r19 =>
 cond (decide (r19.1 < 0))
 (some (false, ()))
 ((c_laws_eqStore R r9.1 r5.1).bind fun r20 =>
 cond (!r20.1)
 (some (false, ()))
 (cond (!(eqI r9.2.1 r5.2.1))
 (some (false, ()))
 ((c_laws_markStore R r9.1 1).bind fun r21 =>
 (c_laws_heldStore R r21.2.1 1).bind fun r22 =>
 cond (decide (r22.1 < 0))
 (some (false, ()))
 (cond (!(eqI r22.1 r21.1))
 (some (false, ()))
 ((c_laws_toStore R x0).bind fun r23 =>
 (c_laws_toTxnS R x1).bind fun r24 =>
 (c_laws_toIntS R x2).bind fun r25 =>
 (c_impl_Submit R r23.1 r24.1 r25.1).bind fun r26 =>
 (c_laws_eqStore R r26.1 r5.1).bind fun r27 =>
 cond (!r27.1)
 (some (false, ()))
 (cond (!(eqI r26.2.1 r5.2.1))
 (some (false, ()))
 ((c_laws_heldStore R r21.2.1 1).bind fun r28 =>
 cond (decide (r28.1 < 0))
 (some (false, ()))
 (cond (!(eqI r28.1 r21.1))
 (some (false, ()))
 (some (true, ()))))))))))))))))))) := by kernel_rfl
end Go.Rf.S

end
