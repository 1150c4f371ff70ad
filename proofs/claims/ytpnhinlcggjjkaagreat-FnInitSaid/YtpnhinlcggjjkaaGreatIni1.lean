/- What the program computes, in plain words: part 4. No condition. -/
import Derived.Test.YtpnhinlcggjjkaaGreatRfC
import Derived.Below
import Derived.Shelf.Strings.Repeat
import Derived.WalkKit
import Derived.BigCall
import Derived.Test.YtpnhinlcggjjkaaGreatProg
import Derived.Shelf.LaysM
import Derived.Shelf.Lays
import Derived.Maps.Own
import Derived.Maps.Views
import Derived.Shelf.SlLaysE0
import Derived.Shelf.Spec.SlicesInsertGrow
import Derived.Shelf.RegionOpenPlain
import Derived.Deep.RegionLaw
import Derived.Lib.Walk
import Derived.Lib.SliceRun
import Derived.Shelf.Spec.SlicesGrow
import Derived.Shelf.Slices.Reverse
import Derived.Deep.Upon
import Derived.Lib.JoinLaws
import Derived.Lib.Builder
set_option linter.unusedVariables false
set_option linter.unusedSimpArgs false
section
namespace Go.Rf
set_option linter.unusedSectionVars false
variable [T : Laid]
theorem AU3 (n a : Nat) : BitVec.ofInt n (a : Int) = BitVec.ofNat n a := by
 apply BitVec.eq_of_toNat_eq
 simp
theorem A9n (n : Int) : IntKind.wrap .u32 n = n % 4294967296 := by
 unfold IntKind.wrap
 simp [IntKind.signed, IntKind.bits]
theorem BN9 (n : Int) : IntKind.wrap .u8 n = n % 256 := by
 unfold IntKind.wrap
 simp [IntKind.signed, IntKind.bits]
theorem At8 (n : Int) : IntKind.wrap .u64 n = n % 18446744073709551616 := by
 unfold IntKind.wrap
 simp [IntKind.signed, IntKind.bits]
theorem Aj5 (n : Nat) : IntKind.wrap .u32 (n : Int) = ((n % 4294967296 : Nat) : Int) := by rw [A9n]; omega
theorem tS (n : Nat) : IntKind.wrap .u8 (n : Int) = ((n % 256 : Nat) : Int) := by rw [BN9]; omega
theorem sI {n : Nat} (h : n < 9223372036854775808) : IntKind.wrap .i64 (n : Int) = (n : Int) := zO (by omega) (by omega)
def tL : IntKind → Nat
 | .i8 => 128 | .i16 => 32768 | .i32 => 2147483648 | .i64 => 9223372036854775808
 | .u8 => 256 | .u16 => 65536 | .u32 => 4294967296 | .u64 => 18446744073709551616
theorem A3V (k : IntKind) : tL k ≤ 2 ^ k.bits := by cases k <;> decide
theorem AR1 {k : IntKind} {n : Nat} (h : n < tL k) : IntKind.wrap k (n : Int) = (n : Int) := by
 cases k <;> simp only [tL] at h <;> (unfold IntKind.wrap; simp [IntKind.signed, IntKind.bits]) <;> omega
theorem BF1 (k : IntKind) : ∃ e, tL k = 2 ^ e := by
 cases k
 ·exact ⟨7, rfl⟩
 ·exact ⟨15, rfl⟩
 ·exact ⟨31, rfl⟩
 ·exact ⟨63, rfl⟩
 ·exact ⟨8, rfl⟩
 ·exact ⟨16, rfl⟩
 ·exact ⟨32, rfl⟩
 ·exact ⟨64, rfl⟩
theorem AN4 {k : IntKind} {a b : Nat} (ha : a < tL k) (hb : b < tL k) : xF .and k (a : Int) (b : Int) = ((a &&& b : Nat) : Int) := by
 have h := A3V k
 unfold xF
 simp only [AU3, BitVec.toNat_and, BitVec.toNat_ofNat]
 rw [Nat.mod_eq_of_lt (by omega), Nat.mod_eq_of_lt (by omega), AR1 (Nat.lt_of_le_of_lt Nat.and_le_left ha)]
theorem Ai5 {k : IntKind} {a b : Nat} (ha : a < tL k) (hb : b < tL k) : xF .or k (a : Int) (b : Int) = ((a ||| b : Nat) : Int) := by
 have h := A3V k
 obtain ⟨e, he⟩ := BF1 k
 unfold xF
 simp only [AU3, BitVec.toNat_or, BitVec.toNat_ofNat]
 rw [Nat.mod_eq_of_lt (by omega), Nat.mod_eq_of_lt (by omega), AR1 (by rw [he] at ha hb ⊢; exact Nat.or_lt_two_pow ha hb)]
theorem A3M {k : IntKind} {a b : Nat} (ha : a < tL k) (hb : b < tL k) : xF .xor k (a : Int) (b : Int) = ((a ^^^ b : Nat) : Int) := by
 have h := A3V k
 obtain ⟨e, he⟩ := BF1 k
 unfold xF
 simp only [AU3, BitVec.toNat_xor, BitVec.toNat_ofNat]
 rw [Nat.mod_eq_of_lt (by omega), Nat.mod_eq_of_lt (by omega), AR1 (by rw [he] at ha hb ⊢; exact Nat.xor_lt_two_pow ha hb)]
theorem kP (a n : Nat) : Int.fdiv (a : Int) (2 ^ n : Int) = ((a / 2 ^ n : Nat) : Int) := by
 have : (2 ^ n : Int) = ((2 ^ n : Nat) : Int) := by simp
 rw [this]; exact (Int.ofNat_fdiv a (2 ^ n)).symm
theorem A6P (a n : Nat) : (a : Int) * (2 ^ n : Int) = ((a * 2 ^ n : Nat) : Int) := by simp
theorem BM2 (a : Nat) : a &&& 4294967295 = a % 4294967296 := Nat.and_two_pow_sub_one_eq_mod a 32
theorem A8o (a : Nat) : a &&& 67108863 = a % 67108864 := Nat.and_two_pow_sub_one_eq_mod a 26
end Go.Rf

end
section
namespace Go.Rf
set_option linter.unusedSectionVars false
variable [T : Laid]
def wE {α : Type} (f : Nat → α → α) : (n i : Nat) → α → α
 | 0, _, a => a
 | n + 1, i, a => wE f n (i + 1) (f i a)
theorem A7t {α γ : Type} (F : α → Int → Option γ) (f : Nat → α → α) (Inv : Nat → α → Prop) (n : Nat) (K : α → Option γ)
  (stop : ∀ a, Inv n a → F a (n : Nat) = K a) (step : ∀ a i, i < n → Inv i a → F a (i : Nat) = F (f i a) ((i + 1 : Nat) : Int) ∧ Inv (i + 1) (f i a)) :
  ∀ (m i : Nat) (a : α), n - i = m → i ≤ n → Inv i a → F a i = K (wE f m i a) ∧ Inv n (wE f m i a)
 | 0, i, a, hm, hi, ha => by
  have : i = n := by omega
  subst this
  exact ⟨stop a ha, ha⟩
 | m + 1, i, a, hm, hi, ha => by
  obtain ⟨h1, h2⟩ := step a i (by omega) ha
  obtain ⟨h3, h4⟩ := A7t F f Inv n K stop step m (i + 1) (f i a) (by omega) (by omega) h2
  exact ⟨h1.trans h3, h4⟩
theorem yI {α γ : Type} (F : α → Int → Option γ) (f : Nat → α → α) (Inv : Nat → α → Prop) (n : Nat) (K : α → Option γ)
  (stop : ∀ a, Inv n a → F a (n : Nat) = K a) (step : ∀ a i, i < n → Inv i a → F a (i : Nat) = F (f i a) ((i + 1 : Nat) : Int) ∧ Inv (i + 1) (f i a)) (a : α) (ha : Inv 0 a) :
  F a 0 = K (wE f n 0 a) ∧ Inv n (wE f n 0 a) := A7t F f Inv n K stop step n 0 a rfl (Nat.zero_le _) ha
def cl (l : List Nat) : List Int := List.map (fun (x : Nat) => (x : Int)) l
theorem mF (l : List Nat) : (cl l).length = l.length := by unfold cl; exact List.length_map _
theorem yA (l : List Nat) (i : Nat) : (cl l).getD i (0 : Int) = ((l.getD i 0 : Nat) : Int) := by
 unfold cl
 rw [List.getD_eq_getElem?_getD, List.getD_eq_getElem?_getD, List.getElem?_map]
 cases l[i]? <;> rfl
theorem uS (l : List Nat) (i a : Nat) : (cl l).set i (a : Int) = cl (l.set i a) := by
 unfold cl
 rw [List.map_set]
def Bd (B : Nat) (l : List Nat) : Prop := ∀ x ∈ l, x < B
theorem Bd.get {B : Nat} {l : List Nat} (h : Bd B l) (hB : 0 < B) (i : Nat) : l.getD i 0 < B := by
 rw [List.getD_eq_getElem?_getD]
 cases e : l[i]? with
 | none => exact hB
 | some x => exact h x (List.mem_of_getElem? e)
theorem Bd.set {B : Nat} {l : List Nat} (h : Bd B l) {i a : Nat} (ha : a < B) : Bd B (l.set i a) := fun x hx => by
 rcases List.mem_or_eq_of_mem_set hx with hx | rfl
 ·exact h x hx
 ·exact ha
theorem Bd.rep {B n : Nat} (hB : 0 < B) : Bd B (List.replicate n 0) := fun x hx => by
 rw [(List.mem_replicate.1 hx).2]; exact hB
end Go.Rf

end
section
namespace Go.Rf
set_option linter.unusedSectionVars false
variable [T : Laid]
def PP : Nat := 1361129467683753853853498429727072845819
def val (a b c d e : Nat) : Nat := a + 67108864 * b + 4503599627370496 * c + 302231454903657293676544 * d + 20282409603651670423947251286016 * e
def car (a b c d e : Nat) : List Nat :=
  [a % 67108864 + 5 * ((e + (d + (c + (b + a / 67108864) / 67108864) / 67108864) / 67108864) / 67108864),
   (b + a / 67108864) % 67108864,
   (c + (b + a / 67108864) / 67108864) % 67108864,
   (d + (c + (b + a / 67108864) / 67108864) / 67108864) % 67108864,
   (e + (d + (c + (b + a / 67108864) / 67108864) / 67108864) / 67108864) % 67108864]
theorem A2q (a b c d e : Nat) : ∃ a' b' c' d' e' q, car a b c d e = [a', b', c', d', e'] ∧ val a' b' c' d' e' + q * PP = val a b c d e ∧
  b' < 67108864 ∧ c' < 67108864 ∧ d' < 67108864 ∧ e' < 67108864 ∧
  q = (e + (d + (c + (b + a / 67108864) / 67108864) / 67108864) / 67108864) / 67108864 ∧ a' = a % 67108864 + 5 * q := by
 refine ⟨_, _, _, _, _, (e + (d + (c + (b + a / 67108864) / 67108864) / 67108864) / 67108864) / 67108864, rfl, ?_, ?_, ?_, ?_, ?_, rfl, rfl⟩
 ·unfold val PP
  generalize h1 : b + a / 67108864 = b1
  generalize h2 : c + b1 / 67108864 = c1
  generalize h3 : d + c1 / 67108864 = d1
  generalize h4 : e + d1 / 67108864 = e1
  omega
 all_goals exact Nat.mod_lt _ (by decide)
theorem Bj5 (a b c d e : Nat) (ha : a < 288230376151711744) (hb : b < 288230376151711744) (hc : c < 288230376151711744) (hd : d < 288230376151711744) (he : e < 288230376151711744) :
  ∃ a1 b1 c1 d1 e1 a2 b2 c2 d2 e2 a3 b3 c3 d3 e3, car a b c d e = [a1, b1, c1, d1, e1] ∧ car a1 b1 c1 d1 e1 = [a2, b2, c2, d2, e2] ∧ car a2 b2 c2 d2 e2 = [a3, b3, c3, d3, e3] ∧
   val a3 b3 c3 d3 e3 % PP = val a b c d e % PP ∧ a3 < 67108864 ∧ b3 < 67108864 ∧ c3 < 67108864 ∧ d3 < 67108864 ∧ e3 < 67108864 ∧
   a1 < 1152921504606846976 ∧ b1 < 67108864 ∧ c1 < 67108864 ∧ d1 < 67108864 ∧ e1 < 67108864 ∧ a2 < 1152921504606846976 ∧ b2 < 67108864 ∧ c2 < 67108864 ∧ d2 < 67108864 ∧ e2 < 67108864 := by
 obtain ⟨a1, b1, c1, d1, e1, q1, h1, v1, hb1, hc1, hd1, he1, hq1, ha1⟩ := A2q a b c d e
 obtain ⟨a2, b2, c2, d2, e2, q2, h2, v2, hb2, hc2, hd2, he2, hq2, ha2⟩ := A2q a1 b1 c1 d1 e1
 obtain ⟨a3, b3, c3, d3, e3, q3, h3, v3, hb3, hc3, hd3, he3, hq3, ha3⟩ := A2q a2 b2 c2 d2 e2
 have hq1' : q1 < 8589934592 := by rw [hq1]; omega
 have ha1' : a1 < 67108864 + 5 * 8589934592 := by omega
 have hq2' : q2 ≤ 1 := by rw [hq2]; omega
 have ha2' : a2 < 67108864 + 5 := by omega
 have ha3' : a3 < 67108864 := by
  rcases Nat.lt_or_ge a2 67108864 with h | h
  ·have : q3 = 0 := by rw [hq3]; omega
   omega
  ·have : q3 ≤ 1 := by rw [hq3]; omega
   omega
 refine ⟨a1, b1, c1, d1, e1, a2, b2, c2, d2, e2, a3, b3, c3, d3, e3, h1, h2, h3, ?_, ha3', hb3, hc3, hd3, he3, by omega, hb1, hc1, hd1, he1, by omega, hb2, hc2, hd2, he2⟩
 rw [← v1, ← v2, ← v3]
 simp [Nat.add_mul_mod_self_right]
theorem BW6 {a b c d e : Nat} (ha : a < 67108864) (hb : b < 67108864) (hc : c < 67108864) (hd : d < 67108864) (he : e < 67108864) : car a b c d e = [a, b, c, d, e] := by
 unfold car
 rw [show a / 67108864 = 0 by omega, Nat.add_zero, show b / 67108864 = 0 by omega, Nat.add_zero, show c / 67108864 = 0 by omega, Nat.add_zero, show d / 67108864 = 0 by omega, Nat.add_zero, show e / 67108864 = 0 by omega,
  Nat.mod_eq_of_lt ha, Nat.mod_eq_of_lt hb, Nat.mod_eq_of_lt hc, Nat.mod_eq_of_lt hd, Nat.mod_eq_of_lt he, Nat.mul_zero, Nat.add_zero]
theorem sc (α β x y : Nat) : (α * x) * (β * y) = (α * β) * (x * y) := Nat.mul_mul_mul_comm α x β y
theorem BK4 (x0 x1 x2 x3 x4 y0 y1 y2 y3 y4 : Nat) : ∃ q, val x0 x1 x2 x3 x4 * val y0 y1 y2 y3 y4 =
  val (x0 * y0 + 5 * (x1 * y4) + 5 * (x2 * y3) + 5 * (x3 * y2) + 5 * (x4 * y1)) (x0 * y1 + x1 * y0 + 5 * (x2 * y4) + 5 * (x3 * y3) + 5 * (x4 * y2))
   (x0 * y2 + x1 * y1 + x2 * y0 + 5 * (x3 * y4) + 5 * (x4 * y3)) (x0 * y3 + x1 * y2 + x2 * y1 + x3 * y0 + 5 * (x4 * y4)) (x0 * y4 + x1 * y3 + x2 * y2 + x3 * y1 + x4 * y0) + q * PP := by
 refine ⟨(x1 * y4 + x2 * y3 + x3 * y2 + x4 * y1) + 67108864 * (x2 * y4 + x3 * y3 + x4 * y2) + 4503599627370496 * (x3 * y4 + x4 * y3) + 302231454903657293676544 * (x4 * y4), ?_⟩
 unfold val PP
 have e : (x0 + 67108864 * x1 + 4503599627370496 * x2 + 302231454903657293676544 * x3 + 20282409603651670423947251286016 * x4) * (y0 + 67108864 * y1 + 4503599627370496 * y2 + 302231454903657293676544 * y3 + 20282409603651670423947251286016 * y4) =
   (x0 * y0) + 67108864 * (x0 * y1) + 4503599627370496 * (x0 * y2) + 302231454903657293676544 * (x0 * y3) + 20282409603651670423947251286016 * (x0 * y4)
   + (67108864 * (x1 * y0) + (67108864 * 67108864) * (x1 * y1) + (67108864 * 4503599627370496) * (x1 * y2) + (67108864 * 302231454903657293676544) * (x1 * y3) + (67108864 * 20282409603651670423947251286016) * (x1 * y4))
   + (4503599627370496 * (x2 * y0) + (4503599627370496 * 67108864) * (x2 * y1) + (4503599627370496 * 4503599627370496) * (x2 * y2) + (4503599627370496 * 302231454903657293676544) * (x2 * y3) + (4503599627370496 * 20282409603651670423947251286016) * (x2 * y4))
   + (302231454903657293676544 * (x3 * y0) + (302231454903657293676544 * 67108864) * (x3 * y1) + (302231454903657293676544 * 4503599627370496) * (x3 * y2) + (302231454903657293676544 * 302231454903657293676544) * (x3 * y3) + (302231454903657293676544 * 20282409603651670423947251286016) * (x3 * y4))
   + (20282409603651670423947251286016 * (x4 * y0) + (20282409603651670423947251286016 * 67108864) * (x4 * y1) + (20282409603651670423947251286016 * 4503599627370496) * (x4 * y2) + (20282409603651670423947251286016 * 302231454903657293676544) * (x4 * y3) + (20282409603651670423947251286016 * 20282409603651670423947251286016) * (x4 * y4)) := by
  rw [Nat.add_mul, Nat.add_mul, Nat.add_mul, Nat.add_mul]
  congr 1
  ·congr 1
   ·congr 1
    ·congr 1
     ·rw [Nat.mul_add, Nat.mul_add, Nat.mul_add, Nat.mul_add, Nat.mul_left_comm x0, Nat.mul_left_comm x0, Nat.mul_left_comm x0, Nat.mul_left_comm x0]
     ·rw [Nat.mul_add, Nat.mul_add, Nat.mul_add, Nat.mul_add, sc _ _ x1 y1, sc _ _ x1 y2, sc _ _ x1 y3, sc _ _ x1 y4, Nat.mul_assoc _ x1 y0]
    ·rw [Nat.mul_add, Nat.mul_add, Nat.mul_add, Nat.mul_add, sc _ _ x2 y1, sc _ _ x2 y2, sc _ _ x2 y3, sc _ _ x2 y4, Nat.mul_assoc _ x2 y0]
   ·rw [Nat.mul_add, Nat.mul_add, Nat.mul_add, Nat.mul_add, sc _ _ x3 y1, sc _ _ x3 y2, sc _ _ x3 y3, sc _ _ x3 y4, Nat.mul_assoc _ x3 y0]
  ·rw [Nat.mul_add, Nat.mul_add, Nat.mul_add, Nat.mul_add, sc _ _ x4 y1, sc _ _ x4 y2, sc _ _ x4 y3, sc _ _ x4 y4, Nat.mul_assoc _ x4 y0]
 rw [e]
 generalize x0 * y0 = p00; generalize x0 * y1 = p01; generalize x0 * y2 = p02; generalize x0 * y3 = p03; generalize x0 * y4 = p04
 generalize x1 * y0 = p10; generalize x1 * y1 = p11; generalize x1 * y2 = p12; generalize x1 * y3 = p13; generalize x1 * y4 = p14
 generalize x2 * y0 = p20; generalize x2 * y1 = p21; generalize x2 * y2 = p22; generalize x2 * y3 = p23; generalize x2 * y4 = p24
 generalize x3 * y0 = p30; generalize x3 * y1 = p31; generalize x3 * y2 = p32; generalize x3 * y3 = p33; generalize x3 * y4 = p34
 generalize x4 * y0 = p40; generalize x4 * y1 = p41; generalize x4 * y2 = p42; generalize x4 * y3 = p43; generalize x4 * y4 = p44
 clear e
 omega
def leV : List UInt8 → Nat
 | [] => 0
 | c :: cs => c.toNat + 256 * leV cs
theorem A48 : ∀ (l : List UInt8), leV l < 256 ^ l.length
 | [] => by simp [leV]
 | c :: cs => by
  have := A48 cs
  have hc := c.toNat_lt
  simp only [leV, List.length_cons, Nat.pow_succ]
  omega
theorem AG5 : ∀ (a b : List UInt8), leV (a ++ b) = leV a + 256 ^ a.length * leV b
 | [], b => by simp [leV]
 | c :: cs, b => by
  simp only [List.cons_append, leV, AG5 cs b, List.length_cons, Nat.pow_succ, Nat.mul_add]
  rw [show 256 ^ cs.length * 256 * leV b = 256 * (256 ^ cs.length * leV b) by rw [Nat.mul_comm (256 ^ cs.length) 256, Nat.mul_assoc]]
  omega
theorem A2C : ∀ (n : Nat), leV (List.replicate n 0) = 0
 | 0 => rfl
 | n + 1 => by simp [List.replicate_succ, leV, A2C n]
def L5 (n : Nat) : List Nat := [n % 67108864, n / 67108864 % 67108864, n / 4503599627370496 % 67108864, n / 302231454903657293676544 % 67108864, n / 20282409603651670423947251286016 % 67108864]
theorem BG4 {n : Nat} (h : n < 1361129467683753853853498429727072845824) : val (n % 67108864) (n / 67108864 % 67108864) (n / 4503599627370496 % 67108864) (n / 302231454903657293676544 % 67108864) (n / 20282409603651670423947251286016 % 67108864) = n := by
 unfold val; omega
theorem A98 {a b c d e : Nat} (ha : a < 67108864) (hb : b < 67108864) (hc : c < 67108864) (hd : d < 67108864) (he : e < 67108864) : L5 (val a b c d e) = [a, b, c, d, e] := by
 unfold L5 val
 congr 1
 ·omega
 ·congr 1
  ·omega
  ·congr 1
   ·omega
   ·congr 1
    ·omega
    ·congr 1; omega
theorem BV6 {a b c d e : Nat} (ha : a < 67108864) (hb : b < 67108864) (hc : c < 67108864) (hd : d < 67108864) (he : e < 67108864) : val a b c d e < 1361129467683753853853498429727072845824 := by
 unfold val; omega
theorem BU7 {x y : Nat} (hx : x < 1361129467683753853853498429727072845824) (hy : y < 1361129467683753853853498429727072845824) (h : x % PP = y % PP) : (if PP ≤ x then x - PP else x) = (if PP ≤ y then y - PP else y) := by
 have e : ∀ z, z < 1361129467683753853853498429727072845824 → (if PP ≤ z then z - PP else z) = z % PP := fun z hz => by
  unfold PP at *
  split <;> omega
 rw [e x hx, e y hy, h]
end Go.Rf

end
section
namespace Go.Rf
set_option linter.unusedSectionVars false
variable [T : Laid]
theorem BI0 (a b : Nat) : (a ||| b) % 4294967296 = (a % 4294967296) ||| (b % 4294967296) := Nat.or_mod_two_pow (n := 32)
theorem jT {a b : Nat} (ha : a < 4294967296) (hb : b < 4294967296) : a ||| b < 4294967296 := Nat.or_lt_two_pow (n := 32) ha hb
theorem xE {a b : Nat} (ha : a < 4294967296) (hb : b < 4294967296) : a ^^^ b < 4294967296 := Nat.xor_lt_two_pow (n := 32) ha hb
theorem mK {a b : Nat} (ha : a < 4294967296) : a &&& b < 4294967296 := Nat.lt_of_le_of_lt Nat.and_le_left ha
theorem wO (a : Nat) : a % 4294967296 < 4294967296 := Nat.mod_lt _ (by decide)
theorem nB {a : Nat} (n : Nat) (ha : a < 4294967296) : a / n < 4294967296 := Nat.lt_of_le_of_lt (Nat.div_le_self _ _) ha
def rl (s x : Nat) : Nat := (x * 2 ^ s % 4294967296) ||| (x / 2 ^ (32 - s))
theorem Ak7 {s x : Nat} (hx : x < 4294967296) : rl s x < 4294967296 := jT (wO _) (nB _ hx)
def rr (n x : Nat) : Nat := rl (32 - n) x
theorem kQ {s x : Nat} (hx : x < 4294967296) : rr s x < 4294967296 := Ak7 hx
theorem BQ9 {n x : Nat} (hn : n ≤ 32) (hx : x < 4294967296) : (x / 2 ^ n ||| x * 2 ^ (32 - n)) % 4294967296 = rr n x := by
 rw [BI0, Nat.mod_eq_of_lt (nB _ hx), Nat.or_comm]
 unfold rr rl
 rw [show 32 - (32 - n) = n by omega]
theorem BM8 {n x : Nat} (hx : x < 4294967296) : (x * 2 ^ n ||| x / 2 ^ (32 - n)) % 4294967296 = rl n x := by
 rw [BI0, Nat.mod_eq_of_lt (nB _ hx)]; rfl
def g0 (x : Nat) : Nat := rr 7 x ^^^ rr 18 x ^^^ x / 2 ^ 3
def g1 (x : Nat) : Nat := rr 17 x ^^^ rr 19 x ^^^ x / 2 ^ 10
def S1 (e : Nat) : Nat := rr 6 e ^^^ rr 11 e ^^^ rr 25 e
def S0 (a : Nat) : Nat := rr 2 a ^^^ rr 13 a ^^^ rr 22 a
def ch (e f g : Nat) : Nat := (e &&& f) ^^^ ((4294967295 ^^^ e) &&& g)
def mj (a b c : Nat) : Nat := (a &&& b) ^^^ (a &&& c) ^^^ (b &&& c)
theorem Bg9 {x : Nat} (h : x < 4294967296) : g0 x < 4294967296 := xE (xE (kQ h) (kQ h)) (nB _ h)
theorem Bf1 {x : Nat} (h : x < 4294967296) : g1 x < 4294967296 := xE (xE (kQ h) (kQ h)) (nB _ h)
theorem Be0 {x : Nat} (h : x < 4294967296) : S1 x < 4294967296 := xE (xE (kQ h) (kQ h)) (kQ h)
theorem Bg0 {x : Nat} (h : x < 4294967296) : S0 x < 4294967296 := xE (xE (kQ h) (kQ h)) (kQ h)
theorem Bf4 {e f g : Nat} (he : e < 4294967296) : ch e f g < 4294967296 := xE (mK he) (mK (xE (by decide) he))
theorem Be9 {a b c : Nat} (ha : a < 4294967296) (hb : b < 4294967296) : mj a b c < 4294967296 := xE (xE (mK ha) (mK ha)) (mK hb)
def bt (t : List UInt8) (i : Nat) : Nat := (t.getD i 0).toNat
theorem sT (t : List UInt8) (i : Nat) : bt t i < 256 := UInt8.toNat_lt _
def wBE (t : List UInt8) (i : Nat) : Nat := bt t i * 2 ^ 24 ||| bt t (i + 1) * 2 ^ 16 ||| bt t (i + 2) * 2 ^ 8 ||| bt t (i + 3)
def wLE (t : List UInt8) (i : Nat) : Nat := bt t i ||| bt t (i + 1) * 2 ^ 8 ||| bt t (i + 2) * 2 ^ 16 ||| bt t (i + 3) * 2 ^ 24
theorem Bb8 (t : List UInt8) (i : Nat) : wBE t i < 4294967296 := by
 have h0 := sT t i; have h1 := sT t (i + 1); have h2 := sT t (i + 2); have h3 := sT t (i + 3)
 exact jT (jT (jT (by omega) (by omega)) (by omega)) (by omega)
theorem BG5 (t : List UInt8) (i : Nat) : wLE t i < 4294967296 := by
 have h0 := sT t i; have h1 := sT t (i + 1); have h2 := sT t (i + 2); have h3 := sT t (i + 3)
 exact jT (jT (jT (by omega) (by omega)) (by omega)) (by omega)
def stA (t : List UInt8) (i : Nat) (w : List Nat) : List Nat := w.set i (wBE t (4 * i))
def stB (i : Nat) (w : List Nat) : List Nat := w.set (i + 16) ((w.getD i 0 + g0 (w.getD (i + 1) 0) + w.getD (i + 9) 0 + g1 (w.getD (i + 14) 0)) % 4294967296)
def stC (k w : List Nat) (i : Nat) (v : List Nat) : List Nat :=
 let x := v.getD 7 0 + S1 (v.getD 4 0) + ch (v.getD 4 0) (v.getD 5 0) (v.getD 6 0) + k.getD i 0 + w.getD i 0
 [(x + S0 (v.getD 0 0) + mj (v.getD 0 0) (v.getD 1 0) (v.getD 2 0)) % 4294967296, v.getD 0 0, v.getD 1 0, v.getD 2 0, (v.getD 3 0 + x) % 4294967296, v.getD 4 0, v.getD 5 0, v.getD 6 0]
def stD (v : List Nat) (i : Nat) (h : List Nat) : List Nat := h.set i ((h.getD i 0 + v.getD i 0) % 4294967296)
def Bh4 (t : List UInt8) : List Nat := wE stB 48 0 (wE (stA t) 16 0 (List.replicate 64 0))
def A89 (k h : List Nat) (t : List UInt8) : List Nat := wE (stD (wE (stC k (Bh4 t)) 64 0 h)) 8 0 h
def A9F (k : List Nat) : Nat → List Nat → List UInt8 → List Nat × List UInt8
 | 0, h, t => (h, t)
 | n + 1, h, t => if 64 ≤ t.length then A9F k n (A89 k h t) (t.drop 64) else (h, t)
def qr (a b c d : Nat) : Nat × Nat × Nat × Nat :=
 let a1 := (a + b) % 4294967296
 let d1 := rl 16 (d ^^^ a1)
 let c1 := (c + d1) % 4294967296
 let b1 := rl 12 (b ^^^ c1)
 let a2 := (a1 + b1) % 4294967296
 let d2 := rl 8 (d1 ^^^ a2)
 let c2 := (c1 + d2) % 4294967296
 let b2 := rl 7 (b1 ^^^ c2)
 (a2, b2, c2, d2)
theorem Be4 {a b c d : Nat} (hb : b < 4294967296) (hd : d < 4294967296) : (qr a b c d).1 < 4294967296 ∧ (qr a b c d).2.1 < 4294967296 ∧ (qr a b c d).2.2.1 < 4294967296 ∧ (qr a b c d).2.2.2 < 4294967296 := by
 refine ⟨wO _, Ak7 (xE (Ak7 (xE hb (wO _))) (wO _)), wO _, Ak7 (xE (Ak7 (xE hd (wO _))) (wO _))⟩
def qs (a b c d : Nat) (y : List Nat) : List Nat :=
 let q := qr (y.getD a 0) (y.getD b 0) (y.getD c 0) (y.getD d 0)
 (((y.set a q.1).set b q.2.1).set c q.2.2.1).set d q.2.2.2
def dr (y : List Nat) : List Nat :=
 qs 3 4 9 14 (qs 2 7 8 13 (qs 1 6 11 12 (qs 0 5 10 15 (qs 3 7 11 15 (qs 2 6 10 14 (qs 1 5 9 13 (qs 0 4 8 12 y)))))))
theorem Bg2 {a b c d : Nat} {y : List Nat} (h : Bd 4294967296 y) : Bd 4294967296 (qs a b c d y) := by
 have := Be4 (a := y.getD a 0) (c := y.getD c 0) (h.get (by decide) b) (h.get (by decide) d)
 exact (((h.set this.1).set this.2.1).set this.2.2.1).set this.2.2.2
theorem BZ1 {a b c d : Nat} {y : List Nat} : (qs a b c d y).length = y.length := by simp [qs]
def Am8 : List UInt8 → List UInt8 → List UInt8
 | a :: xs, b :: ys => (a ^^^ b) :: Am8 xs ys
 | _, _ => []
end Go.Rf

end
section
namespace Go.Rf.S
def ub (l : List Nat) : List UInt8 := List.map UInt8.ofNat l
def stL (v i : Nat) (o : List Nat) : List Nat := o ++ [v / 2 ^ (8 * i) % 256]
def lit (v n : Nat) : List Nat := wE (stL v) n 0 []
def exC : List UInt8 := [101, 120, 112, 97, 110, 100, 32, 51, 50, 45, 98, 121, 116, 101, 32, 107]
def chI (key nonce : List UInt8) (count : Nat) : List Nat :=
 [wLE exC 0, wLE exC 4, wLE exC 8, wLE exC 12, wLE key 0, wLE key 4, wLE key 8, wLE key 12, wLE key 16, wLE key 20, wLE key 24, wLE key 28, count, wLE nonce 0, wLE nonce 4, wLE nonce 8]
def rk (k : Nat) (y : List Nat) : List Nat := wE (fun i y => qs i (4 + (i + k) % 4) (8 + (i + 2 * k) % 4) (12 + (i + 3 * k) % 4) y) 4 0 y
def r10 (y : List Nat) : List Nat := wE (fun _ y => rk 1 (rk 0 y)) 10 0 y
def stF (x y : List Nat) (i : Nat) (o : List Nat) : List Nat := o ++ lit ((y.getD i 0 + x.getD i 0) % 4294967296) 4
def chO (x : List Nat) : List Nat := wE (stF x (r10 x)) 16 0 []
def chB (key nonce : List UInt8) (count : Nat) : List UInt8 := ub (chO (chI key nonce count))
def chX (key nonce : List UInt8) : Nat → Nat → List UInt8 → List UInt8
 | 0, _, _ => []
 | n + 1, count, t => if t = [] then [] else Am8 (t.take 64) (chB key nonce count) ++ chX key nonce n (count + 1) (t.drop 64)
end Go.Rf.S

end
section
namespace Go.Rf
set_option linter.unusedSectionVars false
variable [T : Laid]
theorem dT {p : Prop} [Decidable p] (h : p) : decide p = true := decide_eq_true h
theorem dF {p : Prop} [Decidable p] (h : ¬ p) : decide p = false := decide_eq_false h
theorem st : (∀ i : Nat, zA (i : Int) = true) ∧ (∀ i : Int, 0 ≤ i → zA i = true) ∧ (∀ i : Nat, Int.toNat (i : Int) = i) ∧ (∀ i n : Nat, i < n → Nat.blt i n = true) ∧ (∀ i n : Nat, i ≤ n → Nat.ble i n = true)
    ∧ (∀ n : Nat, n ≤ 1099511627776 → yB n = true) ∧ (∀ n : Int, -9223372036854775808 ≤ n → n ≤ 9223372036854775807 → IntKind.wrap .i64 n = n)
    ∧ (∀ (α : Type) (a b : α), cond true a b = a) ∧ (∀ (α : Type) (a b : α), cond false a b = b) ∧ (∀ (α β : Type) (a : α) (f : α → Option β), (some a).bind f = f a)
    ∧ (∀ (α : Type) (a : α), [a].length = 1) ∧ (∀ (α : Type) (a b : List α), (a ++ b).length = a.length + b.length) ∧ (∀ a b : Int, a = b → eqI a b = true) ∧ (∀ a b : Int, a ≠ b → eqI a b = false) :=
  ⟨nn, fun i h => by simp [zA]; omega, tn, fun i n h => yP h, fun i n h => by simpa [Nat.ble_eq] using h, fun n h => uB h, fun n h1 h2 => zO h1 h2,
   fun _ _ _ => rfl, fun _ _ _ => rfl, fun _ _ _ _ => rfl, fun _ _ => rfl, fun _ _ _ => List.length_append, fun a b h => by rw [oJ]; exact decide_eq_true h, fun a b h => by rw [oJ]; exact decide_eq_false h⟩
theorem Ai1 {α β γ : Type} (F : List β → Int → Option γ) (v : List α) (d : α) (f : Nat → α → β) (K : List β → Option γ) (o0 : List β)
  (stop : ∀ o, o.length = o0.length + v.length → F o (v.length : Nat) = K o)
  (step : ∀ o (i : Nat), i < v.length → o.length = o0.length + i → F o (i : Nat) = F (o ++ [f i (v.getD i d)]) ((i + 1 : Nat) : Int)) : F o0 0 = K (o0 ++ v.mapIdx f) := by
 have h : ∀ (n i : Nat), v.length - i = n → i ≤ v.length → F (o0 ++ (v.take i).mapIdx f) (i : Nat) = K (o0 ++ v.mapIdx f) := by
  intro n
  induction n with
  | zero =>
   intro i hn hi
   have : i = v.length := by omega
   subst this
   rw [List.take_length, stop _ (by rw [List.length_append, List.length_mapIdx])]
  | succ n ih =>
   intro i hn hi
   rw [step _ i (by omega) (by rw [List.length_append, List.length_mapIdx, List.length_take]; omega), ← ih (i + 1) (by omega) (by omega)]
   have hg : v[i]? = some (v.getD i d) := by rw [List.getD_eq_getElem?_getD, List.getElem?_eq_getElem (by omega)]; rfl
   rw [List.take_add_one, hg, Option.toList_some, List.mapIdx_append, List.length_take, Nat.min_eq_left (by omega), List.append_assoc]
   simp
 have := h v.length 0 rfl (Nat.zero_le _)
 simpa using this
theorem AH0 {α β γ : Type} (F : List β → Int → Option γ) (v : List α) (d : α) (g : α → List β) (K : List β → Option γ) (o0 : List β) (c : Nat) (hc : ∀ x ∈ v, (g x).length ≤ c)
  (stop : ∀ o, o.length ≤ o0.length + v.length * c → F o (v.length : Nat) = K o)
  (step : ∀ o (i : Nat), i < v.length → o.length ≤ o0.length + i * c → v.getD i d ∈ v → F o (i : Nat) = F (o ++ g (v.getD i d)) ((i + 1 : Nat) : Int)) : F o0 0 = K (o0 ++ v.flatMap g) := by
 have h : ∀ (n i : Nat) (o : List β), v.length - i = n → i ≤ v.length → o.length ≤ o0.length + i * c → F o (i : Nat) = K (o ++ (v.drop i).flatMap g) := by
  intro n
  induction n with
  | zero =>
   intro i o hn hi ho
   have : i = v.length := by omega
   subst this
   rw [List.drop_length, stop o ho]; simp
  | succ n ih =>
   intro i o hn hi ho
   have hm : v.getD i d ∈ v := sN (by omega)
   have := hc _ hm
   rw [step o i (by omega) ho hm, ih (i + 1) _ (by omega) (by omega) (by rw [List.length_append, Nat.add_mul]; omega), qY (d := d) (show i < v.length by omega), List.flatMap_cons, List.append_assoc]
 have := h v.length 0 o0 rfl (Nat.zero_le _) (by omega)
 simpa using this
theorem Bb4 {α : Type} {v r : List α} {i : Nat} {a b d : α} (h : v.drop i = a :: b :: r) : i + 1 < v.length ∧ v.getD i d = a ∧ v.getD (i + 1) d = b ∧ v.drop (i + 2) = r := by
 have hl : (v.drop i).length = r.length + 2 := by rw [h]; rfl
 rw [List.length_drop] at hl
 have h0 := qY (d := d) (show i < v.length by omega)
 have h1 := qY (d := d) (show i + 1 < v.length by omega)
 rw [h, h1] at h0
 injection h0 with e1 e2
 injection e2 with e2 e3
 exact ⟨by omega, e1.symm, e2.symm, e3.symm⟩
theorem A0n {i : Nat} (h : i < 4611686018427387904) : IntKind.wrap .i64 ((i : Int) + 2) = ((i + 2 : Nat) : Int) := by
 rw [zO (by omega) (by omega)]; omega
end Go.Rf

end
section
namespace Go.Rf
abbrev TB : Type := Int × (Int × (Int × Unit))
abbrev TR : Type := Int × (List Int × Unit)
abbrev TO : Type := List Int × (List TB × (List (List TB) × Unit))
abbrev TE : Type := List Int × (TO × Unit)
def inR (n a b : Int) : Bool := decide (a ≤ n) && decide (n ≤ b)
abbrev LO : Type := Option (List Int)
def pN (b : Int) : LO → Int × LO
 | some (x :: l) => if inR x 0 b then (x, some l) else (0, none)
 | _ => (0, none)
def pS (b : Int) : Nat → LO → List Int × LO
 | 0, o => ([], o)
 | n + 1, o => ((pN b o).1 :: (pS b n (pN b o).2).1, (pS b n (pN b o).2).2)
def pB1 (o : LO) : TB × LO := (((pN 11 o).1, ((pN 7 (pN 11 o).2).1, ((pN 999999 (pN 7 (pN 11 o).2).2).1, ()))), (pN 999999 (pN 7 (pN 11 o).2).2).2)
def pB : Nat → LO → List TB × LO
 | 0, o => ([], o)
 | n + 1, o => ((pB1 o).1 :: (pB n (pB1 o).2).1, (pB n (pB1 o).2).2)
def pR1 (o : LO) : TR × LO := (((pN 19 o).1, ((pS 999999 (pN 32 (pN 19 o).2).1.toNat (pN 32 (pN 19 o).2).2).1, ())), (pS 999999 (pN 32 (pN 19 o).2).1.toNat (pN 32 (pN 19 o).2).2).2)
def pR : Nat → LO → List TR × LO
 | 0, o => ([], o)
 | n + 1, o => ((pR1 o).1 :: (pR n (pR1 o).2).1, (pR n (pR1 o).2).2)
def pE : LO → Bool
 | none => false
 | some l => l.all fun n => decide (n = 0)
def A6n (x : TB) : Bool := inR x.1 0 11 && (inR x.2.1 0 7 && inR x.2.2.1 0 999999)
def nob : List (List TB) := List.replicate 15 []
def pK (o : LO) : List Int × LO := pS 7 12 o
def pT (o : LO) : List TB × LO := pB (pN 12 (pK o).2).1.toNat (pN 12 (pK o).2).2
def pY (o : LO) : List Int × LO := pS 9999 11 (pT o).2
def pZ (o : LO) : List TR × LO := pR (pN 2 (pY o).2).1.toNat (pN 2 (pY o).2).2
def BZ4 (o : LO) : TE := ((pY o).1, (((pK o).1, ((pT o).1, (nob, ()))), ()))
def pV (o : LO) : List TB × LO := pB (pN 2 o).1.toNat (pN 2 o).2
theorem A5B : ∀ (n : Nat) (o : LO), (pB n o).1.length = n
 | 0, _ => rfl
 | n + 1, o => by show (_ :: _ : List TB).length = _; rw [List.length_cons, A5B n]
end Go.Rf

end
section
namespace Go.Rf
def A6K : Nat → Nat → List Int
 | 0, _ => []
 | f + 1, a => if a = 0 then [0] else A6K f ((a - 1) / 2) ++ [(a : Int)]
def A87 (leaf : Int) : List Int := A6K 4 (7 + leaf.toNat)
def onB (i : Nat) (leaf : Int) : Bool := (A87 leaf).any fun x => decide (x = (i : Int))
def Ax3 (l : List Int) (n : Int) : Bool := l.any fun x => decide (x = n)
def A9N (pos : List Int) (b : TB) : Bool := inR b.1 0 11 && (decide (pos.getD b.1.toNat 0 = b.2.1) && inR b.2.2.1 0 999999)
def ids (l : List TB) : List Int := l.map (·.1)
def An0 (pos : List Int) : List Int → List TB → Bool
 | _, [] => true
 | seen, b :: r => (A9N pos b && !Ax3 seen b.1) && An0 pos (seen ++ [b.1]) r
def BY2 (pos : List Int) (i : Nat) : List Int → List TB → Bool
 | _, [] => true
 | seen, b :: r => ((A9N pos b && !Ax3 seen b.1) && onB i b.2.1) && BY2 pos i (seen ++ [b.1]) r
def bkS (pos : List Int) : Nat → List Int → List (List TB) → Bool
 | _, _, [] => true
 | i, seen, k :: r => decide (k.length ≤ 2) && (BY2 pos i seen k && bkS pos (i + 1) (seen ++ ids k) r)
def BR5 : Nat → List (List TB) → Bool
 | _, [] => true
 | i, k :: r => decide (k.length ≤ 2) && ((k.all fun b => onB i b.2.1) && BR5 (i + 1) r)
def iX (n : Int) : Bool := inR n 0 7
def A3k (o : TO) : Bool := decide (o.1.length = 12) && (o.1.all iX && (decide (o.2.1.length ≤ 12) && (decide (o.2.2.1.length = 15) && (An0 o.1 [] o.2.1 && bkS o.1 0 (ids o.2.1) o.2.2.1))))
def BC2 : List Int → List Int → Bool
 | _, [] => true
 | seen, k :: r => if k = 0 then BC2 seen r else (inR k 1 9999 && !Ax3 seen k) && BC2 (seen ++ [k]) r
def Ac0 (e : TE) : Bool := BC2 [] e.1 && (decide (e.1.length = 11) && A3k e.2.1)
theorem A4F (a b : List Int) (n : Int) : Ax3 (a ++ b) n = (Ax3 a n || Ax3 b n) := List.any_append
theorem Az9 (pos : List Int) : ∀ (a b : List TB) (seen : List Int), An0 pos seen (a ++ b) = (An0 pos seen a && An0 pos (seen ++ ids a) b)
 | [], b, seen => by show _ = (true && _); rw [show ids [] = [] from rfl, List.append_nil, Bool.true_and]; rfl
 | x :: a, b, seen => by
  show (_ && An0 pos (seen ++ [x.1]) (a ++ b)) = ((_ && An0 pos (seen ++ [x.1]) a) && _)
  rw [Az9 pos a b, show ids (x :: a) = [x.1] ++ ids a from rfl, ← List.append_assoc, ← Bool.and_assoc]
theorem A7W (pos : List Int) (i : Nat) : ∀ (l : List TB) (seen : List Int), BY2 pos i seen l = (An0 pos seen l && l.all fun b => onB i b.2.1)
 | [], _ => rfl
 | x :: l, seen => by
  show ((_ && onB i x.2.1) && BY2 pos i (seen ++ [x.1]) l) = ((_ && An0 pos (seen ++ [x.1]) l) && _)
  rw [A7W pos i l, List.all_cons]
  cases (A9N pos x && !Ax3 seen x.1) <;> cases onB i x.2.1 <;> cases An0 pos (seen ++ [x.1]) l <;> rfl
theorem BG8 (pos : List Int) : ∀ (l : List (List TB)) (i : Nat) (seen : List Int), bkS pos i seen l = (BR5 i l && An0 pos seen l.flatten)
 | [], _, _ => rfl
 | k :: r, i, seen => by
  show (_ && (BY2 pos i seen k && bkS pos (i + 1) (seen ++ ids k) r)) = ((_ && (_ && BR5 (i + 1) r)) && An0 pos seen (k ++ r.flatten))
  rw [A7W, BG8 pos r, Az9]
  cases decide (k.length ≤ 2) <;> cases (k.all fun b => onB i b.2.1) <;> cases BR5 (i + 1) r <;> cases An0 pos seen k <;> rfl
def A9P (pos : List Int) : List Bool → List TB → Bool
 | _, [] => true
 | arr, b :: r => (A6n b && (decide (b.2.1 = pos.getD b.1.toNat 0) && !arr.getD b.1.toNat false)) && A9P pos (arr.set b.1.toNat true) r
def BP5 : Nat → List (List TB) → Bool
 | _, [] => true
 | i, k :: r => (decide (k.length ≤ 2) && k.all fun b => iX b.2.1 && onB i b.2.1) && BP5 (i + 1) r
def BM9 (o : TO) : Bool := decide (o.1.length = 12) && (o.1.all iX && (decide (o.2.2.1.length = 15) && (BP5 0 o.2.2.1 && A9P o.1 (List.replicate 12 false) (o.2.1 ++ o.2.2.1.flatten))))
def Arr (arr : List Bool) (seen : List Int) : Prop := arr.length = 12 ∧ ∀ j : Nat, j < 12 → arr.getD j false = Ax3 seen (j : Int)
theorem Arr.step {arr : List Bool} {seen : List Int} (h : Arr arr seen) {n : Int} (hn : inR n 0 11 = true) : Arr (arr.set n.toNat true) (seen ++ [n]) := by
 unfold inR at hn
 simp only [Bool.and_eq_true, decide_eq_true_eq] at hn
 refine ⟨by rw [List.length_set]; exact h.1, fun j hj => ?_⟩
 rw [A4F, ← h.2 j hj, show Ax3 [n] (j : Int) = (decide (n = (j : Int)) || false) from rfl, Bool.or_false, List.getD_eq_getElem?_getD, List.getD_eq_getElem?_getD, List.getElem?_set]
 by_cases he : n.toNat = j
 ·rw [if_pos he, if_pos (by rw [h.1]; omega), decide_eq_true (show n = (j : Int) by omega), Bool.or_true]; rfl
 ·rw [if_neg he, decide_eq_false (show ¬ n = (j : Int) by omega), Bool.or_false]
theorem BH5 {pos : List Int} (hl : pos.length = 12) (hp : pos.all iX = true) {n : Int} (hn : inR n 0 11 = true) : iX (pos.getD n.toNat 0) = true := by
 unfold inR at hn
 simp only [Bool.and_eq_true, decide_eq_true_eq] at hn
 have hlt : n.toNat < pos.length := by omega
 have : pos.getD n.toNat 0 = pos[n.toNat] := by rw [List.getD_eq_getElem?_getD, List.getElem?_eq_getElem hlt]; rfl
 rw [this]
 exact List.all_eq_true.1 hp _ (List.getElem_mem hlt)
theorem A3X {pos : List Int} (hl : pos.length = 12) (hp : pos.all iX = true) : ∀ (l : List TB) (arr : List Bool) (seen : List Int), Arr arr seen → A9P pos arr l = An0 pos seen l
 | [], _, _, _ => rfl
 | b :: r, arr, seen, h => by
  show (_ && A9P pos (arr.set b.1.toNat true) r) = (_ && An0 pos (seen ++ [b.1]) r)
  unfold A6n A9N
  cases h1 : inR b.1 0 11 with
  | false => rfl
  | true =>
   rw [A3X hl hp r _ _ (h.step h1)]
   have hp1 := BH5 hl hp h1
   have h1' := h1
   unfold inR at h1'
   simp only [Bool.and_eq_true, decide_eq_true_eq] at h1'
   have ha := h.2 b.1.toNat (by omega)
   rw [Int.toNat_of_nonneg h1'.1] at ha
   rw [ha]
   by_cases he : b.2.1 = pos.getD b.1.toNat 0
   ·have h2 : inR b.2.1 0 7 = true := by rw [he]; exact hp1
    rw [decide_eq_true he, decide_eq_true he.symm, h2]
    cases inR b.2.2.1 0 999999 <;> cases Ax3 seen b.1 <;> rfl
   ·rw [decide_eq_false he, decide_eq_false (fun h => he h.symm)]
    cases inR b.2.1 0 7 <;> cases inR b.2.2.1 0 999999 <;> cases Ax3 seen b.1 <;> rfl
def A9I : List Bool → Nat
 | [] => 0
 | true :: r => A9I r
 | false :: r => A9I r + 1
theorem A4C : ∀ (arr : List Bool) (j : Nat), j < arr.length → arr.getD j false = false → A9I (arr.set j true) + 1 = A9I arr
 | [], j, h, _ => absurd h (Nat.not_lt_zero _)
 | x :: r, 0, _, h => by
  have h : x = false := h
  subst h; rfl
 | x :: r, j + 1, hj, h => by
  have := A4C r j (by simpa using hj) h
  show A9I (x :: r.set j true) + 1 = _
  cases x
  ·show A9I (r.set j true) + 1 + 1 = A9I r + 1; omega
  ·show A9I (r.set j true) + 1 = A9I r; omega
theorem A4M {pos : List Int} : ∀ (l : List TB) (arr : List Bool), arr.length = 12 → A9P pos arr l = true → l.length ≤ A9I arr
 | [], _, _, _ => Nat.zero_le _
 | b :: r, arr, ha, h => by
  have h : ((A6n b && (decide (b.2.1 = pos.getD b.1.toNat 0) && !arr.getD b.1.toNat false)) && A9P pos (arr.set b.1.toNat true) r) = true := h
  simp only [Bool.and_eq_true, Bool.not_eq_true'] at h
  have h1 := h.1.1
  unfold A6n at h1
  simp only [Bool.and_eq_true] at h1
  have h1 := h1.1
  unfold inR at h1
  simp only [Bool.and_eq_true, decide_eq_true_eq] at h1
  have := A4C arr b.1.toNat (by omega) h.1.2.2
  have := A4M r _ (by rw [List.length_set]; exact ha) h.2
  rw [List.length_cons]; omega
theorem A4h {pos : List Int} : ∀ (l : List TB) (seen : List Int), An0 pos seen l = true → l.all (A9N pos) = true
 | [], _, _ => rfl
 | b :: r, seen, h => by
  have h : ((A9N pos b && !Ax3 seen b.1) && An0 pos (seen ++ [b.1]) r) = true := h
  simp only [Bool.and_eq_true] at h
  rw [List.all_cons, h.1.1, A4h r _ h.2]; rfl
theorem BP2 {pos : List Int} (hl : pos.length = 12) (hp : pos.all iX = true) {b : TB} (h : A9N pos b = true) : A6n b = true := by
 unfold A9N at h
 simp only [Bool.and_eq_true, decide_eq_true_eq] at h
 unfold A6n
 rw [h.1, h.2.2, ← h.2.1, show inR (pos.getD b.1.toNat 0) 0 7 = true from BH5 hl hp h.1]; rfl
theorem A7n {pos : List Int} (hl : pos.length = 12) (hp : pos.all iX = true) : ∀ (l : List (List TB)) (i : Nat), l.flatten.all (A9N pos) = true → BP5 i l = BR5 i l
 | [], _, _ => rfl
 | k :: r, i, h => by
  rw [List.flatten_cons, List.all_append] at h
  simp only [Bool.and_eq_true] at h
  have e : ∀ (k : List TB), k.all (A9N pos) = true → (k.all fun b => iX b.2.1 && onB i b.2.1) = k.all fun b => onB i b.2.1 := fun k hk => by
   induction k with
   | nil => rfl
   | cons b k ih =>
    rw [List.all_cons] at hk
    simp only [Bool.and_eq_true] at hk
    have := BP2 hl hp hk.1
    unfold A6n at this
    simp only [Bool.and_eq_true] at this
    rw [List.all_cons, List.all_cons, ih hk.2, show iX b.2.1 = true from this.2.1]; rfl
  show ((_ && _) && BP5 (i + 1) r) = (_ && (_ && BR5 (i + 1) r))
  rw [A7n hl hp r (i + 1) h.2, e k h.1, Bool.and_assoc]
theorem Bh8 : Arr (List.replicate 12 false) [] := by
 refine ⟨List.length_replicate, fun j hj => ?_⟩
 rw [List.getD_eq_getElem?_getD, List.getElem?_replicate, if_pos hj]; rfl
theorem BD5 (o : TO) : BM9 o = A3k o := by
 unfold BM9 A3k
 by_cases h1 : o.1.length = 12
 ·cases h2 : o.1.all iX with
  | false => simp
  | true =>
   rw [A3X h1 h2 _ _ _ Bh8, BG8]
   have ea : An0 o.1 (ids o.2.1) o.2.2.1.flatten = An0 o.1 ([] ++ ids o.2.1) o.2.2.1.flatten := rfl
   rw [ea]
   have es := Az9 o.1 o.2.1 o.2.2.1.flatten []
   cases h3 : An0 o.1 [] (o.2.1 ++ o.2.2.1.flatten) with
   | true =>
    rw [h3] at es
    have es := es.symm
    simp only [Bool.and_eq_true] at es
    have hall := A4h _ _ es.2
    have hlen : o.2.1.length ≤ 12 := by
     have := A4M (pos := o.1) o.2.1 (List.replicate 12 false) rfl (by rw [A3X h1 h2 _ _ _ Bh8]; exact es.1)
     exact this
    rw [A7n h1 h2 _ _ hall, es.1, es.2, decide_eq_true hlen]
    cases decide (o.2.2.1.length = 15) <;> cases BR5 0 o.2.2.1 <;> rfl
   | false =>
    rw [h3] at es
    cases h4 : An0 o.1 [] o.2.1 with
    | false => simp
    | true =>
     rw [h4, Bool.true_and] at es
     rw [← es]; simp
 ·rw [decide_eq_false h1]; rfl
end Go.Rf

end
section
namespace Go.Rf
set_option linter.unusedSectionVars false
variable [T : Laid]
open Go.RowKit
def AU1 (E : Env) (c : FCfg) (f : FuncId) (ds : List Dyn) (x : c.rt.D) : Prop :=
 ∀ (w : World) (S : Nat → Prop) (β : Key → Option Nat) (cs : List (List Value)), Sane w S β → vV S β w c.modes ds cs 0 → AV6 E.P f (zZ ds cs).toArray w (Ret c x cs w S β)
def BX0 (τ : Ty) (d : Dyn) : Option (List τ.D) := mB d.t (.sl τ) d.x
def BD0 (d : Dyn) : Option Int := mB d.t (.int .i64) d.x
theorem A5e {d : Dyn} {n : Int} (h : BD0 d = some n) : d = ⟨.int .i64, n⟩ := by
 obtain ⟨t, x⟩ := d
 obtain ⟨e, h⟩ := vP h
 cases e; cases h; rfl
section
variable {E : Env} {w w' : World} {S : Nat → Prop} {β : Key → Option Nat} {keep : List Nat} {mv : List (Nat × Nat)} {ms : List Mode} {ax : List (List Value)}
theorem A0A {b o : Nat} {cs : Array Value} (hB : Blk w b cs) {v : Value} (h : cs.toList[o]? = some v) : w.cell? ⟨b, o, none⟩ = some v := by
 obtain ⟨e, fz, hb⟩ := hB
 rw [Array.getElem?_toList] at h
 simp only [World.cell?, hb]
 simpa using h
theorem AS8 (hs : Sane w S β) (h : Below w.heap.size w w') : Sane w' S β ∧ Step w S β w' S β :=
 ⟨⟨hs.inj, hs.sep, fun k b hk => Nat.lt_of_lt_of_le (hs.live k b hk) h.size, fun b hb => Nat.lt_of_lt_of_le (hs.liveS b hb) h.size, hs.tabs fun b hb => ⟨hb, h.block b (hs.liveS b hb)⟩⟩,
  ⟨h.size, fun b hb _ => h.block b hb, fun k b hk => .inl ⟨k, hk⟩, fun _ h => h, fun _ h => .inl h, ⟨h.os, h.tape, h.output⟩⟩⟩
theorem Ai3 (hs : Sane w S β) (h : Below w.heap.size w w') {t : List UInt8} (hio : AI8 S β w' ms ax 0 .unit ()) :
  Ret ⟨ms, 1, .pair .str .unit, .sh, keep, mv⟩ (t, ()) ax w S β (.string ⟨⟨t⟩⟩) w' := by
 obtain ⟨h1, h2⟩ := AS8 hs h
 refine ⟨S, β, [[.string ⟨⟨t⟩⟩]], h1, h2, ?_, rfl, hio⟩
 simp only [qZ]
 refine ⟨?_, trivial⟩
 refine yM.2 ?_
 simp [Rd]
def A7w (d : Dyn) : Option (List UInt8) := mB d.t .str d.x
theorem A6I {d : Dyn} {s : List UInt8} (h : A7w d = some s) : d = ⟨.str, s⟩ := by
 obtain ⟨t, x⟩ := d
 obtain ⟨e, h⟩ := vP h
 cases e; cases h; rfl
end
end Go.Rf

end
section
namespace Go.Rf
set_option linter.unusedSectionVars false
variable [T : Laid]
open Go.Shelf Go.RowKit Go.Lib Go.Proofs
section
variable {E : Env} {ρ : Ren} {w w' : World} {S : Nat → Prop} {β : Key → Option Nat} {keep : List Nat} {mv : List (Nat × Nat)} {ms : List Mode} {ax : List (List Value)}
def Bc4 : List Dyn → Option (Ty.pair .str .unit).D
 | [a, b] => (A7w a).bind fun s => (BD0 b).bind fun n => cond (decide (0 ≤ n) && (Nat.blt 0 s.length && Nat.ble (s.length * n.toNat) 1099511627776)) (some (repeatL s n.toNat, ())) none
 | _ => none
theorem A71 {ds : List Dyn} {x : (Ty.pair .str .unit).D} (h : Bc4 ds = some x) : ∃ (s : List UInt8) (n : Nat), ds = [⟨.str, s⟩, ⟨.int .i64, (n : Int)⟩] ∧ 0 < s.length ∧ s.length * n ≤ 1099511627776 ∧ x = (repeatL s n, ()) := by
 unfold Bc4 at h
 split at h
 ·rename_i a b
  obtain ⟨s, h1, h⟩ := Option.bind_eq_some_iff.1 h
  obtain ⟨n, h2, h⟩ := Option.bind_eq_some_iff.1 h
  rw [A6I h1, A5e h2]
  cases hb : (decide (0 ≤ n) && (Nat.blt 0 s.length && Nat.ble (s.length * n.toNat) 1099511627776)) with
  | false => rw [hb] at h; cases h
  | true =>
   rw [hb] at h
   simp only [Bool.and_eq_true, decide_eq_true_eq, Nat.ble_eq, Nat.blt_eq] at hb
   exact ⟨s, n.toNat, by rw [Int.toNat_of_nonneg hb.1], hb.2.1, hb.2.2, (Option.some.inj h).symm⟩
 ·cases h
theorem A8g {f : FuncId} {fn : Func} (L : Lays.n105 E.P ρ) (X : Builder.Extra E.P ρ) (hf : ρ.f 105 = f) (hfn : E.P.funcs[f]? = some fn) (hnm : (fn.name == "runtime.NumGoroutine") = false) (hbd : fn.body.isNone = false)
  (s : List UInt8) (n : Nat) (h1 : 0 < s.length) (h2 : s.length * n ≤ 1099511627776) :
  AU1 E ⟨[.ro .str, .ro (.int .i64)], 1, .pair .str .unit, .sh, keep, mv⟩ f [⟨.str, s⟩, ⟨.int .i64, (n : Int)⟩] (repeatL s n, ()) := by
 intro w S β cs hs ha
 match cs, ha with
 | [c1, c2], ha =>
  simp only [vV] at ha
  obtain ⟨_, hv, _, hv2, _⟩ := ha
  simp only [Rd] at hv hv2
  subst hv hv2
  refine .inl ⟨fn, hfn, hnm, hbd, ?_⟩
  have hn : n ≤ 1099511627776 := by
   have : 1 * n ≤ s.length * n := Nat.mul_le_mul_right _ h1
   omega
  by_cases h0 : n = 0
  ·subst h0
   have hcall := Any.strings_Repeat_zero L ⟨⟨s⟩⟩ w
   rw [hf] at hcall
   refine hcall.mono ?_
   rintro e w' ⟨rfl, rfl⟩
   have e0 : repeatL s 0 = [] := by simp [repeatL]
   rw [e0]
   exact Ai3 (t := []) hs (Below.refl _ _) (by simp [AI8])
  ·by_cases h1' : n = 1
   ·subst h1'
    have hcall := Any.strings_Repeat_one L ⟨⟨s⟩⟩ w
    rw [hf] at hcall
    refine hcall.mono ?_
    rintro e w' ⟨rfl, rfl⟩
    have e0 : repeatL s 1 = s := by simp [repeatL]
    rw [e0]
    exact Ai3 (t := s) hs (Below.refl _ _) (by simp [AI8])
   ·have hcall := Any.strings_Repeat_main L X ⟨⟨s⟩⟩ n w (by omega) (by omega) (Nat.le_trans h2 (by decide)) h1
    rw [hf] at hcall
    refine hcall.mono ?_
    rintro e w' ⟨rfl, hw⟩
    exact Ai3 (t := repeatL s n) hs hw (by simp [AI8])
 | [], ha | [_], ha => simp [vV] at ha
 | _ :: _ :: _ :: _, ha => simp [vV] at ha
noncomputable def okH (E : Env) (f : FuncId) (h : List Dyn → Option (E.cfg f).rt.D) : List Dyn → Option (E.cfg f).rt.D := fun ds =>
 (h ds).bind fun x => @ite _ (BE7 E f ds x) (Classical.propDecidable _) (some x) none
theorem Ap2 {f : FuncId} {h : List Dyn → Option (E.cfg f).rt.D} {ds : List Dyn} {x : (E.cfg f).rt.D} (e : okH E f h ds = some x) : BE7 E f ds x := by
 unfold okH at e
 obtain ⟨y, h1, h2⟩ := Option.bind_eq_some_iff.1 e
 split at h2
 ·rename_i hk
  cases h2; exact hk
 ·cases h2
theorem A1A {f : FuncId} {h : List Dyn → Option (E.cfg f).rt.D} {ds : List Dyn} {x : (E.cfg f).rt.D} (e : h ds = some x) (hk : BE7 E f ds x) : okH E f h ds = some x := by
 unfold okH
 rw [e]
 exact if_pos hk
end
end Go.Rf

end
section
namespace Go.Rf
set_option linter.unusedSectionVars false
variable [T : Laid]
open Go.Shelf Go.RowKit Go.Lib Go.Proofs
section
variable {E : Env} {w w' : World} {S : Nat → Prop} {β : Key → Option Nat} {keep : List Nat} {mv : List (Nat × Nat)} {ms : List Mode}
theorem AC1 (hs : Sane w S β) (h : Below w.heap.size w w') : Sane w' S (fun _ => none) :=
 ⟨fun _ _ _ h => (by cases h), fun _ _ h => (by cases h), fun _ _ h => (by cases h), fun b hb => Nat.lt_of_lt_of_le (hs.liveS b hb) h.size, hs.tabs fun b hb => ⟨hb, h.block b (hs.liveS b hb)⟩⟩
theorem Ax9 {f : FuncId} {ds : List Dyn} {t : List UInt8} (h : AU1 E ⟨ms, 1, .pair .str .unit, .sh, keep, mv⟩ f ds (t, ())) {cs : List (List Value)} (hs : Sane w S (fun _ => none)) (ha : vV S (fun _ => none) w ms ds cs 0)
  (he : (callFunc f (zZ ds cs).toArray).run E.P w = .ok (.enter f (zZ ds cs).toArray) w) :
  Calls E.P f (zZ ds cs).toArray w fun e w' => e = .returned (.string ⟨⟨t⟩⟩) ∧ Below w.heap.size w w' := by
 rcases h w S _ cs hs ha with ⟨fn, h1, h2, h3, h4⟩ | ⟨v, w', h1, _⟩
 ·refine h4.mono fun e w' he => ?_
  cases e with
  | returned v =>
   obtain ⟨S', β', crs, h5, h6, h7, h8, _⟩ := he
   match crs, h7 with
   | [c], h7 =>
    simp only [qZ] at h7
    have h9 := yM.1 h7.1
    simp only [Rd] at h9
    subst h9
    refine ⟨by rw [h8]; rfl, h6.out.os, h6.out.tape, h6.out.output, h6.size, fun k hk => h6.old k hk fun _ e => (by cases e)⟩
   | [], h7 => simp [qZ] at h7
   | _ :: _ :: _, h7 => simp [qZ] at h7
  | _ => exact he.elim
 ·rw [he] at h1; cases h1
theorem Az0 {T' e : TypeId} {B b : Nat} {bs : List Value} (h : IsBuilder T' e B b bs w) (hb : Below w.heap.size w w') : IsBuilder T' e B b bs w' := by
 have k : ∀ p, BuilderAt T' e B b p bs w → BuilderAt T' e B b p bs w' := fun p h => by
  have hl := h.lt
  obtain ⟨hB, v, h1, h2, h3⟩ := h
  exact ⟨hB, v, by rw [hb.block b hl]; exact h1, h2.kept (row := none) ⟨hb.os, hb.tape, hb.output, hb.size, fun k hk _ => hb.block k hk⟩ (by cases v.ownBlock <;> simp), h3⟩
 exact h.imp (k _) (k _)
theorem AF5 {B : Nat} (h : Below w.heap.size w w') (hB : B ≤ w.heap.size) : Below B w w' := ⟨h.os, h.tape, h.output, h.size, fun k hk => h.block k (Nat.lt_of_lt_of_le hk hB)⟩
end
end Go.Rf

end
section
namespace Go.Proofs
open Go.Shelf Go.RowKit
def Tryz.laysRep_ren : Go.Shelf.Ren := ⟨fun | 105 => 138 | 212 => 176 | 99 => 177 | 165 => 178 | 166 => 169 | 170 => 179 | 169 => 172 | 263 => 214 | 264 => 215 | 206 => 216 | 240 => 205 | 241 => 217 | 276 => 235 | 277 => 237 | n => n, fun | 9 => 9 | 3 => 3 | 4 => 4 | 20 => 20 | 0 => 0 | 46 => 182 | 109 => 217 | 5 => 5 | 72 => 208 | 76 => 211 | 51 => 146 | 146 => 248 | 53 => 242 | 148 => 250 | 70 => 206 | 37 => 22 | 75 => 210 | 127 => 241 | 164 => 266 | 80 => 57 | n => n, fun | n => n⟩
theorem Tryz.laysRep : Go.Proofs.Lays.n105 Tryz.prog Tryz.laysRep_ren := {
 mixed := by kernel_rfl
 f99 := Tryz.func177.trans (congrArg some (by kernel_rfl))
 f105 := Tryz.func138.trans (congrArg some (by kernel_rfl))
 f165 := Tryz.func178.trans (congrArg some (by kernel_rfl))
 f166 := Tryz.func169.trans (congrArg some (by kernel_rfl))
 f169 := Tryz.func172.trans (congrArg some (by kernel_rfl))
 f170 := Tryz.func179.trans (congrArg some (by kernel_rfl))
 f206 := Tryz.func216.trans (congrArg some (by kernel_rfl))
 f212 := Tryz.func176.trans (congrArg some (by kernel_rfl))
 f240 := Tryz.func205.trans (congrArg some (by kernel_rfl))
 f241 := Tryz.func217.trans (congrArg some (by kernel_rfl))
 f263 := Tryz.func214.trans (congrArg some (by kernel_rfl))
 f264 := Tryz.func215.trans (congrArg some (by kernel_rfl))
 f276 := Tryz.func235.trans (congrArg some (by kernel_rfl))
 f277 := Tryz.func237.trans (congrArg some (by kernel_rfl))
 t0 := Tryz.underlying0
 a0 := Tryz.isAgg0
 z0 := Tryz.sizeOf0
 v0 := Tryz.zeroValue0
 t3 := Tryz.underlying3
 a3 := Tryz.isAgg3
 z3 := Tryz.sizeOf3
 v3 := Tryz.zeroValue3
 t4 := Tryz.underlying4
 a4 := Tryz.isAgg4
 z4 := Tryz.sizeOf4
 v4 := Tryz.zeroValue4
 t5 := Tryz.underlying5
 a5 := Tryz.isAgg5
 z5 := Tryz.sizeOf5
 v5 := Tryz.zeroValue5
 t9 := Tryz.underlying9
 a9 := Tryz.isAgg9
 z9 := Tryz.sizeOf9
 v9 := Tryz.zeroValue9
 t20 := Tryz.underlying20
 a20 := Tryz.isAgg20
 z20 := Tryz.sizeOf20
 v20 := Tryz.zeroValue20
 t37 := Tryz.underlying22
 a37 := Tryz.isAgg22
 z37 := Tryz.sizeOf22
 v37 := Tryz.zeroValue22
 t46 := Tryz.underlying182
 a46 := Tryz.isAgg182
 z46 := Tryz.sizeOf182
 v46 := Tryz.zeroValue182
 t51 := Tryz.underlying146
 a51 := Tryz.isAgg146
 z51 := Tryz.sizeOf146
 v51 := Tryz.zeroValue146
 t53 := Tryz.underlying242
 a53 := Tryz.isAgg242
 z53 := Tryz.sizeOf242
 v53 := Tryz.zeroValue242
 t70 := Tryz.underlying206
 a70 := Tryz.isAgg206
 z70 := Tryz.sizeOf206
 v70 := Tryz.zeroValue206
 t72 := Tryz.underlying208
 a72 := Tryz.isAgg208
 z72 := Tryz.sizeOf208
 v72 := Tryz.zeroValue208
 t75 := Tryz.underlying210
 a75 := Tryz.isAgg210
 z75 := Tryz.sizeOf210
 v75 := Tryz.zeroValue210
 t76 := Tryz.underlying211
 a76 := Tryz.isAgg211
 z76 := Tryz.sizeOf211
 v76 := Tryz.zeroValue211
 t109 := Tryz.underlying217
 a109 := Tryz.isAgg217
 z109 := Tryz.sizeOf217
 v109 := Tryz.zeroValue217
 t127 := Tryz.underlying241
 a127 := Tryz.isAgg241
 z127 := Tryz.sizeOf241
 v127 := Tryz.zeroValue241
 t146 := Tryz.underlying248
 a146 := Tryz.isAgg248
 z146 := Tryz.sizeOf248
 v146 := Tryz.zeroValue248
 t148 := Tryz.underlying250
 a148 := Tryz.isAgg250
 z148 := Tryz.sizeOf250
 v148 := Tryz.zeroValue250
 t164 := Tryz.underlying266
 a164 := Tryz.isAgg266
 z164 := Tryz.sizeOf266
 v164 := Tryz.zeroValue266 }
theorem Tryz.extra : Builder.Extra Tryz.prog Tryz.laysRep_ren := {
 sizeBuilder := by kernel_rfl
 liesBuilder := by kernel_rfl
 t5 := Tryz.laysRep.t5
 a5 := Tryz.laysRep.a5
 z5 := Tryz.laysRep.z5
 v5 := Tryz.laysRep.v5
 infoByte := by kernel_rfl
 cellsByte := by kernel_rfl
 sizeByte := by kernel_rfl
 neB5 := by decide }
end Go.Proofs

end
section
namespace Go.Rf
set_option linter.unusedSectionVars false
variable [T : Laid]
open Go.Shelf Go.RowKit Go.Lib Go.Proofs
section
variable {E : Env} {w w' : World} {S : Nat → Prop} {β : Key → Option Nat} {keep keep' : List Nat} {mv mv' : List (Nat × Nat)} {ms : List Mode}
theorem Ad6 (t : List UInt8) : strCells ⟨⟨t⟩⟩ = Lib.byteCells t := by simp [strCells, Lib.byteCells]
theorem BE9 (a b : List UInt8) : Lib.byteCells a ++ Lib.byteCells b = Lib.byteCells (a ++ b) := by simp [Lib.byteCells]
set_option maxHeartbeats 6400000 in
set_option maxRecDepth 100000 in
theorem A3j (hE : E.P = Tryz.prog) (lt : Int → List UInt8) (l : List Int) (hl : (l.flatMap lt).length ≤ 1048576) (hn : l.length ≤ 1048576)
  (hlt : ∀ x ∈ l, AU1 E ⟨[.ro (.int .i64), .ro (.int .i64)], 1, .pair .str .unit, .sh, keep, mv⟩ 134 [⟨.int .i64, x⟩, ⟨.int .i64, (4 : Int)⟩] (lt x, ())) :
  AU1 E ⟨[.ro (.sl (.int .i64))], 1, .pair .str .unit, .sh, keep', mv'⟩ 135 [⟨.sl (.int .i64), l⟩] (l.flatMap lt, ()) := by
 intro w S β cs hs ha
 match cs, ha with
 | [c1], ha =>
  simp only [vV] at ha
  obtain ⟨_, hv, _⟩ := ha
  simp only [Rd] at hv
  obtain ⟨ad, cap, rfl, hcap, hel⟩ := hv
  have hcell : ∀ i (x : Int), l[i]? = some x → ∃ b o, ad = some ⟨b, o, none⟩ ∧ b < w.heap.size ∧ w.cell? ⟨b, o + i, none⟩ = some (.int .i64 x) := fun i x hx => by
   have hi := (List.getElem?_eq_some_iff.1 hx).1
   rcases hel with rfl | ⟨b, o, cs, rfl, hS, ⟨e, fz, hb⟩, hsz, hel⟩
   ·exact absurd hi (Nat.not_lt_zero _)
   ·have h1 := hel i x hx
    have hs1 : (Ty.int IntKind.i64).size = 1 := rfl
    rw [hs1] at h1 hsz
    refine ⟨b, o, rfl, hs.liveS b hS, ?_⟩
    have e2 : w.cell? ⟨b, o + i, none⟩ = cs[o + i]? := Lib.cell_of_heap hb (o + i)
    have e3 : cs[o + i]? = some (.int .i64 x) := by
     have h2 := congrArg (fun l : List Value => l[0]?) h1
     simp only [win, List.getElem?_take, List.getElem?_drop] at h2
     simpa using h2
    exact e2.trans e3
  rw [hE]
  refine .inl ⟨Tryz.f135, Tryz.func135, by kernel_rfl, by kernel_rfl, ?_⟩
  show Calls Tryz.prog 135 #[.slice ad l.length cap] w _
  have hlit : ∀ (x : Int), x ∈ l → ∀ wr, Below w.heap.size w wr → Calls Tryz.prog 134 #[.int .i64 x, .int .i64 4] wr fun e w' => e = .returned (.string ⟨⟨lt x⟩⟩) ∧ Below wr.heap.size wr w' := fun x hx wr hb => by
   have := Ax9 (cs := [[.int .i64 x], [.int .i64 4]]) (hlt x hx) (AC1 hs hb) ⟨rfl, by simp only [Rd], rfl, by simp only [Rd], trivial⟩ (by rw [hE]; exact enters_of Tryz.func134 (by kernel_rfl) rfl _ _)
   rw [hE] at this
   exact this
  go_enter Tryz.func135, Tryz.ntmps135
  go_wp2
  go_loopw [8] (fun i wr => ∃ k : Nat, k ≤ l.length ∧ i = .int .i64 k ∧ Lib.IsBuilder 208 5 w.heap.size w.heap.size (Lib.byteCells ((l.take k).flatMap lt)) wr ∧ Below w.heap.size w wr)
   (fun i _ => l.length - (RowKit.intOf i).toNat)
  case atStart => exact ⟨0, Nat.zero_le _, rfl, Lib.fresh_isBuilder 208 5 w, (Below.refl _ w).alloc (Nat.le_refl _) _⟩
  case round =>
   obtain ⟨k, hk, rfl, hI, hnx⟩ := hrel
   by_cases hp : k < l.length
   ·have hx : l[k]? = some l[k] := List.getElem?_eq_getElem hp
    obtain ⟨b, o, rfl, hb, hcl⟩ := hcell k _ hx
    have hcl' : wr.cell? ⟨b, o + k, none⟩ = some (.int .i64 l[k]) := by rw [hnx.cell (p := ⟨b, o + k, none⟩) hb]; exact hcl
    have hmem : l[k] ∈ l := List.getElem_mem hp
    have htk : (l.take (k + 1)).flatMap lt = (l.take k).flatMap lt ++ lt l[k] := by rw [List.take_add_one, hx, List.flatMap_append]; simp
    have hln : ((l.take (k + 1)).flatMap lt).length ≤ 1048576 := by
     have := List.take_append_drop (k + 1) l
     have h2 : (l.flatMap lt).length = ((l.take (k + 1)).flatMap lt).length + ((l.drop (k + 1)).flatMap lt).length := by rw [← List.length_append, ← List.flatMap_append, this]
     omega
    go_wp2_with (go_at_call 134; refine (hlit _ hmem wr hnx).mono ?_; rintro e W1 ⟨rfl, hb1⟩)
    have hI1 := Az0 hI hb1
    go_wp2_with (go_at_call 169; refine (Any.Builder_WriteString { Tryz.laysRep with } Tryz.extra w.heap.size w.heap.size _ ⟨⟨lt l[k]⟩⟩ W1 hI1 ?c1 (Nat.le_trans hnx.size hb1.size)).mono ?_)
    case c1 =>
     rw [htk, List.length_append] at hln
     show _ + (lt l[k]).length ≤ _
     simp only [Lib.byteCells, List.length_map]
     omega
    rintro e W2 ⟨rfl, hI2, hb2⟩
    rw [Ad6, BE9, ← htk] at hI2
    go_wp2
    go_roundw
    case rel => exact ⟨k + 1, by omega, by go_num, .inr hI2, (hnx.trans (AF5 hb1 hnx.size)).trans hb2⟩
    case measure => simp [RowKit.intOf]; omega
   ·have : l.take k = l := List.take_of_length_le (by omega)
    rw [this] at hI
    go_wp2_with (go_at_call 172; refine (Any.Builder_String_any { Tryz.laysRep with } Tryz.extra w.heap.size w.heap.size _ wr hI hnx.size).mono ?_)
    rintro e W2 ⟨rfl, hb2⟩
    go_wp2
    go_ret
    exact Ai3 (t := l.flatMap lt) hs (hnx.trans hb2) (by simp [AI8])
 | [], ha => simp [vV] at ha
 | _ :: _ :: _, ha => simp [vV] at ha
def A6o (x : List UInt8 → List UInt8 → List UInt8) (bl : Nat → List UInt8) (count : Nat) (t : List UInt8) : Nat → List UInt8
 | 0 => []
 | k + 1 => A6o x bl count t k ++ x ((t.drop (64 * k)).take 64) (bl (count + k))
set_option maxHeartbeats 6400000 in
set_option maxRecDepth 100000 in
theorem A7G {k1 k2 : List Nat} {m1 m2 : List (Nat × Nat)} (hE : E.P = Tryz.prog) (x : List UInt8 → List UInt8 → List UInt8) (bl : Nat → List UInt8) (key nonce t : List UInt8) (count : Nat) (ht : t.length ≤ 1048576) (hc : count ≤ 1000000)
  (hst : ∀ c : Nat, c ≤ 2000000 → AU1 E ⟨[.ro .str, .ro .str, .ro (.int .i64)], 1, .pair .str .unit, .sh, k1, m1⟩ 171 [⟨.str, key⟩, ⟨.str, nonce⟩, ⟨.int .i64, (c : Int)⟩] (bl c, ()))
  (hx : ∀ (a : List UInt8) (c : Nat), c ≤ 2000000 → a.length ≤ 64 → AU1 E ⟨[.ro .str, .ro .str], 1, .pair .str .unit, .sh, k2, m2⟩ 170 [⟨.str, a⟩, ⟨.str, bl c⟩] (x a (bl c), ()))
  (hxl : ∀ (a : List UInt8) (c : Nat), c ≤ 2000000 → a.length ≤ 64 → (x a (bl c)).length ≤ 64) :
  AU1 E ⟨[.ro .str, .ro .str, .ro (.int .i64), .ro .str], 1, .pair .str .unit, .sh, keep', mv'⟩ 132 [⟨.str, key⟩, ⟨.str, nonce⟩, ⟨.int .i64, (count : Int)⟩, ⟨.str, t⟩] (A6o x bl count t ((t.length + 63) / 64), ()) := by
 intro w S β cs hs ha
 match cs, ha with
 | [c1, c2, c3, c4], ha =>
  simp only [vV] at ha
  obtain ⟨_, v1, _, v2, _, v3, _, v4, _⟩ := ha
  simp only [Rd] at v1 v2 v3 v4
  subst v1 v2 v3 v4
  rw [hE]
  refine .inl ⟨Tryz.f132, Tryz.func132, by kernel_rfl, by kernel_rfl, ?_⟩
  show Calls Tryz.prog 132 #[.string ⟨⟨key⟩⟩, .string ⟨⟨nonce⟩⟩, .int .i64 count, .string ⟨⟨t⟩⟩] w _
  have hs1 : ∀ (c : Nat), c ≤ 2000000 → ∀ wr, Below w.heap.size w wr → Calls Tryz.prog 171 #[.string ⟨⟨key⟩⟩, .string ⟨⟨nonce⟩⟩, .int .i64 c] wr fun e w' => e = .returned (.string ⟨⟨bl c⟩⟩) ∧ Below wr.heap.size wr w' := fun c hc wr hb => by
   have := Ax9 (cs := [[.string ⟨⟨key⟩⟩], [.string ⟨⟨nonce⟩⟩], [.int .i64 c]]) (hst c hc) (AC1 hs hb) ⟨rfl, by simp only [Rd], rfl, by simp only [Rd], rfl, by simp only [Rd], trivial⟩ (by rw [hE]; exact enters_of Tryz.func171 (by kernel_rfl) rfl _ _)
   rw [hE] at this
   exact this
  have hs2 : ∀ (a : List UInt8) (c : Nat), c ≤ 2000000 → a.length ≤ 64 → ∀ wr, Below w.heap.size w wr → Calls Tryz.prog 170 #[.string ⟨⟨a⟩⟩, .string ⟨⟨bl c⟩⟩] wr fun e w' => e = .returned (.string ⟨⟨x a (bl c)⟩⟩) ∧ Below wr.heap.size wr w' := fun a c hc hl wr hb => by
   have := Ax9 (cs := [[.string ⟨⟨a⟩⟩], [.string ⟨⟨bl c⟩⟩]]) (hx a c hc hl) (AC1 hs hb) ⟨rfl, by simp only [Rd], rfl, by simp only [Rd], trivial⟩ (by rw [hE]; exact enters_of Tryz.func170 (by kernel_rfl) rfl _ _)
   rw [hE] at this
   exact this
  have hxc : ∀ k, count + k ≤ 2000000 → (A6o x bl count t k).length ≤ 64 * k := fun k => by
   induction k with
   | zero => exact fun _ => Nat.le_refl _
   | succ k ih =>
    intro h
    have := hxl ((t.drop (64 * k)).take 64) (count + k) (by omega) (by rw [List.length_take]; omega)
    have := ih (by omega)
    rw [A6o, List.length_append]; omega
  go_enter Tryz.func132, Tryz.ntmps132
  go_wp2
  go_loopw [10] (fun i wr => ∃ k : Nat, k ≤ (t.length + 63) / 64 ∧ i = .int .i64 ((64 * k : Nat) : Int) ∧ Lib.IsBuilder 208 5 w.heap.size w.heap.size (Lib.byteCells (A6o x bl count t k)) wr ∧ Below w.heap.size w wr)
   (fun i _ => t.length + 64 - (RowKit.intOf i).toNat)
  case atStart => exact ⟨0, Nat.zero_le _, rfl, Lib.fresh_isBuilder 208 5 w, (Below.refl _ w).alloc (Nat.le_refl _) _⟩
  case round =>
   obtain ⟨k, hk, rfl, hI, hnx⟩ := hrel
   by_cases hp : 64 * k < t.length
   ·have hsl : (Instr.slice 9 (.string ⟨⟨t⟩⟩) (some (.int .i64 (64 * (k : Int)))) (some (.int .i64 (min (64 * (k : Int) + 64) (t.length : Int)))) none).run Tryz.prog wr = .ok (.string ⟨⟨(t.drop (64 * k)).take 64⟩⟩) wr := by
     have hz : (⟨⟨t⟩⟩ : ByteArray).size = t.length := rfl
     rw [run_slice_string wr 9 ⟨⟨t⟩⟩ .i64 .i64 (64 * (k : Int)) (min (64 * (k : Int) + 64) (t.length : Int)) (by kernel_rfl) (by omega) (by omega) (by rw [hz]; omega), show (64 * (k : Int)).toNat = 64 * k by omega]
     have he := ByteArray.extract_mk t (64 * k) (min (64 * (k : Int) + 64) (t.length : Int)).toNat
     have hm : ((t.drop (64 * k)).take ((min (64 * (k : Int) + 64) (t.length : Int)).toNat - 64 * k)) = (t.drop (64 * k)).take 64 := by
      rw [List.take_eq_take_min, List.take_eq_take_min (i := 64), List.length_drop]
      congr 1; omega
     rw [hm] at he
     exact congrArg (fun b => Result.ok (Value.string b) wr) he
    have hdl : ((t.drop (64 * k)).take 64).length ≤ 64 := by rw [List.length_take]; omega
    go_wp2_with (go_at_call 171; refine (hs1 (count + k) (by omega) wr hnx).mono ?_)
    rintro e W1 ⟨rfl, hb1⟩
    have hn1 : Below w.heap.size w W1 := hnx.trans (AF5 hb1 hnx.size)
    go_wp2_with (go_at_call 170; refine (hs2 ((t.drop (64 * k)).take 64) (count + k) (by omega) hdl W1 hn1).mono ?_)
    rintro e W2 ⟨rfl, hb2⟩
    have hI2 := Az0 (Az0 hI hb1) hb2
    have hn2 : Below w.heap.size w W2 := hn1.trans (AF5 hb2 hn1.size)
    go_wp2_with (go_at_call 169; refine (Any.Builder_WriteString { Tryz.laysRep with } Tryz.extra w.heap.size w.heap.size _ ⟨⟨x ((t.drop (64 * k)).take 64) (bl (count + k))⟩⟩ W2 hI2 ?c1 hn2.size).mono ?_)
    case c1 =>
     have := hxl ((t.drop (64 * k)).take 64) (count + k) (by omega) hdl
     have := hxc k (by omega)
     show _ + (x ((t.drop (64 * k)).take 64) (bl (count + k))).length ≤ _
     simp only [Lib.byteCells, List.length_map]
     omega
    rintro e W3 ⟨rfl, hI3, hb3⟩
    rw [Ad6, BE9] at hI3
    go_wp2
    go_roundw
    case rel => exact ⟨k + 1, by omega, by go_num, .inr hI3, hn2.trans hb3⟩
    case measure => simp [RowKit.intOf]; omega
   ·have : k = (t.length + 63) / 64 := by omega
    subst this
    go_wp2_with (go_at_call 172; refine (Any.Builder_String_any { Tryz.laysRep with } Tryz.extra w.heap.size w.heap.size _ wr hI hnx.size).mono ?_)
    rintro e W2 ⟨rfl, hb2⟩
    go_wp2
    go_ret
    exact Ai3 (t := A6o x bl count t ((t.length + 63) / 64)) hs (hnx.trans hb2) (by simp [AI8])
 | [], ha | [_], ha | [_, _], ha | [_, _, _], ha => simp [vV] at ha
 | _ :: _ :: _ :: _ :: _ :: _, ha => simp [vV] at ha
end
end Go.Rf

end
section
namespace Go.Rf
set_option linter.unusedSectionVars false
variable [T : Laid]
open Go.Shelf Go.RowKit Go.Lib Go.Proofs Go.Maps
theorem A6Z {H : Type} {P : Program} {e : TypeId} (he : P.underlying e = some .bool) {v : Value} {z : DataW H × List MemPlace} (h : plainElem P e v = some z) : ∃ a, v = .bool a ∧ z = (.lit (.bool a), []) := by
 unfold plainElem at h
 rw [he] at h
 cases v <;> simp at h
 exact ⟨_, rfl, h.symm⟩
theorem A74 {H : Type} {P : Program} {k t e : TypeId} {b n : Nat} {D : DataW H} {w : World} (h : w.ownsMap P k (plainElem P e) b n D) (K : Keyed P k) (ht : P.underlying t = some (.map k e)) (he : P.underlying e = some .bool) (hz : (zeroValue e).run P w = .ok (.bool false) w)
  {key : Value} {kl : Lit} (hkey : keyOf P k key = some kl) : ∃ c, (Instr.lookup t (.map (some b)) key false).run P w = .ok (.bool c) w ∧ D.atKey kl (.lit (.bool false)) = .lit (.bool c) := by
 obtain ⟨v, ps, hrun, hv⟩ := h.lookup K ht hz (plainElem_bool he false) hkey
 obtain ⟨c, rfl, hc⟩ := A6Z he hv
 simp only [Prod.mk.injEq] at hc
 exact ⟨c, hrun, hc.1⟩
section
variable {E : Env} {w w' : World} {S : Nat → Prop} {β : Key → Option Nat} {keep keep' : List Nat} {mv mv' : List (Nat × Nat)} {ms : List Mode}
theorem A2Q {f : FuncId} {ds : List Dyn} {t : Bool} (h : AU1 E ⟨ms, 1, .pair .bool .unit, .sh, keep, mv⟩ f ds (t, ())) {cs : List (List Value)} (hs : Sane w S (fun _ => none)) (ha : vV S (fun _ => none) w ms ds cs 0)
  (he : (callFunc f (zZ ds cs).toArray).run E.P w = .ok (.enter f (zZ ds cs).toArray) w) :
  Calls E.P f (zZ ds cs).toArray w fun e w' => e = .returned (.bool t) ∧ Below w.heap.size w w' := by
 rcases h w S _ cs hs ha with ⟨fn, h1, h2, h3, h4⟩ | ⟨v, w', h1, _⟩
 ·refine h4.mono fun e w' he => ?_
  cases e with
  | returned v =>
   obtain ⟨S', β', crs, h5, h6, h7, h8, _⟩ := he
   match crs, h7 with
   | [c], h7 =>
    simp only [qZ] at h7
    have h9 := yM.1 h7.1
    simp only [Rd] at h9
    subst h9
    refine ⟨by rw [h8]; rfl, h6.out.os, h6.out.tape, h6.out.output, h6.size, fun k hk => h6.old k hk fun _ e => (by cases e)⟩
   | [], h7 => simp [qZ] at h7
   | _ :: _ :: _, h7 => simp [qZ] at h7
  | _ => exact he.elim
 ·rw [he] at h1; cases h1
theorem Ac8 (hs : Sane w S β) (h : Below w.heap.size w w') {t : Bool} {ax : List (List Value)} (hio : AI8 S β w' ms ax 0 .unit ()) :
  Ret ⟨ms, 1, .pair .bool .unit, .sh, keep, mv⟩ (t, ()) ax w S β (.bool t) w' := by
 obtain ⟨h1, h2⟩ := AS8 hs h
 refine ⟨S, β, [[.bool t]], h1, h2, ?_, rfl, hio⟩
 simp only [qZ]
 refine ⟨?_, trivial⟩
 refine yM.2 ?_
 simp [Rd]
abbrev tO : Ty := .pair (.sl (.int .i64)) (.pair (.sl (.pair (.int .i64) (.pair (.int .i64) (.pair (.int .i64) .unit)))) (.pair (.sl (.sl (.pair (.int .i64) (.pair (.int .i64) (.pair (.int .i64) .unit))))) .unit))
abbrev tE : Ty := .pair (.sl (.int .i64)) (.pair tO .unit)
def BB4 {H : Type} (D : DataW H) (seen : List Int) : Prop := IsMap D ∧ ∀ x : Int, D.atKey (.int .i64 x) (.lit (.bool false)) = .lit (.bool (Ax3 seen x))
theorem BB4.put {H : Type} {D : DataW H} {seen : List Int} (h : BB4 D seen) (k : Int) : BB4 (D.put (.int .i64 k) (.lit (.bool true))) (seen ++ [k]) := by
 refine ⟨?_, fun x => ?_⟩
 ·obtain ⟨es, rfl⟩ := h.1
  exact ⟨_, rfl⟩
 ·rw [A4F]
  by_cases hx : x = k
  ·subst hx
   rw [atKey_put_same h.1 (by simp [WideAt.IsKeyLit])]
   simp [Ax3]
  ·rw [atKey_put_other (fun e => hx (by cases e; rfl)), h.2 x]
   have : Ax3 [k] x = false := by simp [Ax3]; exact fun e => hx e.symm
   rw [this, Bool.or_false]
theorem Bg3 (w : World) : (zeroValue 4).run Tryz.prog w = .ok (.bool false) w := by kernel_rfl
theorem Bi6 : Keyed Tryz.prog 3 := int_keyed Tryz.underlying3
theorem A8W (seen : List Int) (k : Int) (r : List Int) : BC2 seen (k :: r) = if k = 0 then BC2 seen r else (inR k 1 9999 && !Ax3 seen k) && BC2 (seen ++ [k]) r := rfl
set_option maxHeartbeats 6400000 in
set_option maxRecDepth 100000 in
theorem BV7 {k1 k2 : List Nat} {m1 m2 : List (Nat × Nat)} (hE : E.P = Tryz.prog) (e : TE) (hn : e.1.length ≤ 1048576)
  (hk : ∀ x ∈ e.1, AU1 E ⟨[.ro (.int .i64)], 1, .pair .bool .unit, .sh, k1, m1⟩ 72 [⟨.int .i64, x⟩] (inR x 1 9999, ()))
  (ho : AU1 E ⟨[.ro tO], 1, .pair .bool .unit, .sh, k2, m2⟩ 73 [⟨tO, e.2.1⟩] (A3k e.2.1, ())) :
  AU1 E ⟨[.ro tE], 1, .pair .bool .unit, .sh, keep', mv'⟩ 34 [⟨tE, e⟩] (Ac0 e, ()) := by
 intro w S β cs hs ha
 match cs, ha with
 | [c1], ha =>
  simp only [vV] at ha
  obtain ⟨_, hv, _⟩ := ha
  have hl : c1.length = 4 := tP hv
  match c1, hl, hv with
  | [vk, vp, vs, vb], _, hv =>
   have hv1 : Rd S w (.sl (.int .i64)) e.1 [vk] := hv.1
   have hv2 : Rd S w tO e.2.1 [vp, vs, vb] := hv.2.1
   have hvk := hv1
   simp only [Rd] at hvk
   obtain ⟨ad, cap, hvk, hcap, hel⟩ := hvk
   have hvk : vk = .slice ad e.1.length cap := (List.cons.inj hvk).1
   subst hvk
   have hcell : ∀ i (x : Int), e.1[i]? = some x → ∃ b o, ad = some ⟨b, o, none⟩ ∧ b < w.heap.size ∧ w.cell? ⟨b, o + i, none⟩ = some (.int .i64 x) := fun i x hx => by
    have hi := (List.getElem?_eq_some_iff.1 hx).1
    rcases hel with h0 | ⟨b, o, cs, rfl, hS, ⟨e', fz, hb⟩, hsz, hel⟩
    ·rw [h0] at hi; exact absurd hi (Nat.not_lt_zero _)
    ·have h1 := hel i x hx
     have hs1 : (Ty.int IntKind.i64).size = 1 := rfl
     rw [hs1] at h1 hsz
     refine ⟨b, o, rfl, hs.liveS b hS, ?_⟩
     have e2 : w.cell? ⟨b, o + i, none⟩ = cs[o + i]? := Lib.cell_of_heap hb (o + i)
     have e3 : cs[o + i]? = some (.int .i64 x) := by
      have h2 := congrArg (fun l : List Value => l[0]?) h1
      simp only [win, List.getElem?_take, List.getElem?_drop] at h2
      simpa using h2
     exact e2.trans e3
   rw [hE]
   refine .inl ⟨Tryz.f34, Tryz.func34, by kernel_rfl, by kernel_rfl, ?_⟩
   show Calls Tryz.prog 34 #[.agg #[.slice ad e.1.length cap, vp, vs, vb]] w _
   have hkc : ∀ (x : Int), x ∈ e.1 → ∀ wr, Below w.heap.size w wr → Calls Tryz.prog 72 #[.int .i64 x] wr fun ex w' => ex = .returned (.bool (inR x 1 9999)) ∧ Below wr.heap.size wr w' := fun x hx wr hb => by
    have := A2Q (cs := [[.int .i64 x]]) (hk x hx) (AC1 hs hb) ⟨rfl, by simp only [Rd], trivial⟩ (by rw [hE]; exact enters_of Tryz.func72 (by kernel_rfl) rfl _ _)
    rw [hE] at this
    exact this
   have hoc : ∀ wr, Below w.heap.size w wr → Calls Tryz.prog 73 #[.agg #[vp, vs, vb]] wr fun ex w' => ex = .returned (.bool (A3k e.2.1)) ∧ Below wr.heap.size wr w' := fun wr hb => by
    have := A2Q (cs := [[vp, vs, vb]]) ho (AC1 hs hb) ⟨rfl, zQ (fun b hS => ⟨hS, hb.block b (hs.liveS b hS)⟩) hv2, trivial⟩ (by rw [hE]; exact enters_of Tryz.func73 (by kernel_rfl) rfl _ _)
    rw [hE] at this
    exact this
   have hmm := @run_makeMap Tryz.prog
   go_enter Tryz.func34, Tryz.ntmps34
   go_wp2
   obtain ⟨BX, hBX⟩ : ∃ BX, BX = Obj.cells #[.slice ad e.1.length cap, vp, vs, vb] 44 := ⟨_, rfl⟩
   go_loopw [10] (fun i wr => ∃ (k : Nat) (seen : List Int) (D : DataW Unit), k ≤ e.1.length ∧ i = .int .i64 k ∧ wr.ownsMap Tryz.prog 3 (plainElem Tryz.prog 4) (w.heap.size + 1) k D ∧ BB4 D seen ∧ BC2 [] e.1 = BC2 seen (e.1.drop k) ∧ Below w.heap.size w wr ∧ wr.heap[w.heap.size]? = some BX)
    (fun i _ => e.1.length - (RowKit.intOf i).toNat)
   case atStart =>
    refine ⟨0, [], .map [], Nat.zero_le _, rfl, ?_, ⟨isMap_empty, fun x => rfl⟩, by rw [List.drop_zero], ((Below.refl _ w).alloc (Nat.le_refl _) _).alloc (by show _ ≤ (w.heap.push _).size; rw [Array.size_push]; omega) _, ?_⟩
    have := World.ownsMap_made (H := Unit) (w.alloc (Obj.cells #[.slice ad e.1.length cap, vp, vs, vb] 44)) Tryz.prog 3 (plainElem Tryz.prog 4)
    ·rw [show (w.alloc (Obj.cells #[.slice ad e.1.length cap, vp, vs, vb] 44)).heap.size = w.heap.size + 1 by show (w.heap.push _).size = _; rw [Array.size_push]] at this
     exact this
    ·rw [hBX]; show ((w.heap.push _).push _)[w.heap.size]? = _
     rw [Array.getElem?_push, if_neg (by rw [Array.size_push]; omega), Array.getElem?_push, if_pos rfl]
   case round =>
    obtain ⟨k, seen, D, hk, rfl, hown, hset, hkey, hnx, hbx⟩ := hrel
    by_cases hp : k < e.1.length
    ·have hx : e.1[k]? = some e.1[k] := List.getElem?_eq_getElem hp
     obtain ⟨b, o, rfl, hb, hcl⟩ := hcell k _ hx
     have hcl' : wr.cell? ⟨b, o + k, none⟩ = some (.int .i64 e.1[k]) := by rw [hnx.cell (p := ⟨b, o + k, none⟩) hb]; exact hcl
     have hmem : e.1[k] ∈ e.1 := List.getElem_mem hp
     have hdr : e.1.drop k = e.1[k] :: e.1.drop (k + 1) := List.drop_eq_getElem_cons hp
     rw [hdr] at hkey
     generalize e.1[k] = x at hx hcl hcl' hmem hkey
     rw [A8W] at hkey
     by_cases h0 : x = 0
     ·subst h0
      rw [if_pos rfl] at hkey
      go_wp2
      go_roundw
      case rel => exact ⟨k + 1, seen, D, by omega, by go_num, hown.mono (Nat.le_succ _), hset, hkey, hnx, hbx⟩
      case measure => simp [RowKit.intOf]; omega
     ·rw [if_neg h0] at hkey
      cases hr : inR x 1 9999 with
      | false =>
       go_wp2_with (go_at_call 72; refine (hkc x hmem wr hnx).mono ?_)
       rw [hr]
       rintro ex W1 ⟨rfl, hb1⟩
       go_wp2
       go_ret
       rw [hr] at hkey
       have he : Ac0 e = false := by unfold Ac0; rw [hkey]; rfl
       rw [he]
       exact Ac8 hs (hnx.trans (AF5 hb1 hnx.size)) (by simp [AI8])
      | true =>
       go_wp2_with (go_at_call 72; refine (hkc x hmem wr hnx).mono ?_)
       rw [hr]
       rintro ex W1 ⟨rfl, hb1⟩
       have hn1 : Below w.heap.size w W1 := hnx.trans (AF5 hb1 hnx.size)
       have hown1 : W1.ownsMap Tryz.prog 3 (plainElem Tryz.prog 4) (w.heap.size + 1) k D := hown.kept (row := none) ⟨hb1.os, hb1.tape, hb1.output, hb1.size, fun k hk _ => hb1.block k hk⟩ (by simp)
       have hbx1 : W1.heap[w.heap.size]? = some BX := by rw [hb1.block _ (Array.getElem?_eq_some_iff.1 hbx).1]; exact hbx
       have hkl : keyOf Tryz.prog 3 (.int .i64 x) = some (.int .i64 x) := keyOf_int_mk Tryz.underlying3 (WalkArith.wf_i64 (by unfold inR at hr; simp only [Bool.and_eq_true, decide_eq_true_eq] at hr; omega))
       obtain ⟨c, hrun, hat⟩ := A74 hown1 Bi6 Tryz.underlying111 Tryz.underlying4 (Bg3 _) hkl
       rw [hset.2 x] at hat
       have hc : c = Ax3 seen x := by cases hat; rfl
       rw [hc] at hrun
       rw [hr] at hkey
       cases hh : Ax3 seen x with
       | true =>
        rw [hh] at hrun hkey
        go_wp2
        go_ret
        have he : Ac0 e = false := by unfold Ac0; rw [hkey]; rfl
        rw [he]
        exact Ac8 hs hn1 (by simp [AI8])
       | false =>
        rw [hh] at hrun hkey
        go_wp2_with (first | (at_mapUpdate; refine wpList_mapUpdate_own _ rfl _ _ _ 111 rfl 3 4 Bi6 Tryz.underlying111 _ (w.heap.size + 1) k _ rfl hown1 (by unfold maxLen; omega) _ _ _ rfl rfl hkl _ [] (plainElem_bool Tryz.underlying4 true) ?_; intro w1 hown2 hgrow1) | go_in)
        go_roundw
        case rel => exact ⟨k + 1, seen ++ [x], _, by omega, by go_num, hown2, hset.put x, by simpa using hkey, hn1.grown hgrow1 hn1.size (fun j hj => by cases hj; omega), by rw [hgrow1.block _ (Array.getElem?_eq_some_iff.1 hbx1).1 (by simp)]; exact hbx1⟩
        case measure => simp [RowKit.intOf]; omega
    ·have hke : k = e.1.length := by omega
     subst hke
     rw [List.drop_length] at hkey
     have hkey : BC2 [] e.1 = true := hkey
     rw [hBX] at hbx
     have hc0 : wr.cell? ⟨w.heap.size, 0, none⟩ = some (.slice ad e.1.length cap) := Lib.cell_of_heap hbx 0
     have hc1 : wr.cell? ⟨w.heap.size, 1, none⟩ = some vp := Lib.cell_of_heap hbx 1
     have hc2 : wr.cell? ⟨w.heap.size, 2, none⟩ = some vs := Lib.cell_of_heap hbx 2
     have hc3 : wr.cell? ⟨w.heap.size, 3, none⟩ = some vb := Lib.cell_of_heap hbx 3
     go_wp2_with (go_at_call 73; refine (hoc wr hnx).mono ?_)
     ·rename_i h11 _ _
      have h11 : e.1.length = 11 := Int.ofNat.inj h11
      have he : Ac0 e = A3k e.2.1 := by unfold Ac0; rw [hkey, decide_eq_true h11]; rfl
      rintro ex W1 ⟨rfl, hb1⟩
      go_wp2
      go_ret
      rw [he]
      exact Ac8 hs (hnx.trans (AF5 hb1 hnx.size)) (by simp [AI8])
     ·rename_i h11
      have h11 : ¬ e.1.length = 11 := fun h => h11 (congrArg Int.ofNat h)
      have he : Ac0 e = false := by unfold Ac0; rw [hkey, decide_eq_false h11]; rfl
      go_ret
      rw [he]
      exact Ac8 hs hnx (by simp [AI8])
 | [], ha => simp [vV] at ha
 | _ :: _ :: _, ha => simp [vV] at ha
end
end Go.Rf

end
section
namespace Go.Rf
set_option linter.unusedSectionVars false
variable [T : Laid]
open Go.Shelf Go.RowKit Go.Lib Go.Proofs
section
variable {P : Program} {ρ : Ren}
theorem AY2 {b : Nat} {e : TypeId} {fz : Nat × Nat} : ∀ {vs : List Value} {o : Nat} {w : World} {cs : Array Value}, w.heap[b]? = some (.cells cs e fz) → o + vs.length ≤ cs.size →
  ∃ cs', (w.setCells b o vs).heap[b]? = some (.cells cs' e fz) ∧ cs'.toList = iO cs.toList o vs ∧ (∀ b', b' ≠ b → (w.setCells b o vs).heap[b']? = w.heap[b']?) ∧ (w.setCells b o vs).heap.size = w.heap.size ∧ SameOut w (w.setCells b o vs)
 | [], o, w, cs, hb, _ => ⟨cs, hb, by simp [iO], fun _ _ => rfl, rfl, .rfl'⟩
 | v :: vs, o, w, cs, hb, ho => by
  simp only [List.length_cons] at ho
  have h1 : (w.setCell ⟨b, o, none⟩ v).heap[b]? = some (.cells (cs.setIfInBounds o v) e fz) := by
   simp only [World.setCell, Array.getElem?_modify, if_true, hb]
   simp
  have h2 : ∀ b', b' ≠ b → (w.setCell ⟨b, o, none⟩ v).heap[b']? = w.heap[b']? := fun b' hb' => by
   simp only [World.setCell, Array.getElem?_modify]
   rw [if_neg (Ne.symm hb')]
  have h3 : (w.setCell ⟨b, o, none⟩ v).heap.size = w.heap.size := by simp [World.setCell]
  have h4 : SameOut w (w.setCell ⟨b, o, none⟩ v) := ⟨rfl, rfl, rfl⟩
  obtain ⟨cs', k1, k2, k3, k4, k5⟩ := AY2 (vs := vs) (o := o + 1) (w := w.setCell ⟨b, o, none⟩ v) h1 (by rw [Array.size_setIfInBounds]; omega)
  refine ⟨cs', k1, ?_, fun b' hb' => (k3 b' hb').trans (h2 b' hb'), k4.trans h3, h4.trans k5⟩
  rw [k2, Array.toList_setIfInBounds]
  apply List.ext_getElem?
  intro k
  rw [nE (by simp; omega), nE (by simp; omega), List.getElem?_set]
  by_cases h1 : k < o
  ·rw [if_pos (by omega), if_neg (by omega), if_pos h1]
  ·rw [if_neg h1]
   by_cases h2 : k = o
   ·subst h2
    rw [if_pos (by omega), if_pos rfl, if_pos (by simp; omega), if_pos (by simp)]
    simp
   ·rw [if_neg (by omega)]
    have e : k - o = (k - (o + 1)) + 1 := by omega
    rw [e, List.getElem?_cons_succ, List.length_cons]
    by_cases h3 : k < o + 1 + vs.length
    ·rw [if_pos h3, if_pos (by omega)]
    ·rw [if_neg h3, if_neg (by omega), if_neg (by omega)]
end
end Go.Rf

end
section
namespace Go.Rf
set_option linter.unusedSectionVars false
variable [T : Laid]
open Go.Shelf Go.RowKit Go.Lib Go.Proofs
section
variable {P : Program} {ρ : Ren} {i0 : TypeInfo} {zr : Value} {k : Nat}
end
end Go.Rf

end
section
namespace Go.Rf
set_option linter.unusedSectionVars false
variable [T : Laid]
open Go.Shelf Go.RowKit Go.Lib Go.Proofs
section
variable {P : Program} {S S' : Nat → Prop} {β : Key → Option Nat} {H : Nat → Option (List Value)} {w w' : World} {τ : Ty}
theorem Elems.flat (hf : A0Q τ = true) {ys : List τ.D} {cy : List Value} (h : Elems S w τ ys cy) : Elems S' w' τ ys cy := ⟨h.len, h.one, fun j v hv => bC hf (h.get j v hv)⟩
theorem Elems.take {ys : List τ.D} {cy : List Value} (h : Elems S w τ ys cy) {i : Nat} (hi : i ≤ ys.length) : Elems S w τ (ys.take i) (cy.take (i * τ.size)) := by
 have hle : i * τ.size ≤ ys.length * τ.size := Nat.mul_le_mul_right _ hi
 refine .of (by rw [List.length_take, List.length_take, h.len, Nat.min_eq_left hle, Nat.min_eq_left hi]) fun j v hv => ?_
 unfold nth at hv
 rw [List.getElem?_take] at hv
 split at hv
 ·rename_i hj
  have hlt : (j + 1) * τ.size ≤ i * τ.size := Nat.mul_le_mul_right _ hj
  rw [Nat.add_mul, Nat.one_mul] at hlt
  have e : win (cy.take (i * τ.size)) (j * τ.size) τ.size = win cy (j * τ.size) τ.size := by
   apply List.ext_getElem?
   intro t
   rw [uX, uX]
   split
   ·rw [List.getElem?_take, if_pos (by omega)]
   ·rfl
  rw [e]; exact h.get j v hv
 ·cases hv
theorem Elems.drop {ys : List τ.D} {cy : List Value} (h : Elems S w τ ys cy) (i : Nat) : Elems S w τ (ys.drop i) (cy.drop (i * τ.size)) := by
 refine .of (by rw [List.length_drop, List.length_drop, h.len, Nat.sub_mul]) fun j v hv => ?_
 unfold nth at hv
 rw [List.getElem?_drop] at hv
 have := h.get (i + j) v hv
 have e : win (cy.drop (i * τ.size)) (j * τ.size) τ.size = win cy ((i + j) * τ.size) τ.size := by
  apply List.ext_getElem?
  intro t
  rw [uX, uX, List.getElem?_drop, Nat.add_mul, Nat.add_assoc]
 rw [e]; exact this
theorem Elems.append {xs ys : List τ.D} {cx cy : List Value} (hx : Elems S w τ xs cx) (hy : Elems S w τ ys cy) : Elems S w τ (xs ++ ys : List τ.D) (cx ++ cy) := by
 refine .of (by rw [List.length_append, List.length_append, hx.len, hy.len, Nat.add_mul]) fun j v hv => ?_
 rcases cP hv with ⟨h1, h2⟩ | ⟨h1, h2⟩
 ·have hlt : (j + 1) * τ.size ≤ xs.length * τ.size := Nat.mul_le_mul_right _ h1
  rw [Nat.add_mul, Nat.one_mul] at hlt
  have e : win (cx ++ cy) (j * τ.size) τ.size = win cx (j * τ.size) τ.size := by
   apply List.ext_getElem?
   intro t
   rw [uX, uX]
   split
   ·rw [List.getElem?_append_left (by rw [hx.len]; omega)]
   ·rfl
  rw [e]; exact hx.get j v h2
 ·have hle : xs.length * τ.size ≤ j * τ.size := Nat.mul_le_mul_right _ h1
  have e : win (cx ++ cy) (j * τ.size) τ.size = win cy ((j - xs.length) * τ.size) τ.size := by
   apply List.ext_getElem?
   intro t
   rw [uX, uX, List.getElem?_append_right (by rw [hx.len]; omega), hx.len, Nat.sub_mul]
   split
   ·congr 1; omega
   ·rfl
  rw [e]; exact hy.get _ v h2
theorem Bb2 {c d : List Value} {o n : Nat} (hd : d.length = n) (h : ∀ t, t < n → c[o + t]? = d[t]?) : win c o n = d := by
 apply List.ext_getElem?
 intro t
 rw [uX]
 split
 ·exact h t (by assumption)
 ·rw [List.getElem?_eq_none (by omega)]
theorem A9g {key : Key} {xs : List τ.D} {c : List Value} (h : zP S β H w key (.sl τ) (.own .sh) xs c) :
  ∃ ad cap, c = [.slice ad xs.length cap] ∧ xs.length ≤ cap ∧ (cap = 0 ∨ ∃ b o cs, ad = some ⟨b, o, none⟩ ∧ β key = some b ∧ AA4 (BU8 τ) w b cs ∧ o + cap * τ.size ≤ cs.size ∧ Elems S w τ xs (win cs.toList o (xs.length * τ.size))) := by
 simp only [zP, Fl.base] at h
 obtain ⟨_, ad, cap, rfl, hl, h⟩ := h
 refine ⟨ad, cap, rfl, hl, h.imp id ?_⟩
 rintro ⟨b, o, cs, rfl, hk, hB, hz, hel⟩
 have hle : xs.length * τ.size ≤ cap * τ.size := Nat.mul_le_mul_right _ hl
 refine ⟨b, o, cs, rfl, hk, hB, hz, .of (oZ (by rw [Array.length_toList]; exact Nat.le_trans (Nat.add_le_add_left hle o) hz)) fun j v hv => ?_⟩
 have hj : j < List.length xs := by unfold nth at hv; exact (List.getElem?_eq_some_iff.1 hv).1
 have hlt : (j + 1) * τ.size ≤ List.length xs * τ.size := Nat.mul_le_mul_right _ hj
 rw [Nat.add_mul, Nat.one_mul] at hlt
 rw [rZ (by omega)]
 have := hel j v hv
 rw [yM] at this
 exact this
theorem BH0 {key : Key} {xs : List τ.D} {cx : List Value} {b o cap : Nat} {cs : Array Value} (hl : xs.length ≤ cap) (hk : β key = some b) (hB : AA4 (BU8 τ) w b cs) (hz : o + cap * τ.size ≤ cs.size) (hx : Elems S w τ xs cx) (hw : win cs.toList o (xs.length * τ.size) = cx) :
  zP S β H w key (.sl τ) (.own .sh) xs [.slice (some ⟨b, o, none⟩) xs.length cap] := by
 simp only [zP, Fl.base]
 refine ⟨by simp [pX, Fl.pins], some ⟨b, o, none⟩, cap, rfl, hl, .inr ⟨b, o, cs, rfl, hk, hB, hz, fun j v hv => ?_⟩⟩
 have hj : j < List.length xs := by unfold nth at hv; exact (List.getElem?_eq_some_iff.1 hv).1
 have hlt : (j + 1) * τ.size ≤ List.length xs * τ.size := Nat.mul_le_mul_right _ hj
 rw [Nat.add_mul, Nat.one_mul] at hlt
 rw [yM, ← rZ (o := o) (n := xs.length * τ.size) (by omega), hw]
 exact hx.get j v hv
theorem At0 {q : Bool} {b o : Nat} {cs : Array Value} (hB : AA4 q w b cs) (ho : o < cs.size) : w.frozen? ⟨b, o, none⟩ = false := by
 obtain ⟨e, fz, hb, hf, _⟩ := hB
 have := hf o ho
 simp only [World.frozen?, hb]
 simp only [Bool.and_eq_false_iff, decide_eq_false_iff_not]
 by_cases h : fz.1 ≤ o
 ·right; intro h2; exact this ⟨h, h2⟩
 ·left; exact h
end
section
variable {E : Env} {ρ : Ren} {i0 : TypeInfo} {zr : Value} {τ : Ty}
end
section
variable {E : Env} {ρ : Ren} {i0 : TypeInfo} {zr : Value} {τ : Ty} {w w' : World} {S : Nat → Prop} {β : Key → Option Nat} {keep : List Nat} {mv : List (Nat × Nat)} {ms : List Mode} {ax : List (List Value)}
theorem BL8 (hs : Sane w S β) {cap : Nat} {cs' : Array Value} {eb : TypeId}
  (h' : w'.heap[w.heap.size]? = some (.cells cs' eb (0, 0))) (hoth : ∀ b', b' < w.heap.size → w'.heap[b']? = w.heap[b']?) (hsize : w'.heap.size = w.heap.size + 1) (hout : SameOut w w')
  {xs : List τ.D} {cx : List Value} (hl : xs.length ≤ cap) (hz : cap * τ.size ≤ cs'.size) (hx : Elems S w' τ xs cx) (hw : win cs'.toList 0 (xs.length * τ.size) = cx) (hio : ∀ β', AI8 S β' w' ms ax 0 .unit ()) :
  Ret ⟨ms, 1, .pair (.sl τ) .unit, .pr (.own .sh) .sh, keep, mv⟩ (xs, ()) ax w S β (.slice (some ⟨w.heap.size, 0, none⟩) xs.length cap) w' := by
 refine ⟨S, fun k => if k = [0] then some w.heap.size else none, [[.slice (some ⟨w.heap.size, 0, none⟩) xs.length cap]], ⟨?_, ?_, ?_, fun b hb => by rw [hsize]; exact Nat.lt_succ_of_lt (hs.liveS b hb), hs.tabs fun b' hb' => ⟨hb', hoth b' (hs.liveS b' hb')⟩⟩,
  ⟨by omega, fun b' hb' _ => hoth b' hb', ?_, fun _ h => h, fun _ h => .inl h, hout⟩, ?_, rfl, hio _⟩
 ·intro k k' b h1 h2
  split at h1 <;> split at h2 <;> simp_all
 ·intro k b h1 h2
  split at h1 <;> simp at h1
  have := hs.liveS b h2
  omega
 ·intro k b h1
  split at h1 <;> simp at h1
  omega
 ·intro k b h1
  split at h1 <;> simp at h1
  exact .inr (by omega)
 ·simp only [qZ]
  exact ⟨BH0 hl (by simp) ⟨eb, (0, 0), h', fun _ _ => by simp, .inr rfl⟩ (by omega) hx hw, trivial⟩
end
theorem A5o {w : World} {b o : Nat} {cs : Array Value} (hB : Blk w b cs) (h : o < cs.size) : (w.cell? ⟨b, o, none⟩).isSome = true := by
 rw [A0A hB (v := cs[o]) (by rw [Array.getElem?_toList, Array.getElem?_eq_getElem h])]; rfl
theorem A6u {zr : Value} {k n : Nat} (h : zr.cells.size = k) : (Builtin.zeroCells zr.cells n).size = n * k := by simp [Builtin.zeroCells, h]
theorem Bf3 (w : World) (o : Obj) : (w.alloc o).heap[w.heap.size]? = some o := by
 show (w.heap.push o)[w.heap.size]? = some o
 simp
theorem BP8 (w : World) (o : Obj) : (w.alloc o).heap.size = w.heap.size + 1 := by
 show (w.heap.push o).size = _
 simp
section
variable {E : Env} {ρ : Ren} {i0 : TypeInfo} {zr : Value} {τ : Ty}
def Bj8 (τ : Ty) : List Dyn → Option (Ty.pair (.sl τ) .unit).D
 | [a, b, c] => (BX0 τ a).bind fun xs => (BD0 b).bind fun i => (BX0 τ c).bind fun vs => cond (decide (0 ≤ i) && (decide (i ≤ (xs.length : Int)) && (Nat.blt 0 vs.length && Nat.ble (xs.length + vs.length) 1099511627776))) (some ((xs.take i.toNat ++ vs ++ xs.drop i.toNat : List τ.D), ())) none
 | _ => none
end
end Go.Rf

end
section
namespace Go.Rf
set_option maxRecDepth 100000
open Go.Shelf Go.RowKit Go.Lib Go.Proofs
end Go.Rf

end
section
namespace Go.Rf
set_option linter.unusedSectionVars false
variable [T : Laid]
open Go.Shelf Go.RowKit Go.Lib Go.Proofs Go.Sort
def rG : Ren := ⟨fun _ => 202, fun | 22 => 39 | 25 => 162 | n => n, fun n => n⟩
theorem Bh7 : Lays8.n4 Tryz.prog rG where
 mixed := by kernel_rfl
 f4 := ⟨Tryz.f202.name, by kernel_rfl, Tryz.func202.trans (congrArg some (by kernel_rfl))⟩
 t0 := Tryz.underlying0
 a0 := Tryz.isAgg0
 z0 := Tryz.sizeOf0
 v0 := Tryz.zeroValue0
 t3 := Tryz.underlying3
 a3 := Tryz.isAgg3
 z3 := Tryz.sizeOf3
 v3 := Tryz.zeroValue3
 t4 := Tryz.underlying4
 a4 := Tryz.isAgg4
 z4 := Tryz.sizeOf4
 v4 := Tryz.zeroValue4
 t9 := Tryz.underlying9
 a9 := Tryz.isAgg9
 z9 := Tryz.sizeOf9
 v9 := Tryz.zeroValue9
 t20 := Tryz.underlying20
 a20 := Tryz.isAgg20
 z20 := Tryz.sizeOf20
 v20 := Tryz.zeroValue20
 t22 := Tryz.underlying39
 a22 := Tryz.isAgg39
 z22 := Tryz.sizeOf39
 v22 := Tryz.zeroValue39
def rV : Ren := ⟨fun _ => 201, fun | 28 => 24 | n => n, fun n => n⟩
theorem Bi5 : Lays.n112 Tryz.prog rV where
 mixed := by kernel_rfl
 f112 := Tryz.func201.trans (congrArg some (by kernel_rfl))
 t0 := Tryz.underlying0
 a0 := Tryz.isAgg0
 z0 := Tryz.sizeOf0
 v0 := Tryz.zeroValue0
 t3 := Tryz.underlying3
 a3 := Tryz.isAgg3
 z3 := Tryz.sizeOf3
 v3 := Tryz.zeroValue3
 t4 := Tryz.underlying4
 a4 := Tryz.isAgg4
 z4 := Tryz.sizeOf4
 v4 := Tryz.zeroValue4
 t28 := Tryz.underlying24
 a28 := Tryz.isAgg24
 z28 := Tryz.sizeOf24
 v28 := Tryz.zeroValue24
theorem AJ9 {P : Program} (w : World) {ops : Array Oper} {rest : List Oper} {o : Oper} {a : Act} {Q : Exit → Act → World → Prop}
  (hg : o.guard = none) (s x : Operand) (t tx : TypeId) (hop : o.op = Op.call { callee := Callee.builtin Builtin.append, args := #[s, x], argTypes := #[t, tx] })
  (sv xv : Value) (hs : a.eval s = sv) (hx : a.eval x = xv) (rv : Value) (w' : World) (hrun : ∀ ty, (Builtin.append_ #[t, tx] ty #[sv, xv]).run P w = .ok rv w')
  (hK : wpList P ops Q rest (a.put o.dst rv) w') : wpList P ops Q (o :: rest) a w := by
 refine wpList_plain hg fun K hK' => ?_
 have hrun := hrun o.type
 unfold Oper.wp
 simp [execOp, hop, resolve, invoke, builtin, hs, hx, hrun, Result.andThen]
 exact hK' _ _ hK
theorem BK0 {α : Type} [Inhabited α] {enc : α → Value} {w : World} {b o : Nat} {d : Array α} {cs : Array Value} {e : TypeId} {fz : Nat × Nat} (hb : w.heap[b]? = some (.cells cs e fz)) :
  (putRow enc w b o d).heap[b]? = some (.cells (putCells enc o d cs) e fz) ∧ (∀ b', b' ≠ b → (putRow enc w b o d).heap[b']? = w.heap[b']?) ∧ (putRow enc w b o d).heap.size = w.heap.size ∧ SameOut w (putRow enc w b o d) := by
 unfold putRow mapBlock
 refine ⟨?_, fun b' h => ?_, ?_, ⟨rfl, rfl, rfl⟩⟩
 ·simp only [Array.getElem?_modify, if_true, hb]; rfl
 ·simp only [Array.getElem?_modify]; rw [if_neg (Ne.symm h)]
 ·simp
section
variable {E : Env} {w w' : World} {S : Nat → Prop} {β : Key → Option Nat} {keep : List Nat} {mv : List (Nat × Nat)}
abbrev tB3 : Ty := .pair (.int .i64) (.pair (.int .i64) (.pair (.int .i64) .unit))
def Ad1 (l : List (List tB3.D)) (k : Nat) : Nat := (l.take k).flatten.length
theorem A4j {t : Ty} {x : List t.D} {c : List Value} : Rd S w (.sl t) x c ↔ ∃ ad cap, c = [.slice ad (List.length x) cap] ∧ List.length x ≤ cap ∧
   (x = ([] : List t.D) ∨ ∃ b o cs, ad = some ⟨b, o, none⟩ ∧ S b ∧ Blk w b cs ∧ o + List.length x * t.size ≤ cs.size ∧
    ∀ (i : Nat) (y : t.D), nth x i = some y → Rd S w t y (win cs.toList (o + i * t.size) t.size)) := Iff.rfl
theorem A0i {l : List (List tB3.D)} {k : Nat} (h : k < l.length) : Ad1 l (k + 1) = Ad1 l k + l[k].length := by
 unfold Ad1
 rw [List.take_add_one, List.getElem?_eq_getElem h, Option.toList_some, List.flatten_append, List.length_append]
 simp
theorem A6s (l : List (List tB3.D)) (k : Nat) : Ad1 l k ≤ l.flatten.length := by
 unfold Ad1
 have h := congrArg (fun l : List (List tB3.D) => l.flatten.length) (List.take_append_drop k l)
 simp only [List.flatten_append, List.length_append] at h
 omega
def Bd1 (S : Nat → Prop) (w : World) (B : Nat) (l : List (List tB3.D)) (k : Nat) (s : Value) (wr : World) : Prop :=
 (l.flatten.length = 0 ∧ s = .slice none 0 0) ∨
 ∃ cap cs, s = .slice (some ⟨B, 0, none⟩) (Ad1 l k) cap ∧ l.flatten.length ≤ cap ∧ wr.heap[B]? = some (.cells cs 162 (0, 0)) ∧ cs.size = cap * 3 ∧ wr.heap.size = B + 1 ∧ Elems S w tB3 (l.take k).flatten (win cs.toList 0 (Ad1 l k * 3))
set_option maxHeartbeats 6400000 in
set_option maxRecDepth 100000 in
theorem A7c (hE : E.P = Tryz.prog) (l : List (List tB3.D)) (hn : l.length ≤ 1048576) (hf : l.flatten.length ≤ 1048576) :
  AU1 E ⟨[.ro (.sl (.sl tB3))], 1, .pair (.sl tB3) .unit, .pr (.own .sh) .sh, keep, mv⟩ 163 [⟨.sl (.sl tB3), l⟩] ((l.flatten : List tB3.D), ()) := by
 intro w S β cs hs ha
 match cs, ha with
 | [c1], ha =>
  simp only [vV] at ha
  obtain ⟨_, hv, _⟩ := ha
  have h3 : tB3.size = 3 := rfl
  have h1 : (Ty.sl tB3).size = 1 := rfl
  obtain ⟨ad, cap, rfl, hcap, hel⟩ := A4j.1 hv
  have hcell : ∀ i (x : List tB3.D), l[i]? = some x → ∃ b o a' c', ad = some ⟨b, o, none⟩ ∧ b < w.heap.size ∧ w.cell? ⟨b, o + i, none⟩ = some (.slice a' x.length c') ∧ x.length ≤ c' ∧ (a' = none → x = []) ∧
    ∃ news, Elems S w tB3 x news ∧ ∀ wr, Below w.heap.size w wr → Src Tryz.prog 3 39 (.slice a' x.length c') x.length news wr := fun i x hx => by
   have hi := (List.getElem?_eq_some_iff.1 hx).1
   rcases hel with h0 | ⟨b, o, cs, rfl, hS, ⟨e', fz, hb⟩, hsz, hel⟩
   ·rw [h0] at hi; exact absurd hi (Nat.not_lt_zero _)
   ·have h4 := hel i x hx
    rw [h1] at h4 hsz
    obtain ⟨a', c', h5, hle, h6⟩ := A4j.1 h4
    have e2 : w.cell? ⟨b, o + i, none⟩ = cs[o + i]? := Lib.cell_of_heap hb (o + i)
    have e3 : cs[o + i]? = some (.slice a' x.length c') := by
     have h2 := congrArg (fun l : List Value => l[0]?) h5
     simp only [win, List.getElem?_take, List.getElem?_drop] at h2
     simpa using h2
    refine ⟨b, o, a', c', rfl, hs.liveS b hS, e2.trans e3, hle, fun ha => ?_, ?_⟩
    ·rcases h6 with h6 | ⟨_, _, _, h6, _⟩
     ·exact h6
     ·rw [ha] at h6; cases h6
    ·by_cases hx0 : x = []
     ·subst hx0
      refine ⟨[], .nil, fun wr hb => ?_⟩
      cases a' with
      | none => exact Src.ofNil wr Tryz.underlying39 c'
      | some a => exact Src.ofSlice wr Tryz.underlying39 a 0 c' [] rfl (fun j u hj => by simp at hj) (fun _ h => by cases h)
     ·rcases h6 with h6 | ⟨b2, o2, cs2, rfl, hS2, hB2, hz2, he2⟩
      ·exact absurd h6 hx0
      ·rw [h3] at hz2
       have hE2 : Elems S w tB3 x (win cs2.toList o2 (x.length * 3)) := by
        refine .of (oZ (by rw [Array.length_toList]; exact hz2)) fun j v hv => ?_
        have hj : j < List.length x := by unfold nth at hv; exact (List.getElem?_eq_some_iff.1 hv).1
        have hlt : (j + 1) * 3 ≤ List.length x * 3 := Nat.mul_le_mul_right _ hj
        rw [Nat.add_mul, Nat.one_mul] at hlt
        show Rd S w tB3 v (win (win cs2.toList o2 (x.length * 3)) (j * 3) 3)
        rw [rZ (by omega)]
        exact he2 j v hv
       refine ⟨_, hE2, fun wr hb => Src.ofSlice wr Tryz.underlying39 _ _ _ _ (by rw [oZ (by rw [Array.length_toList]; exact hz2)]) (fun j u hj => ?_) hE2.one⟩
       rw [Addr.add_lit]
       rw [uX] at hj
       split at hj
       ·rw [hb.cell (p := ⟨b2, o2 + j, none⟩) (hs.liveS b2 hS2)]
        exact A0A hB2 hj
       ·cases hj
  rw [hE]
  refine .inl ⟨Tryz.f163, Tryz.func163, by kernel_rfl, by kernel_rfl, ?_⟩
  show Calls Tryz.prog 163 #[.slice ad l.length cap] w _
  have hi0 : Tryz.prog.info? 162 = some (Tryz.prog.info? 162).get! := by kernel_rfl
  have hz0 : (Tryz.prog.info? 162).get!.zero = some ((Tryz.prog.info? 162).get!.zero).get! := by kernel_rfl
  have hs3 : (Tryz.prog.info? 162).get!.size = 3 := by kernel_rfl
  have hb24 : (Tryz.prog.info? 162).get!.bytes = 24 := by kernel_rfl
  have hzc : ((Tryz.prog.info? 162).get!.zero).get!.cells.size = 3 := by kernel_rfl
  generalize (Tryz.prog.info? 162).get! = i0 at hi0 hz0 hs3 hb24 hzc
  generalize (i0.zero).get! = z at hz0 hzc
  go_enter Tryz.func163, Tryz.ntmps163
  go_wp2
  go_loopw [3, 11] (fun s i wr => ∃ k : Nat, k ≤ l.length ∧ i = .int .i64 k ∧ s = .int .i64 (Ad1 l k : Nat) ∧ wr = w)
   (fun _ i _ => l.length - (RowKit.intOf i).toNat)
  case atStart => exact ⟨0, Nat.zero_le _, rfl, rfl, rfl⟩
  case round =>
   obtain ⟨k, hk, rfl, rfl, hwr⟩ := hrel
   have hwr := hwr.symm
   subst hwr
   by_cases hp : k < l.length
   ·have hx : l[k]? = some l[k] := List.getElem?_eq_getElem hp
    obtain ⟨b, o, a', c', rfl, hb, hcl, hle, _, _⟩ := hcell k _ hx
    have hc1 := A0i hp
    have hc2 := A6s l (k + 1)
    go_wp2
    go_roundw
    case rel => exact ⟨k + 1, by omega, by go_num, by rw [hc1]; go_num, (by first | rfl | trivial)⟩
    case measure => simp [RowKit.intOf]; omega
   ·have hke : k = l.length := by omega
    subst hke
    have hcl : Ad1 l l.length = l.flatten.length := by unfold Ad1; rw [List.take_length]
    rw [hcl]
    obtain ⟨N, hN⟩ : ∃ N, N = l.flatten.length := ⟨_, rfl⟩
    rw [← hN]
    have hgr : ∀ _ : Unit, Calls Tryz.prog 202 #[.slice none 0 0, .int .i64 (N : Nat)] w fun e w' => ∃ s, e = .returned s ∧ Bd1 S w w.heap.size l 0 s w' ∧ Below w.heap.size w w' := by
     intro _
     rw [hN]
     by_cases h0 : l.flatten.length = 0
     ·rw [h0]
      refine (Any8.slices_Grow_room Bh7 none 0 0 0 w (Nat.zero_le _) (by decide) (by decide) (by decide)).mono ?_
      rintro e w' ⟨rfl, rfl⟩
      exact ⟨_, rfl, .inl ⟨h0, rfl⟩, Below.refl _ _⟩
     ·refine (Any8.slices_Grow_grow Bh7 i0 z hi0 hz0 (by omega) none 0 0 l.flatten.length [] w (Nat.zero_le _) (by omega) (by rw [hb24]; omega) (by omega) (by rw [hs3]; rfl) (fun _ => rfl) (fun _ h => by cases h)).mono ?_
      rintro e w' ⟨rfl, rfl⟩
      have hg := grownCap_ge w (0 + l.flatten.length) 0 162
      refine ⟨_, rfl, .inr ⟨_, _, rfl, Nat.le_trans (by omega) hg, Bf3 w.drew _, ?_, BP8 w.drew _, ?_⟩, ?_⟩
      ·rw [Array.size_append, Array.size_append, A6u hzc, A6u hzc, show ([] : List Value).toArray.size = 0 from rfl, show rG.t 25 = 162 from rfl]
       generalize grownCap w (0 + l.flatten.length) 0 162 = G at hg
       omega
      ·rw [show Ad1 l 0 * 3 = 0 by rfl]
       exact .of (by simp [win]) fun j v hv => by simp [nth] at hv
      ·exact (Below.refl _ w).drew.alloc (Nat.le_refl _) _
    have hN' : ∀ _ : Unit, N = l.flatten.length := fun _ => hN
    have hI : ∀ _ : Unit, Tryz.prog.info? 162 = some i0 ∧ i0.size = 3 := fun _ => ⟨hi0, hs3⟩
    clear hi0 hz0 hs3 hb24 hzc hcl hN
    go_wp2_with (go_at_call 202; refine (hgr ()).mono ?_; rintro e W1 ⟨s, rfl, hG, hB1⟩)
    go_loopw [6, 27] (fun s i wr => ∃ k : Nat, k ≤ l.length ∧ i = .int .i64 k ∧ Bd1 S w w.heap.size l k s wr ∧ Below w.heap.size w wr)
     (fun _ i _ => l.length - (RowKit.intOf i).toNat)
    case atStart => exact ⟨0, Nat.zero_le _, rfl, hG, hB1⟩
    case round =>
     obtain ⟨k, hk, rfl, hG, hnx⟩ := hrel
     by_cases hp : k < l.length
     ·have hx : l[k]? = some l[k] := List.getElem?_eq_getElem hp
      obtain ⟨b, o, a', c', rfl, hb, hcl, hle, hnil, news, hnew, hsrc⟩ := hcell k _ hx
      have hcl' : wr.cell? ⟨b, o + k, none⟩ = some (.slice a' l[k].length c') := by rw [hnx.cell (p := ⟨b, o + k, none⟩) hb]; exact hcl
      have hs1 := hsrc wr hnx
      have hnl : news.length = l[k].length * 3 := hnew.len
      have hcs := A0i hp
      have hcl2 := A6s l (k + 1)
      have hfl : (l.take (k + 1)).flatten = (l.take k).flatten ++ l[k] := by
       rw [List.take_add_one, hx, Option.toList_some, List.flatten_append]; simp
      obtain ⟨hi0, hs3⟩ := hI ()
      rcases hG with ⟨h0, rfl⟩ | ⟨cap', cs, rfl, hcap', hbk, hsz, hhs, hE⟩
      ·have hz : l[k].length = 0 := by omega
       have hnews : news = [] := List.length_eq_zero_iff.1 (by omega)
       subst hnews
       rw [hz] at hs1 hcl'
       have hrun : ∀ ty, (Builtin.append_ #[39, 39] ty #[.slice none 0 0, .slice a' 0 c']).run Tryz.prog wr = .ok (.slice none 0 0) wr := fun ty =>
        run_append_nothing wr 39 39 ty 162 i0 Tryz.underlying39 hi0 none 0 0 (Nat.le_refl _) _ (by rw [hs3]; exact hs1)
       have hG' : Bd1 S w w.heap.size l (k + 1) (.slice none 0 0) wr := .inl ⟨h0, rfl⟩
       clear hi0 hs3 hs1 hcs hcl2 hfl hz h0
       go_wp2_with (at_builtin; refine AJ9 _ rfl _ _ 39 39 rfl _ _ rfl rfl _ _ hrun ?_)
       go_roundw
       case rel => exact ⟨k + 1, by omega, by go_num, hG', hnx⟩
       case measure => simp [RowKit.intOf]; omega
      ·have hlt : w.heap.size < wr.heap.size := by omega
       have hrun : ∀ ty, (Builtin.append_ #[39, 39] ty #[.slice (some ⟨w.heap.size, 0, none⟩) (Ad1 l k) cap', .slice a' l[k].length c']).run Tryz.prog wr = .ok (.slice (some ⟨w.heap.size, 0, none⟩) (Ad1 l k + l[k].length) cap') (wr.setCells w.heap.size (0 + Ad1 l k * i0.size) news) := fun ty =>
        run_append_room_src wr 39 39 ty 162 i0 Tryz.underlying39 hi0 w.heap.size 0 (Ad1 l k) cap' _ _ news (by rw [hs3]; exact hs1) (by omega)
         (fun j hj => by rw [hs3]; exact A5o ⟨_, _, hbk⟩ (by omega))
         (fun j hj => by rw [hs3]; exact At0 (q := false) ⟨_, _, hbk, fun _ _ => by simp, .inr rfl⟩ (by omega))
       rw [hs3] at hrun
       obtain ⟨cs1, k1, k2, k3, k4, k5⟩ := AY2 (vs := news) (o := 0 + Ad1 l k * 3) (b := w.heap.size) hbk (by omega)
       have htl : cs.toList.length = cs.size := Array.length_toList
       have hs1' : cs1.size = cs.size := by
        have := congrArg List.length k2
        rw [jO (by rw [htl]; omega)] at this
        simpa using this
       obtain ⟨W2, hW2⟩ : ∃ W2, W2 = wr.setCells w.heap.size (0 + Ad1 l k * 3) news := ⟨_, rfl⟩
       rw [← hW2] at hrun k1 k3 k4 k5
       have hG' : Bd1 S w w.heap.size l (k + 1) (.slice (some ⟨w.heap.size, 0, none⟩) (Ad1 l k + l[k].length) cap') W2 := by
        refine .inr ⟨cap', cs1, by rw [hcs], hcap', k1, by rw [hs1']; exact hsz, by rw [k4]; exact hhs, ?_⟩
        rw [hfl]
        have he := (hE.append hnew).flat (S' := S) (w' := w) rfl
        have hw : win cs1.toList 0 (Ad1 l (k + 1) * 3) = win cs.toList 0 (Ad1 l k * 3) ++ news := by
         rw [hcs]
         refine Bb2 (by rw [List.length_append, oZ (by rw [htl]; omega)]; omega) fun t ht => ?_
         rw [k2, nE (by rw [htl]; omega)]
         by_cases h1 : t < Ad1 l k * 3
         ·rw [if_pos (by omega), List.getElem?_append_left (by rw [oZ (by rw [htl]; omega)]; omega), uX, if_pos h1]
         ·rw [if_neg (by omega), if_pos (by omega), List.getElem?_append_right (by rw [oZ (by rw [htl]; omega)]; omega), oZ (by rw [htl]; omega)]
          congr 1; omega
        rw [hw]
        exact he
       have hnx' : Below w.heap.size w W2 := ⟨k5.os.trans hnx.os, k5.tape.trans hnx.tape, k5.output.trans hnx.output, by rw [k4]; exact hnx.size, fun b' hb' => (k3 b' (by omega)).trans (hnx.block b' hb')⟩
       generalize Ad1 l k + l[k].length = ln at hrun hG'
       clear hi0 hs3 hs1 hcs hcl2 hfl hW2 k1 k2 k3 k4 k5 hsz hhs hE hs1' htl hbk hnl hcap' hnew
       go_wp2_with (at_builtin; refine AJ9 _ rfl _ _ 39 39 rfl _ _ rfl rfl _ _ hrun ?_)
       go_roundw
       case rel => exact ⟨k + 1, by omega, by go_num, hG', hnx'⟩
       case measure => simp [RowKit.intOf]; omega
     ·have hke : k = l.length := by omega
      subst hke
      go_wp2
      go_ret
      have hcl : Ad1 l l.length = l.flatten.length := by unfold Ad1; rw [List.take_length]
      rcases hG with ⟨h0, rfl⟩ | ⟨cap', cs, rfl, hcap', hbk, hsz, hhs, hE⟩
      ·have hfe : l.flatten = [] := List.length_eq_zero_iff.1 h0
       obtain ⟨h1, h2⟩ := AS8 hs hnx
       rw [hfe]
       refine ⟨S, β, [[.slice none 0 0]], h1, h2, ?_, rfl, by simp [AI8]⟩
       simp only [qZ]
       refine ⟨?_, trivial⟩
       show zP S β noH wr [0] (.sl tB3) (.own .sh) ([] : List tB3.D) _
       simp only [zP, Fl.base]
       exact ⟨by simp [pX, Fl.pins], none, 0, rfl, Nat.zero_le _, .inl rfl⟩
      ·rw [hcl]
       rw [List.take_length] at hE
       rw [hcl] at hE
       exact BL8 (τ := tB3) hs hbk (fun b hb => hnx.block b hb) hhs ⟨hnx.os, hnx.tape, hnx.output⟩ hcap' (by rw [h3, hsz]; exact Nat.le_refl _) (hE.flat (S' := S) rfl) rfl (fun _ => by simp [AI8])
 | [], ha => simp [vV] at ha
 | _ :: _ :: _, ha => simp [vV] at ha
theorem Ba8 (hE : E.P = Tryz.prog) (xs : List Int) (hn : xs.length ≤ 1048576) :
  AU1 E ⟨[.io (.sl (.int .i64)) (.own .sh) (.own .sh) 0 []], 0, .pair (.sl (.int .i64)) .unit, .pr (.own .sh) .sh, keep, mv⟩ 201 [⟨.sl (.int .i64), xs⟩] ((xs.reverse : List Int), ()) := by
 intro w S β cs hs ha
 match cs, ha with
 | [c1], ha =>
  simp only [vV] at ha
  obtain ⟨_, _, hv, _⟩ := ha
  obtain ⟨ad, cap, rfl, hl, hb⟩ := A9g (τ := .int .i64) hv
  have h1 : (Ty.int IntKind.i64).size = 1 := rfl
  rw [hE]
  refine .inl ⟨Tryz.f201, Tryz.func201, by kernel_rfl, by kernel_rfl, ?_⟩
  show Calls Tryz.prog 201 #[.slice ad xs.length cap] w _
  have back : ∀ w' : World, Sane w' S (fun k => if k = [1] then β [0] else none) → Step w S β w' S (fun k => if k = [1] then β [0] else none) → zP S (fun k => if k = [1] then β [0] else none) noH w' [1] (.sl (.int .i64)) (.own .sh) (xs.reverse : List Int) [.slice ad xs.length cap] →
    Ret ⟨[.io (.sl (.int .i64)) (.own .sh) (.own .sh) 0 []], 0, .pair (.sl (.int .i64)) .unit, .pr (.own .sh) .sh, keep, mv⟩ ((xs.reverse : List Int), ()) [[.slice ad xs.length cap]] w S β (.tuple #[]) w' := fun w' a1 a2 a3 => by
   refine ⟨S, _, [], a1, a2, ?_, rfl, ?_⟩
   ·simp only [qZ]
   ·simp only [AI8]
    exact ⟨rfl, a3, trivial⟩
  have sane : ∀ w' : World, (∀ b, b < w.heap.size → (∀ k, β k ≠ some b) → w'.heap[b]? = w.heap[b]?) → w'.heap.size = w.heap.size → SameOut w w' → Sane w' S (fun k => if k = [1] then β [0] else none) ∧ Step w S β w' S (fun k => if k = [1] then β [0] else none) := fun w' hb hsz ho => by
   have hg : ∀ k b, (if k = [1] then β [0] else none) = some b → k = [1] ∧ β [0] = some b := fun k b h => by
    split at h
    ·exact ⟨by assumption, h⟩
    ·cases h
   refine ⟨⟨fun k k' b h1 h2 => (hg k b h1).1.trans (hg k' b h2).1.symm, fun k b h => hs.sep _ b (hg k b h).2, fun k b h => by rw [hsz]; exact hs.live _ b (hg k b h).2, fun b h => by rw [hsz]; exact hs.liveS b h, hs.tabs fun b h => ⟨h, hb b (hs.liveS b h) fun k e => hs.sep k b e h⟩⟩,
    ⟨Nat.le_of_eq hsz.symm, hb, fun k b h => .inl ⟨_, (hg k b h).2⟩, fun _ h => h, fun _ h => .inl h, ho⟩⟩
  by_cases h0 : xs = []
  ·subst h0
   refine (Any.slices_Reverse_int_empty Bi5 ad cap w).mono ?_
   rintro e w' ⟨rfl, rfl⟩
   obtain ⟨s1, s2⟩ := sane w' (fun _ _ _ => rfl) rfl .rfl'
   refine back w' s1 s2 ?_
   simp only [zP, Fl.base]
   refine ⟨by simp [pX, Fl.pins], ad, cap, rfl, hl, ?_⟩
   rcases hb with hb | ⟨b, o, cs, rfl, hk, hB, hz, hel⟩
   ·exact .inl hb
   ·exact .inr ⟨b, o, cs, rfl, by simpa using hk, hB, hz, fun i y hy => absurd (List.getElem?_eq_some_iff.1 (show ([] : List Int)[i]? = some y from hy)).1 (Nat.not_lt_zero _)⟩
  ·have hpos : 0 < xs.length := List.length_pos_iff.2 h0
   have hl : xs.length ≤ cap := hl
   rcases hb with hb | ⟨b, o, cs, rfl, hk, hB, hz, hel⟩
   ·omega
   rw [h1] at hz hel
   have hget : ∀ j (h : j < xs.length), cs[o + j]? = some (.int .i64 xs[j]) := fun j h => by
    have h2 := hel.get j xs[j] (List.getElem?_eq_getElem h)
    rw [h1] at h2
    simp only [Rd] at h2
    have h3 : (win (win cs.toList o (xs.length * 1)) (j * 1) 1)[0]? = some (.int .i64 xs[j]) := (congrArg (fun l : List Value => l[0]?) h2).trans rfl
    rw [uX, if_pos (by omega), uX, if_pos (by omega), Array.getElem?_toList] at h3
    rw [show o + j = o + (j * 1 + 0) by omega]
    exact h3
   have hsz : o + xs.length ≤ cs.size := by omega
   have hH : Holds (Value.int .i64) w b o xs.toArray := fun j hj => by
    have hj : j < xs.length := by simpa using hj
    refine ⟨?_, At0 hB (by omega)⟩
    rw [A0A hB.blk (v := .int .i64 xs[j]) (by rw [Array.getElem?_toList]; exact hget j hj), getElem!_pos _ j (by simpa using hj)]
    simp
   refine (Any.slices_Reverse_int Bi5 b o cap xs w hH (by omega)).mono ?_
   rintro e w' ⟨rfl, n, rfl⟩
   obtain ⟨eb, fz, hbl, hfz, hq⟩ := hB
   obtain ⟨p1, p2, p3, p4⟩ := BK0 (enc := Value.int .i64) (o := o) (d := xs.reverse.toArray) (w := Sort.ahead w n) (b := b) hbl
   have p2 : ∀ b', b' ≠ b → (putRow (Value.int .i64) (Sort.ahead w n) b o xs.reverse.toArray).heap[b']? = w.heap[b']? := p2
   have p3 : (putRow (Value.int .i64) (Sort.ahead w n) b o xs.reverse.toArray).heap.size = w.heap.size := p3
   have ps : (putCells (Value.int .i64) o xs.reverse.toArray cs).size = cs.size := by unfold putCells; simp
   have pg : ∀ j (h : j < xs.reverse.length), (putCells (Value.int .i64) o xs.reverse.toArray cs)[o + j]? = some (.int .i64 xs.reverse[j]) := fun j h => by
    have h' : j < xs.length := by simpa using h
    have hc : o + j < cs.size := by omega
    unfold putCells
    rw [Array.getElem?_mapIdx, Array.getElem?_eq_getElem hc]
    simp only [Option.map_some]
    rw [if_pos ⟨by omega, by simp; omega⟩, show o + j - o = j by omega, getElem!_pos _ j (by simpa using h)]
    simp
   obtain ⟨s1, s2⟩ := sane _ (fun b' _ hb' => p2 b' fun e => hb' [0] (by rw [e]; exact hk)) p3 ⟨p4.os, p4.tape, p4.output⟩
   refine back _ s1 s2 ?_
   have hlr : xs.reverse.length = xs.length := List.length_reverse
   have hwl : (putCells (Value.int .i64) o xs.reverse.toArray cs).toList.length = cs.size := by rw [Array.length_toList, ps]
   have := BH0 (S := S) (H := noH) (w := putRow (Value.int .i64) (Sort.ahead w n) b o xs.reverse.toArray) (β := fun k => if k = [1] then β [0] else none) (key := [1]) (τ := .int .i64) (xs := (xs.reverse : List Int)) (cap := cap) (b := b) (o := o) (Nat.le_trans (Nat.le_of_eq hlr) hl) (by simpa using hk) ⟨eb, fz, p1, by rw [ps]; exact hfz, hq⟩ (by rw [ps, h1]; exact hz)
    (cx := win (putCells (Value.int .i64) o xs.reverse.toArray cs).toList o (xs.reverse.length * 1)) (.of (by rw [oZ (by rw [hwl]; omega)]; rfl) fun j v hv => by
     have hj : j < xs.reverse.length := (List.getElem?_eq_some_iff.1 hv).1
     have hv' : xs.reverse[j] = v := (List.getElem?_eq_some_iff.1 hv).2
     rw [h1]
     simp only [Rd]
     apply List.ext_getElem?
     intro t
     rw [uX]
     by_cases ht : t < 1
     ·have : t = 0 := by omega
      subst this
      rw [if_pos ht, uX, if_pos (by omega), Array.getElem?_toList, show o + (j * 1 + 0) = o + j by omega, pg j hj, hv']; rfl
     ·rw [if_neg ht]
      exact (List.getElem?_eq_none (by simp; omega)).symm) rfl
   have hlr' : List.length (α := (Ty.int .i64).D) xs.reverse = List.length xs := hlr
   rw [hlr'] at this
   exact this
 | [], ha => simp [vV] at ha
 | _ :: _ :: _, ha => simp [vV] at ha
end
end Go.Rf

end
