/- For every seed and count the program's DrawsFrom returns what the reference's returns, and its list is new memory. No conditions. -/
import Derived.Test.YtgfbgpclodipcaaPFnExactDrawsFromx2
namespace Go.Proofs.Ytgfbgpclodipcaa.Pure
open Go.RowKit Go.Proofs.Ytgfbgpclodipcaa.PFnExactDrawsFrom Go.Proofs.YtgfbgpclodipcaaW.PrintWords Go.Proofs.YtgfbgpclodipcaaW.PrintLast

theorem and_mask31 (n : Int) : bits .and .i64 n 2147483647 = n % 2147483648 := by
  have h127 : (BitVec.ofInt 64 2147483647).toNat = 2 ^ 31 - 1 := by decide
  have key : (BitVec.ofInt 64 n &&& BitVec.ofInt 64 2147483647).toNat = (n % ((2 ^ 64 : Nat) : Int)).toNat % 2 ^ 31 := by
    rw [BitVec.toNat_and, BitVec.toNat_ofInt, h127, Nat.and_two_pow_sub_one_eq_mod]
  show IntKind.i64.wrap ((BitVec.ofInt 64 n &&& BitVec.ofInt 64 2147483647).toNat : Nat) = n % 2147483648
  rw [key, IntKind.wrap_i64]
  omega

theorem and_mask3 (n : Int) : bits .and .i64 n 7 = n % 8 := by
  have h127 : (BitVec.ofInt 64 7).toNat = 2 ^ 3 - 1 := by decide
  have key : (BitVec.ofInt 64 n &&& BitVec.ofInt 64 7).toNat = (n % ((2 ^ 64 : Nat) : Int)).toNat % 2 ^ 3 := by
    rw [BitVec.toNat_and, BitVec.toNat_ofInt, h127, Nat.and_two_pow_sub_one_eq_mod]
  show IntKind.i64.wrap ((BitVec.ofInt 64 n &&& BitVec.ofInt 64 7).toNat : Nat) = n % 8
  rw [key, IntKind.wrap_i64]
  omega

theorem wrap_eq {i : Int} (h0 : -9223372036854775808 ≤ i) (h : i ≤ 9223372036854775807) : wrap64 i = i := by
  unfold wrap64
  omega

/-- The next seed. -/
def nxt (x : Int) : Int := (1103515245 * x + 12345) % 2147483648

theorem nxt_bd (x : Int) : 0 ≤ nxt x ∧ nxt x ≤ 2147483647 := by unfold nxt; omega

def drawsL : Nat → Int → List Int
  | 0, _ => []
  | n + 1, x => (nxt x / 65536 % 8) :: drawsL n (nxt x)

theorem drawsL_bd : ∀ (n : Nat) (x : Int), (drawsL n x).length = n
  | 0, _ => rfl
  | n + 1, x => by simp [drawsL, drawsL_bd n]

theorem wraps (x : Int) (h0 : 0 ≤ x) (h1 : x ≤ 2147483647) : wrap64 (wrap64 (1103515245 * x) + 12345) = 1103515245 * x + 12345 := by
  rw [wrap_eq (i := 1103515245 * x) (by omega) (by omega), wrap_eq (by omega) (by omega)]

theorem spec_loop (d : Nat) : ∀ (k : Nat) (x n : Int) (out : List Int) (i : Int), 0 ≤ x → x ≤ 2147483647 → 0 ≤ i → i ≤ n → n ≤ 1000 → n - i = d → d < k → (out.length : Int) = i →
    spec_l15Draws.l0 k x n out i = some (out ++ drawsL d x) := by
  induction d with
  | zero =>
    intro k x n out i h0 h1 hi0 hi hn hd hk hl
    obtain ⟨k, rfl⟩ : ∃ m, k = m + 1 := ⟨k - 1, by omega⟩
    simp only [spec_l15Draws.l0]
    rw [if_neg (by omega)]
    simp [drawsL]
  | succ d ih =>
    intro k x n out i h0 h1 hi0 hi hn hd hk hl
    obtain ⟨k, rfl⟩ : ∃ m, k = m + 1 := ⟨k - 1, by omega⟩
    simp only [spec_l15Draws.l0]
    rw [if_pos (by omega), if_pos (by omega), wraps x h0 h1, and_mask31, and_mask3, wrap_eq (by omega) (by omega)]
    have hb := nxt_bd x
    have hn : (1103515245 * x + 12345) % 2147483648 = nxt x := rfl
    rw [hn, ih k (nxt x) n _ (i + 1) hb.1 hb.2 (by omega) (by omega) (by omega) (by omega) (by omega) (by simp; omega)]
    simp [drawsL]

theorem impl_loop (d : Nat) : ∀ (k : Nat) (x n : Int) (out : List Int) (i : Int), 0 ≤ x → x ≤ 2147483647 → 0 ≤ i → i ≤ n → n ≤ 1000 → n - i = d → d < k → (out.length : Int) = i →
    impl_draws.l0 k x out n i = some (out ++ drawsL d x) := by
  induction d with
  | zero =>
    intro k x n out i h0 h1 hi0 hi hn hd hk hl
    obtain ⟨k, rfl⟩ : ∃ m, k = m + 1 := ⟨k - 1, by omega⟩
    simp only [impl_draws.l0]
    rw [if_neg (by omega)]
    simp [drawsL]
  | succ d ih =>
    intro k x n out i h0 h1 hi0 hi hn hd hk hl
    obtain ⟨k, rfl⟩ : ∃ m, k = m + 1 := ⟨k - 1, by omega⟩
    simp only [impl_draws.l0]
    have hb := nxt_bd x
    have ht : Int.tmod (1103515245 * x + 12345) 2147483648 = nxt x := by
      unfold nxt
      exact Int.tmod_eq_emod_of_nonneg (by omega)
    have hq : Int.tdiv (nxt x) 65536 = nxt x / 65536 := Int.tdiv_eq_ediv_of_nonneg hb.1
    have hm : Int.tmod (nxt x / 65536) 8 = nxt x / 65536 % 8 := Int.tmod_eq_emod_of_nonneg (by omega)
    rw [if_pos (by omega), if_pos (by omega), wraps x h0 h1, ht, hq, wrap_eq (i := nxt x / 65536) (by omega) (by omega), hm, wrap_eq (i := i + 1) (by omega) (by omega)]
    rw [ih k (nxt x) n _ (i + 1) hb.1 hb.2 (by omega) (by omega) (by omega) (by omega) (by omega) (by simp; omega)]
    simp [drawsL]

theorem eq_loop (d : Nat) : ∀ (k : Nat) (xs : List Int) (i : Int), 0 ≤ i → i ≤ xs.length → xs.length ≤ 1000 → (xs.length : Int) - i = d → d < k →
    laws_eqIntS.l0 k xs xs i = some true := by
  induction d with
  | zero =>
    intro k xs i h0 h1 hl hd hk
    obtain ⟨k, rfl⟩ : ∃ m, k = m + 1 := ⟨k - 1, by omega⟩
    simp only [laws_eqIntS.l0]
    rw [if_neg (by omega)]
  | succ d ih =>
    intro k xs i h0 h1 hl hd hk
    obtain ⟨k, rfl⟩ : ∃ m, k = m + 1 := ⟨k - 1, by omega⟩
    simp only [laws_eqIntS.l0]
    rw [if_pos (by omega), if_pos h0, if_pos (by omega), if_pos trivial, wrap_eq (by omega) (by omega)]
    exact ih k xs (i + 1) (by omega) (by omega) hl (by omega) (by omega)

def marks (n : Nat) : List Int := (List.range n).map fun (i : Nat) => (i : Int) + 1

theorem mark_loop (d : Nat) : ∀ (k : Nat) (xs : List Int) (i : Int), 0 ≤ i → i ≤ xs.length → xs.length ≤ 1000 → (xs.length : Int) - i = d → d < k →
    xs.take i.toNat = marks i.toNat → laws_markIntS.l0 k xs (i + 1) i = some ((xs.length : Int) + 1, marks xs.length) := by
  induction d with
  | zero =>
    intro k xs i h0 h1 hl hd hk ht
    obtain ⟨k, rfl⟩ : ∃ m, k = m + 1 := ⟨k - 1, by omega⟩
    simp only [laws_markIntS.l0]
    have hi : i.toNat = xs.length := by omega
    rw [if_neg (by omega)]
    rw [hi, List.take_length] at ht
    rw [show i = (xs.length : Int) by omega]
    exact congrArg some (Prod.ext rfl ht)
  | succ d ih =>
    intro k xs i h0 h1 hl hd hk ht
    obtain ⟨k, rfl⟩ : ∃ m, k = m + 1 := ⟨k - 1, by omega⟩
    simp only [laws_markIntS.l0]
    rw [if_pos (by omega), if_pos h0, wrap_eq (by omega) (by omega), wrap_eq (by omega) (by omega)]
    have := ih k (xs.set i.toNat (i + 1)) (i + 1) (by omega) (by simp; omega) (by simp; omega) (by simp; omega) (by omega) (by
      rw [show (i + 1).toNat = i.toNat + 1 by omega, List.take_succ_eq_append_getElem (by simp; omega)]
      rw [List.take_set_of_le (Nat.le_refl _), ht]
      simp [marks, List.range_succ]
      omega)
    simpa using this

theorem marks_rd (n : Nat) (i : Int) (h0 : 0 ≤ i) (h : i < n) : rd (marks n) i = i + 1 := by
  obtain ⟨j, rfl⟩ := Int.eq_ofNat_of_zero_le h0
  have hj : j < n := by omega
  simp [rd, marks, List.getD, hj]

theorem held_loop (d : Nat) (n : Nat) (hn : n ≤ 1000) : ∀ (k : Nat) (i : Int), 0 ≤ i → i ≤ n → (n : Int) - i = d → d < k →
    laws_heldIntS.l0 k (marks n) (i + 1) i = some ((n : Int) + 1) := by
  have hlen : (marks n).length = n := by simp [marks]
  induction d with
  | zero =>
    intro k i h0 h1 hd hk
    obtain ⟨k, rfl⟩ : ∃ m, k = m + 1 := ⟨k - 1, by omega⟩
    simp only [laws_heldIntS.l0]
    rw [if_neg (by omega), show i = (n : Int) by omega]
  | succ d ih =>
    intro k i h0 h1 hd hk
    obtain ⟨k, rfl⟩ : ∃ m, k = m + 1 := ⟨k - 1, by omega⟩
    simp only [laws_heldIntS.l0]
    rw [if_pos (by omega), if_pos h0, if_pos (marks_rd n i h0 (by omega)), wrap_eq (by omega) (by omega), wrap_eq (by omega) (by omega)]
    exact ih k (i + 1) (by omega) (by omega) (by omega) (by omega)

/-- What both return. -/
def told (s n : Int) : List Int × Int := if 0 ≤ s ∧ s ≤ 2147483647 ∧ 0 ≤ n ∧ n ≤ 1000 then (drawsL n.toNat s, 0) else ([], 4)

theorem spec_told (k : Nat) (hk : 1000 < k) (s n : Int) : spec_DrawsFrom.f k s n = some (told s n) := by
  unfold spec_DrawsFrom.f spec_l01In.f told
  by_cases h1 : 0 ≤ s
  · by_cases h2 : s ≤ 2147483647
    · by_cases h3 : 0 ≤ n
      · by_cases h4 : n ≤ 1000
        · have := spec_loop n.toNat k s n [] 0 h1 h2 (by omega) h3 h4 (by omega) (by omega) rfl
          simp [h1, h2, h3, h4, spec_l15Draws.f, this]
        · simp [h1, h2, h3, h4]
      · simp [h1, h2, h3]
    · simp [h1, h2]
  · simp [h1]

theorem impl_told (k : Nat) (hk : 1000 < k) (s n : Int) : impl_DrawsFrom.f k s n = some (told s n) := by
  unfold impl_DrawsFrom.f impl_within.f told
  by_cases h1 : 0 ≤ s
  · by_cases h2 : s ≤ 2147483647
    · by_cases h3 : 0 ≤ n
      · by_cases h4 : n ≤ 1000
        · have := impl_loop n.toNat k s n [] 0 h1 h2 (by omega) h3 h4 (by omega) (by omega) rfl
          simp [h1, h2, h3, h4, impl_draws.f, this]
        · simp [h1, h2, h3, h4]
      · simp [h1, h2, h3]
    · simp [h1, h2]
  · simp [h1]

theorem told_len (s n : Int) : (told s n).1.length ≤ 1000 := by
  unfold told
  split
  · rename_i h; simp only [drawsL_bd]; omega
  · simp

theorem eq_self (k : Nat) (hk : 1000 < k) (xs : List Int) (h : xs.length ≤ 1000) : laws_eqIntS.f k xs xs = some true := by
  unfold laws_eqIntS.f
  rw [if_pos rfl]
  exact eq_loop xs.length k xs 0 (by omega) (by omega) h (by omega) (by omega)

theorem mark_told (k : Nat) (hk : 1000 < k) (xs : List Int) (h : xs.length ≤ 1000) : laws_markIntS.f k xs 1 = some ((xs.length : Int) + 1, marks xs.length) := by
  unfold laws_markIntS.f
  exact mark_loop xs.length k xs 0 (by omega) (by omega) h (by omega) (by omega) rfl

theorem held_told (k : Nat) (hk : 1000 < k) (n : Nat) (h : n ≤ 1000) : laws_heldIntS.f k (marks n) 1 = some ((n : Int) + 1) := by
  unfold laws_heldIntS.f
  exact held_loop n n h k 0 (by omega) (by omega) (by omega) (by omega)

theorem FnExactDrawsFrom : laws_FnExactDrawsFrom.Pure := by
  intro s n _ _
  refine ⟨1010, ?_⟩
  have hl := told_len s n
  unfold laws_FnExactDrawsFrom.f
  rw [spec_told 1010 (by omega), impl_told 1010 (by omega)]
  simp only [Option.bind_some]
  rw [eq_self 1010 (by omega) _ hl]
  simp only [Option.bind_some, if_true, bne_self_eq_false]
  rw [laws_FnExactDrawsFrom.j0, if_neg (by decide), mark_told 1009 (by omega) _ hl]
  simp only [Option.bind_some]
  rw [held_told 1009 (by omega) _ hl]
  simp only [Option.bind_some]
  rw [if_neg (by omega), if_pos trivial, impl_told 1009 (by omega)]
  simp only [Option.bind_some]
  rw [eq_self 1009 (by omega) _ hl]
  simp only [Option.bind_some, if_true, bne_self_eq_false]
  rw [laws_FnExactDrawsFrom.j1, if_neg (by decide), held_told 1008 (by omega) _ hl]
  simp only [Option.bind_some]
  rw [if_neg (by omega), if_pos trivial]

end Go.Proofs.Ytgfbgpclodipcaa.Pure
