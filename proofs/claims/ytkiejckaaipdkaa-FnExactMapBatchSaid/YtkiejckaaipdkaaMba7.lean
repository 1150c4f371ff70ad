import Derived.Test.YtkiejckaaipdkaaMba6
set_option linter.unusedVariables false
set_option linter.unusedSimpArgs false
namespace Go.Rf.S
set_option maxRecDepth 100000
set_option linter.unusedVariables false
set_option linter.unusedSimpArgs false

/-! places in a map -/
abbrev E0 : D_Entry := (0, (0, ()))
def lo (key : Int) : List D_Entry → Nat
  | [] => 0
  | e :: es => if e.1 < key then lo key es + 1 else 0
def fnd (key : Int) (m : List D_Entry) : Bool := decide (lo key m < m.length) && decide ((m.getD (lo key m) E0).1 = key)
structure MI (m : List D_Entry) : Prop where
  srt : m.Pairwise fun a b => a.1 < b.1
  keys : ∀ e ∈ m, 1 ≤ e.1 ∧ e.1 ≤ 9999
  vals : ∀ e ∈ m, 0 ≤ e.2.1 ∧ e.2.1 ≤ 999999
  len : m.length ≤ 11
theorem mapF_inv : ∀ {m : List D_Entry} {p : Option Int}, mapF p m = true → (∀ e ∈ m, ltO p e.1 = true ∧ (1 ≤ e.1 ∧ e.1 ≤ 9999) ∧ (0 ≤ e.2.1 ∧ e.2.1 ≤ 999999)) ∧ m.Pairwise fun a b => a.1 < b.1
  | [], _, _ => ⟨by simp, .nil⟩
  | e :: es, p, h => by
    simp only [mapF, Bool.and_eq_true] at h
    obtain ⟨h1, h2, h3, h4⟩ := h
    obtain ⟨q1, q2⟩ := mapF_inv h4
    refine ⟨fun x hx => ?_, .cons (fun x hx => ?_) q2⟩
    · rcases List.mem_cons.1 hx with rfl | hx
      · exact ⟨h3, inB_bounds h1, inB_bounds h2⟩
      · obtain ⟨k1, k2, k3⟩ := q1 x hx
        refine ⟨?_, k2, k3⟩
        have k1 : e.1 < x.1 := by simpa [ltO] using k1
        cases p with
        | none => rfl
        | some p =>
          have h3 : p < e.1 := by simpa [ltO] using h3
          simp only [ltO, decide_eq_true_eq]; omega
    · have := (q1 x hx).1
      simpa [ltO] using this
theorem mi_of {m : List D_Entry} (h : mapOK m = true) : MI m := by
  unfold mapOK at h
  rw [Bool.and_eq_true] at h
  obtain ⟨q1, q2⟩ := mapF_inv h.1
  exact ⟨q2, fun e he => (q1 e he).2.1, fun e he => (q1 e he).2.2, by simpa using h.2⟩
theorem lo_le {key : Int} : ∀ {m : List D_Entry}, lo key m ≤ m.length
  | [] => Nat.le_refl _
  | e :: es => by
    unfold lo
    split
    · have := lo_le (key := key) (m := es); simp only [List.length_cons]; omega
    · omega
theorem lo_lt {key : Int} : ∀ {m : List D_Entry} {i : Nat}, i < lo key m → (m.getD i E0).1 < key
  | [], i, h => absurd h (Nat.not_lt_zero _)
  | e :: es, i, h => by
    unfold lo at h
    split at h
    · rename_i he
      cases i with
      | zero => exact he
      | succ i =>
        have := lo_lt (m := es) (i := i) (key := key) (by omega)
        simpa using this
    · omega
theorem lo_at {key : Int} : ∀ {m : List D_Entry}, lo key m < m.length → key ≤ (m.getD (lo key m) E0).1
  | [], h => absurd h (Nat.not_lt_zero _)
  | e :: es, h => by
    unfold lo
    split
    · rename_i he
      unfold lo at h
      rw [if_pos he] at h
      have := lo_at (m := es) (key := key) (by simp only [List.length_cons] at h; omega)
      simpa using this
    · rename_i he
      simp only [List.getD_cons_zero]; omega
theorem srt_lt {m : List D_Entry} (h : m.Pairwise fun a b => a.1 < b.1) {i j : Nat} (hij : i < j) (hj : j < m.length) : (m.getD i E0).1 < (m.getD j E0).1 := by
  have := List.pairwise_iff_getElem.1 h i j (by omega) hj hij
  rw [List.getD_eq_getElem?_getD, List.getD_eq_getElem?_getD, List.getElem?_eq_getElem (by omega), List.getElem?_eq_getElem hj]
  exact this
theorem lo_ge {key : Int} {m : List D_Entry} (h : m.Pairwise fun a b => a.1 < b.1) {i : Nat} (hi : lo key m ≤ i) (hl : i < m.length) : key ≤ (m.getD i E0).1 := by
  rcases Nat.eq_or_lt_of_le hi with e | e
  · subst e; exact lo_at hl
  · have := srt_lt h e hl
    have := lo_at (key := key) (m := m) (by omega)
    omega
theorem lo_gt {key : Int} {m : List D_Entry} (h : m.Pairwise fun a b => a.1 < b.1) {i : Nat} (hi : lo key m < i) (hl : i < m.length) : key < (m.getD i E0).1 := by
  have := srt_lt h hi hl
  have := lo_at (key := key) (m := m) (by omega)
  omega
theorem lo_is {key : Int} {m : List D_Entry} (h : m.Pairwise fun a b => a.1 < b.1) {i : Nat} (hl : i < m.length) (he : (m.getD i E0).1 = key) : lo key m = i := by
  rcases Nat.lt_trichotomy i (lo key m) with e | e | e
  · have := lo_lt e; omega
  · exact e.symm
  · have := lo_gt h e hl; omega
theorem fnd_t {key : Int} {m : List D_Entry} (h : fnd key m = true) : lo key m < m.length ∧ (m.getD (lo key m) E0).1 = key := by
  unfold fnd at h
  simpa using h
theorem fnd_f {key : Int} {m : List D_Entry} (h : fnd key m = false) : lo key m < m.length → (m.getD (lo key m) E0).1 ≠ key := by
  unfold fnd at h
  intro hl
  rw [decide_eq_true hl] at h
  simpa using h

/-! find -/
def atI (key : Int) (m : List D_Entry) : Int := cond (fnd key m) (lo key m : Int) (-1)
theorem find_loop (m : List D_Entry) (key : Int) (hm : MI m) : ∀ (n : Nat) (v4 : Int) (i : Nat), m.length - i = n → i ≤ m.length → (∀ j, j < i → (m.getD j E0).1 ≠ key) → lp_spec_l10Find_0 R L m key v4 i = some (atI key m, ())
  | 0, v4, i, hn, hi, hj => by
    have hq : lp_spec_l10Find_0 R L m key v4 i = _ := round (by kernel_rfl) (q_spec_l10Find_0 R L m key v4 i)
    rw [hq, lt_f (by omega)]
    have hf : fnd key m = false := by
      cases hf : fnd key m with
      | false => rfl
      | true => obtain ⟨h1, h2⟩ := fnd_t hf; exact absurd h2 (hj _ (by omega))
    unfold atI
    rw [hf]; rfl
  | n + 1, v4, i, hn, hi, hj => by
    have hlt : i < m.length := by omega
    have hq : lp_spec_l10Find_0 R L m key v4 i = _ := round (by kernel_rfl) (q_spec_l10Find_0 R L m key v4 i)
    have hl := hm.len
    rw [hq, lt_t hlt, nn, tn, blt_t hlt, eqI_iff, wrap_succ (by omega)]
    simp only [cond_true]
    by_cases he : (m.getD i E0).1 = key
    · rw [decide_eq_true he]
      have := lo_is hm.srt hlt he
      have hf : fnd key m = true := by unfold fnd; rw [this, decide_eq_true hlt, decide_eq_true he]; rfl
      unfold atI
      rw [hf, this]; rfl
    · rw [decide_eq_false he]
      exact find_loop m key hm n v4 (i + 1) (by omega) (by omega) fun j hj' => by
        by_cases e : j = i
        · subst e; exact he
        · exact hj j (by omega)
theorem p_spec_l10Find (m : List D_Entry) (key : Int) (hm : MI m) : c_spec_l10Find R m key = some (atI key m, ()) := by
  have hq : c_spec_l10Find R m key = _ := call (q_spec_l10Find R L m key)
  rw [hq]
  exact find_loop m key hm _ 0 0 rfl (Nat.zero_le _) fun j h => absurd h (Nat.not_lt_zero _)
theorem mid_eq {i j : Nat} (h : i + j ≤ 1000) : Go.IntKind.wrap .i64 (Int.fdiv (Go.IntKind.wrap .u64 (Go.IntKind.wrap .i64 ((i : Int) + (j : Int)))) ((2 : Int) ^ (Min.min (Int.toNat (1 : Int)) (Go.IntKind.bits .u64)))) = (((i + j) / 2 : Nat) : Int) := by
  rw [show (i : Int) + (j : Int) = ((i + j : Nat) : Int) by omega, wrap_id (n := ((i + j : Nat) : Int)) (by omega) (by omega)]
  have hu : Go.IntKind.wrap .u64 ((i + j : Nat) : Int) = ((i + j : Nat) : Int) := by
    show ((i + j : Nat) : Int) % 18446744073709551616 = _
    omega
  have h2 : ((2 : Int) ^ (Min.min (Int.toNat (1 : Int)) (Go.IntKind.bits .u64))) = 2 := rfl
  rw [hu, h2]
  have h3 : Int.fdiv ((i + j : Nat) : Int) 2 = (((i + j) / 2 : Nat) : Int) := by
    rw [Int.fdiv_eq_ediv_of_nonneg _ (by omega)]; omega
  rw [h3, wrap_id (by omega) (by omega)]
theorem cvi_find (e : D_Entry) (key : Int) (h1 : 0 ≤ e.1 ∧ e.1 ≤ 9999) (h2 : 0 ≤ key ∧ key ≤ 9999) : callVI EE R (.mk 69 .nil) [⟨T_Entry, e⟩, ⟨.int .i64, key⟩] = some (e.1 - key) := by
  rw [cv_impl_find_1]
  have hq : c_impl_find_1 R e key = _ := call (q_impl_find_1 R L e key)
  rw [hq, wrap_id (by omega) (by omega)]; rfl
theorem bs_loop (m : List D_Entry) (key : Int) (hm : MI m) (hk : 1 ≤ key ∧ key ≤ 9999) : ∀ (n : Nat) (v6 : Int) (v7 : Bool) (i j : Nat) (v11 : Int), j - i ≤ n → i ≤ lo key m → lo key m ≤ j → j ≤ m.length →
    lp_slices_BinarySearchFunc___impl_Entry_impl_Entry_int__1 R L m key (.mk 69 .nil) v6 v7 m.length i j v11 = some (((lo key m : Nat) : Int), (fnd key m, ()))
  | n, v6, v7, i, j, v11, hn, hi, hj, hl => by
    have hlen := hm.len
    have hq : lp_slices_BinarySearchFunc___impl_Entry_impl_Entry_int__1 R L m key (.mk 69 .nil) v6 v7 m.length i j v11 = _ := round (by kernel_rfl) (q_slices_BinarySearchFunc___impl_Entry_impl_Entry_int__1 R L m key (.mk 69 .nil) v6 v7 m.length i j v11)
    have cv : ∀ t, t < m.length → callVI EE R (.mk 69 .nil) [⟨T_Entry, m.getD t E0⟩, ⟨.int .i64, key⟩] = some ((m.getD t E0).1 - key) := fun t ht => by
      have := hm.keys _ (getD_mem (d := E0) ht)
      exact cvi_find _ _ (by omega) (by omega)
    rw [hq]
    by_cases hlt : i < j
    · have hmid : (i + j) / 2 < m.length := by omega
      rw [lt_t hlt, mid_eq (by omega), nn, tn, blt_t hmid]
      simp only [cond_true]
      rw [cv _ hmid]
      simp only [Option.bind_some]
      cases n with
      | zero => omega
      | succ n =>
        by_cases hless : (m.getD ((i + j) / 2) E0).1 < key
        · rw [decide_eq_true (by omega), wrap_succ (by omega)]
          refine bs_loop m key hm hk n _ _ _ _ _ (by omega) ?_ hj hl
          rcases Nat.lt_or_ge ((i + j) / 2) (lo key m) with h | h
          · omega
          · have := lo_ge (key := key) hm.srt h hmid; omega
        · rw [decide_eq_false (by omega)]
          refine bs_loop m key hm hk n _ _ _ _ _ (by omega) hi ?_ (by omega)
          rcases Nat.lt_or_ge ((i + j) / 2) (lo key m) with h | h
          · have := lo_lt (key := key) h; omega
          · exact h
    · have hij : i = lo key m := by omega
      subst hij
      rw [lt_f (by omega)]
      simp only [cond_false]
      by_cases hend : lo key m < m.length
      · rw [lt_t hend, nn, tn, blt_t hend]
        simp only [cond_true]
        rw [cv _ hend]
        simp only [Option.bind_some, eqI_iff]
        unfold fnd
        rw [decide_eq_true hend, Bool.true_and]
        congr 3
        exact decide_eq_decide.2 (by omega)
      · rw [lt_f (by omega)]
        unfold fnd
        rw [decide_eq_false hend]; rfl
theorem p_impl_find (m : List D_Entry) (key : Int) (hm : MI m) (hk : 1 ≤ key ∧ key ≤ 9999) : c_impl_find R m key = some (((lo key m : Nat) : Int), (fnd key m, ())) := by
  have hq : c_impl_find R m key = _ := call (q_impl_find R L m key)
  have hb : c_slices_BinarySearchFunc___impl_Entry_impl_Entry_int_ R m key (.mk 69 .nil) = _ := call (q_slices_BinarySearchFunc___impl_Entry_impl_Entry_int_ R L m key (.mk 69 .nil))
  have hq0 : lp_slices_BinarySearchFunc___impl_Entry_impl_Entry_int__0 R L m key (.mk 69 .nil) 0 false m.length 0 m.length = _ := round (by kernel_rfl) (q_slices_BinarySearchFunc___impl_Entry_impl_Entry_int__0 R L m key (.mk 69 .nil) 0 false m.length 0 m.length)
  have hq1 : lp_slices_BinarySearchFunc___impl_Entry_impl_Entry_int__1 R L m key (.mk 69 .nil) 0 false m.length 0 m.length 0 = _ := round (by kernel_rfl) (q_slices_BinarySearchFunc___impl_Entry_impl_Entry_int__1 R L m key (.mk 69 .nil) 0 false m.length 0 m.length 0)
  rw [hq, hb, hq0.trans hq1.symm]
  exact congrArg (fun z : Option (Int × (Bool × Unit)) => z.bind fun r0 => some (r0.1, (r0.2.1, ()))) (bs_loop m key hm hk m.length 0 false 0 m.length 0 (by omega) (Nat.zero_le _) lo_le (Nat.le_refl _))
end Go.Rf.S
