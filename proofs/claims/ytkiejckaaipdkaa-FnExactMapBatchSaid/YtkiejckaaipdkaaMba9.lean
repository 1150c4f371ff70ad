import Derived.Test.YtkiejckaaipdkaaMba8
set_option linter.unusedVariables false
set_option linter.unusedSimpArgs false
namespace Go.Rf.S
set_option maxRecDepth 100000
set_option linter.unusedVariables false
set_option linter.unusedSimpArgs false

/-! an operation -/
structure OpM (o : D_Op) : Prop where
  k : 1 ≤ o.1 ∧ o.1 ≤ 6
  key : 1 ≤ o.2.1 ∧ o.2.1 ≤ 9999
  v : 0 ≤ o.2.2.1 ∧ o.2.2.1 ≤ 999999
  sc : o.1 = 6 → o.2.2.1 ≤ 4
theorem opM {o : D_Op} (h : opOK o = true) : OpM o := by
  unfold opOK at h
  rw [Bool.and_eq_true, Bool.and_eq_true] at h
  obtain ⟨h1, h2, h3⟩ := h
  by_cases hb : o.1 = 1 ∨ o.1 = 3
  · rw [show (decide (o.1 = 1) || decide (o.1 = 3)) = true by simpa using hb] at h3
    have h3 : o.2.2.1 = 0 := by simpa using h3
    exact ⟨inB_bounds h1, inB_bounds h2, by omega, fun _ => by omega⟩
  · rw [show (decide (o.1 = 1) || decide (o.1 = 3)) = false by simpa using hb] at h3
    simp only [cond_false] at h3
    by_cases h6 : o.1 = 6
    · rw [decide_eq_true h6] at h3
      have := inB_bounds (show inB o.2.2.1 1 4 = true from h3)
      exact ⟨inB_bounds h1, inB_bounds h2, by omega, fun _ => by omega⟩
    · rw [decide_eq_false h6] at h3
      exact ⟨inB_bounds h1, inB_bounds h2, inB_bounds h3, fun h => absurd h h6⟩
def bitI (b : Bool) : Int := cond b 1 0
theorem p_spec_l01Bit (b : Bool) : c_spec_l01Bit R b = some (bitI b, ()) := by
  have hq : c_spec_l01Bit R b = _ := call (q_spec_l01Bit R L b)
  rw [hq]; cases b <;> rfl
def valM (m : List D_Entry) (key : Int) : Int := cond (fnd key m) (m.getD (lo key m) E0).2.1 0
abbrev D_Do : Type := List D_Entry × (List Int × (Int × Unit))
def dropM (m : List D_Entry) (key : Int) : List D_Entry := cond (fnd key m) (m.take (lo key m) ++ m.drop (lo key m + 1)) m
def doM (m : List D_Entry) (o : D_Op) : D_Do :=
  cond (decide (o.1 = 1)) (m, ([bitI (fnd o.2.1 m), valM m o.2.1], (0, ())))
  (cond (decide (o.1 = 3)) (dropM m o.2.1, ([bitI (fnd o.2.1 m)], (0, ())))
  (cond (decide (o.1 = 4)) (m, ([], (cond (fnd o.2.1 m && decide (valM m o.2.1 = o.2.2.1)) 0 14, ())))
  (cond (decide (o.1 = 6)) (m, (scanF (m.drop (lo o.2.1 m)) o.2.2.1.toNat, (0, ())))
  (cond (fullM m o.2.1) (m, ([], (7, ())))
  (cond (decide (o.1 = 2)) (putM m o.2.1 o.2.2.1, ([], (0, ())))
  (cond (decide (999999 < valM m o.2.1 + o.2.2.1)) (m, ([], (4, ()))) (putM m o.2.1 (valM m o.2.1 + o.2.2.1), ([valM m o.2.1 + o.2.2.1], (0, ())))))))))
theorem valM_b {m : List D_Entry} {key : Int} (hm : MI m) : 0 ≤ valM m key ∧ valM m key ≤ 999999 := by
  unfold valM
  cases hf : fnd key m with
  | false => simp
  | true =>
    obtain ⟨h1, _⟩ := fnd_t hf
    exact hm.vals _ (getD_mem h1)
theorem p_spec_l10Do (m : List D_Entry) (o : D_Op) (hm : MI m) (ho : OpM o) : c_spec_l10Do R m o = some (doM m o) := by
  have hlen := hm.len
  have hll := lo_le (key := o.2.1) (m := m)
  have hv := valM_b (key := o.2.1) hm
  have hov := ho.v
  have hq : c_spec_l10Do R m o = _ := call (q_spec_l10Do R L m o)
  have hsc : o.1 = 6 → ∀ v7 v8, lp_spec_l10Do_0 R L m o o ([] : List D_Entry) ([] : List Int) (0 : Int) v7 v8 ([] : List Int) (0 : Int) o.1 = some (m, (scanF (m.drop (lo o.2.1 m)) o.2.2.1.toNat, (0, ()))) := fun h6 v7 v8 => by
    have h4 := ho.sc h6
    have := scan_spec m o o.2.2.1.toNat (by omega) (by omega) hm o [] [] 0 v7 v8 o.1 m.length 0 [] o.2.2.1.toNat (by omega) (by omega) (by simp) (fun _ => rfl)
    rw [show max 0 (lo o.2.1 m) = lo o.2.1 m by omega, List.nil_append] at this
    exact this
  rw [hq, p_spec_l10Find m _ hm]
  simp only [Option.bind_some, p_spec_l01Bit, eqI_iff, p_spec_l10Put m _ _ hm]
  unfold atI
  cases hf : fnd o.2.1 m with
  | true =>
    obtain ⟨h1, h2⟩ := fnd_t hf
    have hv' : valM m o.2.1 = (m.getD (lo o.2.1 m) (0, (0, ()))).2.1 := by unfold valM; rw [hf]; rfl
    simp only [cond_true]
    rw [decide_eq_true (p := (0 : Int) ≤ (lo o.2.1 m : Int)) (by omega), decide_eq_false (p := (lo o.2.1 m : Int) < 0) (by omega)]
    simp only [cond_true, cond_false, nn, tn]
    rw [blt_t h1, ble_t hll, ble_t (Nat.le_refl m.length), wrap_succ (by omega)]
    simp only [cond_true, nn, tn]
    rw [ble_t (show lo o.2.1 m + 1 ≤ m.length by omega), lenOK_t (by simp; omega), lenOK_t (by simp; omega), ← hv', wrap_id (n := valM m o.2.1 + o.2.2.1) (by omega) (by omega)]
    simp only [cond_true]
    unfold doM dropM fullM
    rw [hf]
    by_cases k1 : o.1 = 1
    · rw [decide_eq_true k1]; rfl
    rw [decide_eq_false k1]
    by_cases k3 : o.1 = 3
    · rw [decide_eq_true k3]; simp [bitI]
    rw [decide_eq_false k3]
    by_cases k4 : o.1 = 4
    · rw [decide_eq_true k4]
      simp only [cond_true, cond_false]
      cases decide (valM m o.2.1 = o.2.2.1) <;> rfl
    rw [decide_eq_false k4]
    by_cases k6 : o.1 = 6
    · rw [decide_eq_true k6]; exact hsc k6 _ _
    rw [decide_eq_false k6]
    simp only [cond_false, Bool.not_true, Bool.false_and]
    cases decide (o.1 = 2) <;> cases decide ((999999 : Int) < valM m o.2.1 + o.2.2.1) <;> rfl
  | false =>
    have hv' : valM m o.2.1 = 0 := by unfold valM; rw [hf]; rfl
    simp only [cond_false]
    rw [show decide ((0 : Int) ≤ -1) = false from rfl, show decide ((-1 : Int) < 0) = true from rfl, wrap_id (n := 0 + o.2.2.1) (by omega) (by omega)]
    simp only [cond_true, cond_false]
    unfold doM dropM fullM
    rw [hf, hv']
    by_cases k1 : o.1 = 1
    · rw [decide_eq_true k1]; rfl
    rw [decide_eq_false k1]
    by_cases k3 : o.1 = 3
    · rw [decide_eq_true k3]; rfl
    rw [decide_eq_false k3]
    by_cases k4 : o.1 = 4
    · rw [decide_eq_true k4]; rfl
    rw [decide_eq_false k4]
    by_cases k6 : o.1 = 6
    · rw [decide_eq_true k6]; exact hsc k6 _ _
    rw [decide_eq_false k6]
    simp only [cond_false, Bool.not_false, Bool.true_and]
    rw [show decide ((m.length : Int) = 11) = decide (m.length = 11) from decide_eq_decide.2 (by omega)]
    cases decide (m.length = 11) <;> cases decide (o.1 = 2) <;> cases decide ((999999 : Int) < 0 + o.2.2.1) <;> rfl
theorem p_impl_do2 (m : List D_Entry) (o : D_Op) (hm : MI m) (ho : OpM o) (hk : o.1 = 2 ∨ o.1 = 5) : c_impl_do2 R m o (valM m o.2.1) = some (doM m o) := by
  have hv := valM_b (key := o.2.1) hm
  have hov := ho.v
  have hq : c_impl_do2 R m o (valM m o.2.1) = _ := call (q_impl_do2 R L m o (valM m o.2.1))
  rw [hq, p_impl_put m _ _ hm ho.key, p_impl_put m _ _ hm ho.key, wrap_id (n := o.2.2.1 + valM m o.2.1) (by omega) (by omega), Int.add_comm o.2.2.1]
  simp only [Option.bind_some, p_impl_isValue, eqI_iff]
  unfold doM
  rcases hk with hk | hk
  · rw [decide_eq_false (p := o.1 = 1) (by omega), decide_eq_false (p := o.1 = 3) (by omega), decide_eq_false (p := o.1 = 4) (by omega), decide_eq_false (p := o.1 = 6) (by omega), decide_eq_true (p := o.1 = 2) hk, decide_eq_false (p := o.1 = 5) (by omega)]
    simp only [cond_true, cond_false]
    cases fullM m o.2.1 with
    | true => rfl
    | false =>
      simp only [cond_false, Bool.not_true]
      rw [show inB o.2.2.1 0 999999 = true by unfold inB; rw [decide_eq_true (by omega), decide_eq_true (by omega)]; rfl]; rfl
  · rw [decide_eq_false (p := o.1 = 1) (by omega), decide_eq_false (p := o.1 = 3) (by omega), decide_eq_false (p := o.1 = 4) (by omega), decide_eq_false (p := o.1 = 6) (by omega), decide_eq_false (p := o.1 = 2) (by omega), decide_eq_true (p := o.1 = 5) hk]
    simp only [cond_true, cond_false]
    cases fullM m o.2.1 with
    | true => rfl
    | false =>
      simp only [cond_false, Bool.not_true]
      by_cases h : 999999 < valM m o.2.1 + o.2.2.1
      · rw [decide_eq_true h, show inB (valM m o.2.1 + o.2.2.1) 0 999999 = false by unfold inB; rw [decide_eq_false (p := valM m o.2.1 + o.2.2.1 ≤ 999999) (by omega), Bool.and_false]]; rfl
      · rw [decide_eq_false h, show inB (valM m o.2.1 + o.2.2.1) 0 999999 = true by unfold inB; rw [decide_eq_true (by omega), decide_eq_true (by omega)]; rfl]; rfl
theorem p_impl_do (m : List D_Entry) (o : D_Op) (hm : MI m) (ho : OpM o) : c_impl_do R m o = some (doM m o) := by
  have hlen := hm.len
  have hll := lo_le (key := o.2.1) (m := m)
  have hov := ho.v
  have hq : c_impl_do R m o = _ := call (q_impl_do R L m o)
  have hk := ho.k
  have hsc : o.1 = 6 → c_impl_scan R m o.2.1 o.2.2.1 = some (scanF (m.drop (lo o.2.1 m)) o.2.2.1.toNat, ()) := fun h6 => by
    have h4 := ho.sc h6
    have := p_impl_scan m o.2.1 o.2.2.1.toNat hm ho.key (by omega)
    rwa [Int.toNat_of_nonneg (by omega)] at this
  have hd2 : o.1 ≠ 1 → o.1 ≠ 3 → o.1 ≠ 4 → o.1 ≠ 6 → c_impl_do2 R m o (valM m o.2.1) = some (doM m o) := fun h1 h3 h4 h6 => p_impl_do2 m o hm ho (by omega)
  rw [hq, p_impl_find m _ hm ho.key]
  simp only [Option.bind_some, eqI_iff]
  cases hf : fnd o.2.1 m with
  | true =>
    obtain ⟨h1, h2⟩ := fnd_t hf
    have hv' : valM m o.2.1 = (m.getD (lo o.2.1 m) (0, (0, ()))).2.1 := by unfold valM; rw [hf]; rfl
    simp only [cond_true, nn, tn, blt_t h1, ← hv', Bool.not_true, cond_false]
    by_cases k1 : o.1 = 1
    · unfold doM; rw [hf, decide_eq_true k1]; rfl
    by_cases k3 : o.1 = 3
    · unfold doM dropM
      rw [hf, decide_eq_false k1, decide_eq_true k3]
      simp only [cond_true, cond_false]
      rw [p_clone m (by omega)]
      simp only [Option.bind_some]
      rw [wrap_succ (by omega), p_delete m _ h1]; rfl
    by_cases k4 : o.1 = 4
    · unfold doM
      rw [hf, decide_eq_false k1, decide_eq_false k3, decide_eq_true k4]
      simp only [cond_true, cond_false]
      cases decide (valM m o.2.1 = o.2.2.1) <;> rfl
    by_cases k6 : o.1 = 6
    · unfold doM
      rw [hf, decide_eq_false k1, decide_eq_false k3, decide_eq_false k4, decide_eq_true k6]
      simp only [cond_true, cond_false]
      rw [hsc k6]; rfl
    rw [hd2 k1 k3 k4 k6, decide_eq_false k1, decide_eq_false k3, decide_eq_false k4, decide_eq_false k6]; rfl
  | false =>
    have hv' : valM m o.2.1 = 0 := by unfold valM; rw [hf]; rfl
    simp only [cond_true, cond_false, Bool.not_false]
    by_cases k1 : o.1 = 1
    · unfold doM; rw [hf, decide_eq_true k1, hv']; rfl
    by_cases k3 : o.1 = 3
    · unfold doM dropM
      rw [hf, decide_eq_false k1, decide_eq_true k3]; rfl
    by_cases k4 : o.1 = 4
    · unfold doM
      rw [hf, decide_eq_false k1, decide_eq_false k3, decide_eq_true k4]; rfl
    by_cases k6 : o.1 = 6
    · unfold doM
      rw [decide_eq_false k1, decide_eq_false k3, decide_eq_false k4, decide_eq_true k6]
      simp only [cond_true, cond_false]
      rw [hsc k6]; rfl
    rw [← hv', hd2 k1 k3 k4 k6, decide_eq_false k1, decide_eq_false k3, decide_eq_false k4, decide_eq_false k6]; rfl
end Go.Rf.S
