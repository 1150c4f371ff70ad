import Derived.Test.YtkiejckaaipdkaaDoorSli10
set_option linter.unusedVariables false
set_option linter.unusedSimpArgs false
namespace Go.Rf.S
set_option maxRecDepth 100000
set_option linter.unusedVariables false
set_option linter.unusedSimpArgs false

abbrev D_SL : Type := List (List UInt8) × (Int × Unit)
def storeL (x : D_Store) : D_SL := cond (storeOK x) (linesS x, (0, ())) ([], (1, ()))
theorem p_spec_StoreLines (x : D_Store) : c_spec_StoreLines R x = some (storeL x) := by
  have hq : c_spec_StoreLines R x = _ := call (q_spec_StoreLines R L x)
  rw [hq, p_spec_StoreOK]
  simp only [Option.bind_some]
  unfold storeL
  cases h : storeOK x with
  | false => rfl
  | true => rw [p_spec_l15Store x (regB (storeOK_reg h))]; rfl
theorem p_impl_StoreLines (x : D_Store) : c_impl_StoreLines R x = some (storeL x) := by
  have hq : c_impl_StoreLines R x = _ := call (q_impl_StoreLines R L x)
  rw [hq, p_impl_StoreOK]
  simp only [Option.bind_some]
  unfold storeL
  cases h : storeOK x with
  | false => rfl
  | true => rw [p_impl_lines x (regB (storeOK_reg h))]; rfl
theorem storeL_ok (x : D_Store) : (storeL x).1.length ≤ 3 ∧ cnt (.sl .str) (storeL x).1 ≤ 1000 := by
  unfold storeL
  cases h : storeOK x with
  | false => exact ⟨by simp, show 0 + 0 ≤ 1000 by decide⟩
  | true =>
    have hb := regB (storeOK_reg h)
    have he := hb.e
    have hs := hb.s
    have hc := hb.c
    have l1 := digI_len (v := x.2.1.1) (by omega)
    have l2 := digI_len (v := x.2.1.2.1) (by omega)
    have l3 := digI_len (v := x.2.1.2.2.1 - x.2.1.1) (by omega)
    have y1 := hexO_len (x.2.1.2.2.2.2.2.2.1.take 4)
    have y2 := hexO_len (x.2.1.2.2.2.2.2.1.take 4)
    rw [List.length_take] at y1 y2
    have ls : (stW x).length ≤ 4 := by unfold stW; cases x.2.2.2.2.1 <;> cases x.2.2.2.1 <;> decide
    refine ⟨by simp [linesS], ?_⟩
    show 3 + ((lineA x).length + (([114, 111, 111, 116, 32] ++ hexO (x.2.1.2.2.2.2.2.2.1.take 4)).length + (([116, 105, 112, 32] ++ hexO (x.2.1.2.2.2.2.2.1.take 4)).length + 0))) ≤ 1000
    unfold lineA
    simp only [List.length_append, List.length_cons, List.length_nil]
    omega
theorem nmkS : ∀ (x : List (List UInt8)), (x.map (nmk true .str)).sum = x.length
  | [] => rfl
  | e :: xs => by
    have := nmkS xs
    show 1 + (xs.map (nmk true .str)).sum = xs.length + 1
    omega
theorem nmkIo : ∀ (x : List D_Io), (x.map (nmk true T_Io)).sum = 2 * x.length
  | [] => rfl
  | e :: xs => by
    have := nmkIo xs
    show (1 + (1 + 0)) + (xs.map (nmk true T_Io)).sum = 2 * (xs.length + 1)
    omega
theorem m_Store (x : D_Store) (h : cnt T_Store x ≤ 1048576) : ∃ (k : Nat) (y : D_Store), c_laws_markStore R x (1 : Int) = some ((k : Int), (y, ())) := by
  have l := lens_cnt T_Store x
  have n1 := nmkS x.2.2.1.1
  have n2 := nmkIo x.2.2.1.2.1
  have hd : cnt T_Store x = cnt .str x.1 + (cnt T_Register x.2.1 + (((x.2.2.1.1.length + (x.2.2.1.1.map (cnt .str)).sum) + ((x.2.2.1.2.1.length + (x.2.2.1.2.1.map (cnt T_Io)).sum) + 0)) + (0 + (0 + 0)))) := rfl
  have hn : nmk false T_Store x = 0 + ((nmk false T_Register x.2.1) + (((x.2.2.1.1.map (nmk true .str)).sum + ((x.2.2.1.2.1.map (nmk true T_Io)).sum + 0)) + (0 + (0 + 0)))) := rfl
  have hr : nmk false T_Register x.2.1 = 0 := rfl
  exact ⟨_, _, mark_Store x 1 (by omega) (by omega)⟩
theorem mh_S (x : List (List UInt8)) (h : cnt (.sl .str) x ≤ 1000) : ∃ (k' : Nat) (x' : List (List UInt8)), c_laws_markStringS R x (1 : Int) = some ((k' : Int), (x', ())) ∧ c_laws_heldStringS R x' (1 : Int) = some ((k' : Int), ()) := by
  have n : nmk false (.sl .str) x = x.length := nmkS x
  have l := lens_cnt (.sl .str) x
  have c : cnt (.sl .str) x = x.length + (x.map (cnt .str)).sum := rfl
  have s := mk_snd mt false (.sl .str) x 1
  exact ⟨_, _, mark_StringS x 1 (by omega) (by omega), held_StringS (mk_ mt false (.sl .str) x 1).1 1 _ (Nat.le_trans (Nat.le_of_eq (lens_mk mt false (.sl .str) x 1)) (by omega)) (by omega) (hd_mk mt false (.sl .str) x 1)⟩

/-- The law. -/
theorem law_StoreLines (x : D_Store) (hx : Fine T_Store x) : c_laws_FnExactStoreLines R x = some (true, ()) := by
  have hq : c_laws_FnExactStoreLines R x = _ := call (q_laws_FnExactStoreLines R L x)
  rw [hq, sz_Store x 1048576 (by omega) (by omega) hx]
  simp only [Option.bind_some]
  by_cases h : cnt T_Store x ≤ 1048576
  · rw [szF_t (by omega), decide_eq_false (by omega)]
    simp only [cond_false]
    obtain ⟨o1, o2⟩ := storeL_ok x
    have i1 := p_impl_StoreLines x
    have i2 := p_spec_StoreLines x
    generalize storeL x = r at o1 o2 i1 i2
    obtain ⟨k, y, m1⟩ := m_Store x h
    obtain ⟨k2, r', m2, q2⟩ := mh_S r.1 o2
    rw [to_Store x h]
    simp only [Option.bind_some]
    rw [i1, i2]
    simp only [Option.bind_some]
    rw [eq_StringS _ (Nat.le_trans o2 (by decide)), eq_Store x h]
    simp only [Option.bind_some, Bool.not_true, cond_false, eqI_iff, decide_true]
    rw [m1]
    simp only [Option.bind_some]
    rw [decide_eq_false (p := (k : Int) < 0) (by omega)]
    simp only [cond_false]
    rw [m2]
    simp only [Option.bind_some]
    rw [q2]
    simp only [Option.bind_some]
    rw [decide_eq_false (p := (k2 : Int) < 0) (by omega)]
    simp only [cond_false, decide_true, Bool.not_true]
  · rw [szF_f (by omega)]; rfl
end Go.Rf.S
