import Derived.Test.YtkiejckaaipdkaaMba10
set_option linter.unusedVariables false
set_option linter.unusedSimpArgs false
namespace Go.Rf.S
set_option maxRecDepth 100000
set_option linter.unusedVariables false
set_option linter.unusedSimpArgs false

theorem cntI : ∀ (x : List Int), (x.map (cnt (.int .i64))).sum = 0
  | [] => rfl
  | _ :: xs => (Nat.zero_add _).trans (cntI xs)
theorem cntE : ∀ (x : List D_Entry), (x.map (cnt T_Entry)).sum = 0
  | [] => rfl
  | _ :: xs => (Nat.zero_add _).trans (cntE xs)
theorem cnt_E (x : List D_Entry) : cnt (.sl T_Entry) x = x.length := by
  show x.length + (x.map (cnt T_Entry)).sum = _
  rw [cntE]; rfl
theorem cnt_R (r : D_Result) : cnt T_Result r = r.2.1.length := by
  show 0 + (r.2.1.length + (r.2.1.map (cnt (.int .i64))).sum + 0) = _
  rw [cntI]; omega
theorem cntR : ∀ (x : List D_Result), (∀ r ∈ x, r.2.1.length ≤ 32) → (x.map (cnt T_Result)).sum ≤ 32 * x.length
  | [], _ => Nat.le_refl _
  | r :: xs, h => by
    have h1 := h r (by simp)
    have h2 := cntR xs fun r hr => h r (by simp [hr])
    show cnt T_Result r + (xs.map (cnt T_Result)).sum ≤ 32 * (xs.length + 1)
    rw [cnt_R]; omega
theorem nmkE : ∀ (x : List D_Entry), (x.map (nmk true T_Entry)).sum = 2 * x.length
  | [] => rfl
  | e :: xs => by
    have := nmkE xs
    show (1 + (1 + 0)) + (xs.map (nmk true T_Entry)).sum = 2 * (xs.length + 1)
    omega
theorem nmkO : ∀ (x : List D_Op), (x.map (nmk true T_Op)).sum = 3 * x.length
  | [] => rfl
  | e :: xs => by
    have := nmkO xs
    show (1 + (1 + (1 + 0))) + (xs.map (nmk true T_Op)).sum = 3 * (xs.length + 1)
    omega
theorem nmkI : ∀ (x : List Int), (x.map (nmk true (.int .i64))).sum = x.length
  | [] => rfl
  | e :: xs => by
    have := nmkI xs
    show 1 + (xs.map (nmk true (.int .i64))).sum = xs.length + 1
    omega
theorem nmkT : ∀ (x : List D_Txn), (x.map (nmk true T_Txn)).sum ≤ 3 * (x.map (cnt T_Txn)).sum
  | [] => Nat.le_refl _
  | t :: xs => by
    have h1 := nmkT xs
    have h2 := nmkO t.1
    show ((t.1.map (nmk true T_Op)).sum + 0) + (xs.map (nmk true T_Txn)).sum ≤ 3 * ((t.1.length + (t.1.map (cnt T_Op)).sum + 0) + (xs.map (cnt T_Txn)).sum)
    omega
theorem nmkR : ∀ (x : List D_Result), (∀ r ∈ x, r.2.1.length ≤ 32) → (x.map (nmk true T_Result)).sum ≤ 33 * x.length
  | [], _ => Nat.le_refl _
  | r :: xs, h => by
    have h0 := h r (by simp)
    have h1 := nmkR xs fun r hr => h r (by simp [hr])
    have h2 := nmkI r.2.1
    show (1 + ((r.2.1.map (nmk true (.int .i64))).sum + 0)) + (xs.map (nmk true T_Result)).sum ≤ 33 * (xs.length + 1)
    omega
theorem txn_len {l : List D_Txn} (h : cnt (.sl T_Txn) l ≤ 1048576) : ∀ t ∈ l, t.1.length ≤ 4611686018427387904 := fun t ht => by
  have h1 : cnt T_Txn t ≤ cnt (.sl T_Txn) l := by
    have := sum_mem (f := cnt T_Txn) ht
    show _ ≤ l.length + (l.map (cnt T_Txn)).sum
    omega
  have h2 : cnt T_Txn t = (t.1.length + (t.1.map (cnt T_Op)).sum) + 0 := rfl
  omega

theorem mh_E (x : List D_Entry) (k : Nat) (hx : x.length ≤ 1048576) (hk : k ≤ 100000000) : ∃ (k' : Nat) (x' : List D_Entry), c_laws_markEntryS R x k = some ((k' : Int), (x', ())) ∧ c_laws_heldEntryS R x' k = some ((k' : Int), ()) ∧ k' = k + 2 * x.length := by
  have n1 : nmk false (.sl T_Entry) x = 2 * x.length := nmkE x
  have l1 := lens_cnt (.sl T_Entry) x
  have c1 := cnt_E x
  have s1 := mk_snd mt false (.sl T_Entry) x k
  exact ⟨_, _, mark_EntryS x k (by omega) (by omega), held_EntryS (mk_ mt false (.sl T_Entry) x k).1 k _ (Nat.le_trans (Nat.le_of_eq (lens_mk mt false (.sl T_Entry) x k)) (by omega)) (by omega) (hd_mk mt false (.sl T_Entry) x k), by omega⟩
theorem m_T (y : List D_Txn) (k : Nat) (hy : cnt (.sl T_Txn) y ≤ 1048576) (hk : k ≤ 100000000) : ∃ (k' : Nat) (y' : List D_Txn), c_laws_markTxnS R y k = some ((k' : Int), (y', ())) := by
  have n2 : nmk false (.sl T_Txn) y ≤ 3 * cnt (.sl T_Txn) y := by
    have := nmkT y
    have h1 : cnt (.sl T_Txn) y = y.length + (y.map (cnt T_Txn)).sum := rfl
    show (y.map (nmk true T_Txn)).sum ≤ _
    omega
  have l2 := lens_cnt (.sl T_Txn) y
  exact ⟨_, _, mark_TxnS y k (by omega) (by omega)⟩
theorem mh_R (x : List D_Result) (k : Nat) (hx : x.length ≤ 1000) (ho : ∀ r ∈ x, r.2.1.length ≤ 32) (hk : k ≤ 100000000) : ∃ (k' : Nat) (x' : List D_Result), c_laws_markResultS R x k = some ((k' : Int), (x', ())) ∧ c_laws_heldResultS R x' k = some ((k' : Int), ()) := by
  have n4 : nmk false (.sl T_Result) x ≤ 33 * x.length := nmkR x ho
  have l4 := lens_cnt (.sl T_Result) x
  have h0 := cntR x ho
  have h1 : cnt (.sl T_Result) x = x.length + (x.map (cnt T_Result)).sum := rfl
  have s1 := mk_snd mt false (.sl T_Result) x k
  exact ⟨_, _, mark_ResultS x k (by omega) (by omega), held_ResultS (mk_ mt false (.sl T_Result) x k).1 k _ (Nat.le_trans (Nat.le_of_eq (lens_mk mt false (.sl T_Result) x k)) (by omega)) (by omega) (hd_mk mt false (.sl T_Result) x k)⟩

/-- The law. -/
theorem law_MapBatch (x : List D_Entry) (y : List D_Txn) (hx : Fine (.sl T_Entry) x) (hy : Fine (.sl T_Txn) y) : c_laws_FnExactMapBatch R x y = some (true, ()) := by
  have hq : c_laws_FnExactMapBatch R x y = _ := call (q_laws_FnExactMapBatch R L x y)
  have hsz : c_laws_szEntryS R x 1048576 = some (szF (cnt (.sl T_Entry) x) 1048576, ()) := sz_EntryS x 1048576 (by omega) (by omega) hx
  rw [hq, hsz]
  simp only [Option.bind_some]
  by_cases h : cnt (.sl T_Entry) x ≤ 1048576
  · rw [szF_t (by omega), decide_eq_false (by omega)]
    simp only [cond_false]
    rw [sz_TxnS y _ (by omega) (by omega) hy]
    simp only [Option.bind_some]
    by_cases h2 : (cnt (.sl T_Txn) y : Int) ≤ 1048576 - (cnt (.sl T_Entry) x : Int)
    · rw [szF_t h2, decide_eq_false (by omega)]
      have h2' : cnt (.sl T_Txn) y ≤ 1048576 := by omega
      simp only [cond_false]
      have hxl : x.length ≤ 1048576 := by rw [cnt_E] at h; exact h
      have hty := txn_len h2'
      have ok := mapBatch_ok x y
      have e1 : cnt (.sl T_Entry) (mapBatch x y).1 ≤ 1048576 := by rw [cnt_E]; have := ok.len; omega
      have e2 : cnt (.sl T_Result) (mapBatch x y).2.1 ≤ 1048576 := by
        have := cntR _ ok.out
        have h1 : cnt (.sl T_Result) (mapBatch x y).2.1 = (mapBatch x y).2.1.length + ((mapBatch x y).2.1.map (cnt T_Result)).sum := rfl
        have := ok.rlen
        omega
      have i1 := p_impl_MapBatch x y (by omega) hty
      have i2 := p_spec_MapBatch x y hty
      generalize mapBatch x y = r at ok e1 e2 i1 i2
      rw [to_EntryS x h, to_TxnS y h2']
      simp only [Option.bind_some]
      rw [i1, i2]
      simp only [Option.bind_some]
      rw [eq_EntryS _ e1, eq_ResultS _ e2, eq_EntryS x h, eq_TxnS y h2']
      simp only [Option.bind_some, Bool.not_true, cond_false, eqI_iff, decide_true]
      obtain ⟨k1, x', m1, _, v1⟩ := mh_E x 1 hxl (by omega)
      have m1 : c_laws_markEntryS R x (1 : Int) = _ := m1
      obtain ⟨k2, y', m2⟩ := m_T y k1 h2' (by omega)
      have g1 := ok.len
      have g2 := ok.rlen
      obtain ⟨k3, r', m3, q3, v3⟩ := mh_E r.1 1 (by omega) (by omega)
      have m3 : c_laws_markEntryS R r.1 (1 : Int) = _ := m3
      have q3 : c_laws_heldEntryS R r' (1 : Int) = _ := q3
      obtain ⟨k4, s', m4, q4⟩ := mh_R r.2.1 k3 (by omega) ok.out (by omega)
      rw [m1]
      simp only [Option.bind_some]
      rw [m2]
      simp only [Option.bind_some]
      rw [decide_eq_false (p := (k2 : Int) < 0) (by omega)]
      simp only [cond_false]
      rw [m3]
      simp only [Option.bind_some]
      rw [m4]
      simp only [Option.bind_some]
      rw [q3]
      simp only [Option.bind_some]
      rw [decide_eq_false (p := (k3 : Int) < 0) (by omega)]
      simp only [cond_false]
      rw [q4]
      simp only [Option.bind_some]
      rw [decide_eq_false (p := (k4 : Int) < 0) (by omega)]
      simp only [cond_false, decide_true, Bool.not_true]
    · rw [szF_f (by omega)]; rfl
  · rw [szF_f (by omega)]; rfl
end Go.Rf.S
