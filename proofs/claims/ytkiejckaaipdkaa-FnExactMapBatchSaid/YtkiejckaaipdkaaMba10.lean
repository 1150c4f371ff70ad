import Derived.Test.YtkiejckaaipdkaaMba9
set_option linter.unusedVariables false
set_option linter.unusedSimpArgs false
namespace Go.Rf.S
set_option maxRecDepth 100000
set_option linter.unusedVariables false
set_option linter.unusedSimpArgs false

/-! maps stay maps -/
theorem mem_take_lt {m : List D_Entry} {key : Int} {a : D_Entry} (h : a ∈ m.take (lo key m)) : a.1 < key := by
  obtain ⟨i, hi, e⟩ := List.getElem_of_mem h
  rw [List.length_take] at hi
  have := lo_lt (key := key) (m := m) (i := i) (by omega)
  rw [List.getElem_take] at e
  rw [List.getD_eq_getElem?_getD, List.getElem?_eq_getElem (by omega), Option.getD_some, e] at this
  exact this
theorem mem_drop_ge {m : List D_Entry} {key : Int} {a : D_Entry} (hs : m.Pairwise fun a b => a.1 < b.1) (h : a ∈ m.drop (cond (fnd key m) (lo key m + 1) (lo key m))) : key < a.1 := by
  obtain ⟨i, hi, e⟩ := List.getElem_of_mem h
  rw [List.length_drop] at hi
  rw [List.getElem_drop] at e
  have hl : (cond (fnd key m) (lo key m + 1) (lo key m)) + i < m.length := by omega
  have e2 : m.getD ((cond (fnd key m) (lo key m + 1) (lo key m)) + i) E0 = a := by
    rw [List.getD_eq_getElem?_getD, List.getElem?_eq_getElem hl, Option.getD_some, e]
  rw [← e2]
  cases hf : fnd key m with
  | true =>
    rw [hf] at hl
    exact lo_gt hs (by simp only [cond_true]; omega) hl
  | false =>
    rw [hf] at hl
    simp only [cond_false] at hl ⊢
    cases i with
    | zero =>
      rw [Nat.add_zero] at hl ⊢
      have h1 := lo_at (key := key) hl
      have h2 := fnd_f hf hl
      omega
    | succ i => exact lo_gt hs (by omega) hl
theorem putM_mi {m : List D_Entry} {key v : Int} (hm : MI m) (hk : 1 ≤ key ∧ key ≤ 9999) (hv : 0 ≤ v ∧ v ≤ 999999) (hf : fullM m key = false) : MI (putM m key v) := by
  have hmem : ∀ e ∈ putM m key v, e ∈ m ∨ e = (key, (v, ())) := fun e he => by
    unfold putM at he
    rcases List.mem_append.1 he with h | h
    · exact .inl (List.mem_of_mem_take h)
    · rcases List.mem_cons.1 h with h | h
      · exact .inr h
      · exact .inl (List.mem_of_mem_drop h)
  refine ⟨?_, fun e he => ?_, fun e he => ?_, ?_⟩
  · unfold putM
    refine List.pairwise_append.2 ⟨hm.srt.sublist (List.take_sublist _ _), List.pairwise_cons.2 ⟨fun b hb => mem_drop_ge hm.srt hb, hm.srt.sublist (List.drop_sublist _ _)⟩, fun a ha b hb => ?_⟩
    have h1 := mem_take_lt ha
    rcases List.mem_cons.1 hb with rfl | hb
    · exact h1
    · exact Int.lt_trans h1 (mem_drop_ge hm.srt hb)
  · rcases hmem e he with h | rfl
    · exact hm.keys e h
    · exact hk
  · rcases hmem e he with h | rfl
    · exact hm.vals e h
    · exact hv
  · have hlen := hm.len
    have hll := lo_le (key := key) (m := m)
    unfold putM
    unfold fullM at hf
    cases h : fnd key m with
    | true =>
      have := (fnd_t h).1
      simp only [cond_true, List.length_append, List.length_take, List.length_cons, List.length_drop]; omega
    | false =>
      rw [h] at hf
      have hf : m.length ≠ 11 := by simpa using hf
      simp only [cond_false, List.length_append, List.length_take, List.length_cons, List.length_drop]; omega
theorem dropM_mi {m : List D_Entry} {key : Int} (hm : MI m) : MI (dropM m key) := by
  unfold dropM
  cases h : fnd key m with
  | false => exact hm
  | true =>
    simp only [cond_true]
    have hsub : List.Sublist (m.take (lo key m) ++ m.drop (lo key m + 1)) m := by
      have h1 : List.Sublist (m.drop (lo key m + 1)) (m.drop (lo key m)) := by
        rw [show lo key m + 1 = 1 + lo key m by omega, ← List.drop_drop]
        rw [List.drop_drop, Nat.add_comm 1, ← List.drop_drop]
        exact List.drop_sublist _ _
      have := (List.Sublist.refl (m.take (lo key m))).append h1
      rwa [List.take_append_drop] at this
    exact ⟨hm.srt.sublist hsub, fun e he => hm.keys e (hsub.subset he), fun e he => hm.vals e (hsub.subset he), Nat.le_trans hsub.length_le hm.len⟩
theorem doM_mi {m : List D_Entry} {o : D_Op} (hm : MI m) (ho : OpM o) : MI (doM m o).1 := by
  have hv := valM_b (key := o.2.1) hm
  have hov := ho.v
  unfold doM
  cases decide (o.1 = 1) with
  | true => exact hm
  | false =>
    cases decide (o.1 = 3) with
    | true => exact dropM_mi hm
    | false =>
      cases decide (o.1 = 4) with
      | true => exact hm
      | false =>
        cases decide (o.1 = 6) with
        | true => exact hm
        | false =>
          cases hf : fullM m o.2.1 with
          | true => exact hm
          | false =>
            cases decide (o.1 = 2) with
            | true => exact putM_mi hm ho.key hov hf
            | false =>
              by_cases h : 999999 < valM m o.2.1 + o.2.2.1
              · rw [decide_eq_true h]; exact hm
              · rw [decide_eq_false h]; exact putM_mi hm ho.key (by omega) hf
theorem doM_out {m : List D_Entry} {o : D_Op} (ho : OpM o) : (doM m o).2.1.length ≤ 8 := by
  unfold doM
  cases decide (o.1 = 1) with
  | true => simp
  | false =>
    cases decide (o.1 = 3) with
    | true => simp
    | false =>
      cases decide (o.1 = 4) with
      | true => simp
      | false =>
        by_cases h : o.1 = 6
        · have := ho.sc h
          rw [decide_eq_true h]; simp only [cond_true, cond_false]; rw [scanF_len]; omega
        · rw [decide_eq_false h]
          cases fullM m o.2.1 with
          | true => simp
          | false =>
            cases decide (o.1 = 2) with
            | true => simp
            | false =>
              cases decide (999999 < valM m o.2.1 + o.2.2.1) <;> simp

/-! transactions -/
abbrev D_TR : Type := List D_Entry × (D_Result × Unit)
def txnGo (m0 : List D_Entry) : List D_Op → List D_Entry → List Int → D_TR
  | [], x, vs => (x, ((0, (vs, ())), ()))
  | o :: os, x, vs => cond (decide ((doM x o).2.2.1 = 0)) (txnGo m0 os (doM x o).1 (vs ++ (doM x o).2.1)) (m0, (((doM x o).2.2.1, ([], ())), ()))
def txnM (m : List D_Entry) (t : D_Txn) : D_TR := txnGo m t.1 m []
theorem txnGo_mi {m0 : List D_Entry} (h0 : MI m0) : ∀ {os : List D_Op} {x : List D_Entry} {vs : List Int}, MI x → (∀ o ∈ os, OpM o) → MI (txnGo m0 os x vs).1
  | [], x, vs, hx, _ => hx
  | o :: os, x, vs, hx, ho => by
    unfold txnGo
    cases decide ((doM x o).2.2.1 = 0) with
    | true => exact txnGo_mi h0 (doM_mi hx (ho o (by simp))) fun p hp => ho p (by simp [hp])
    | false => exact h0
theorem txnGo_out {m0 : List D_Entry} : ∀ {os : List D_Op} {x : List D_Entry} {vs : List Int}, (∀ o ∈ os, OpM o) → (txnGo m0 os x vs).2.1.2.1.length ≤ vs.length + 8 * os.length
  | [], x, vs, _ => by simp [txnGo]
  | o :: os, x, vs, ho => by
    unfold txnGo
    have h1 := doM_out (m := x) (ho o (by simp))
    cases decide ((doM x o).2.2.1 = 0) with
    | true =>
      have := txnGo_out (m0 := m0) (os := os) (x := (doM x o).1) (vs := vs ++ (doM x o).2.1) fun p hp => ho p (by simp [hp])
      simp only [cond_true, List.length_append, List.length_cons] at *; omega
    | false => simp
theorem txnS_loop (m0 : List D_Entry) (t : D_Txn) (hm0 : MI m0) (ht : t.1.length ≤ 4) (ho : ∀ o ∈ t.1, OpM o) (v1 : D_Txn) (v4 : List D_Entry) (v5 : D_Result) : ∀ (n i : Nat) (x : List D_Entry) (vs : List Int) (v9 : List D_Entry) (v10 : List Int) (v11 : Int),
    t.1.length - i = n → i ≤ t.1.length → MI x → vs.length ≤ 8 * i → lp_spec_l10Txn_1 R L m0 v1 t v4 v5 x (0, (vs, ())) i v9 v10 v11 = some (txnGo m0 (t.1.drop i) x vs)
  | 0, i, x, vs, v9, v10, v11, hn, hi, hx, hv => by
    have hq : lp_spec_l10Txn_1 R L m0 v1 t v4 v5 x (0, (vs, ())) i v9 v10 v11 = _ := round (by kernel_rfl) (q_spec_l10Txn_1 R L m0 v1 t v4 v5 x (0, (vs, ())) i v9 v10 v11)
    rw [hq, lt_f (by omega), List.drop_eq_nil_of_le (by omega)]; rfl
  | n + 1, i, x, vs, v9, v10, v11, hn, hi, hx, hv => by
    have hlt : i < t.1.length := by omega
    have hoi := ho _ (getD_mem (d := (0, (0, (0, ())))) hlt)
    have hout := doM_out (m := x) hoi
    have hq : lp_spec_l10Txn_1 R L m0 v1 t v4 v5 x (0, (vs, ())) i v9 v10 v11 = _ := round (by kernel_rfl) (q_spec_l10Txn_1 R L m0 v1 t v4 v5 x (0, (vs, ())) i v9 v10 v11)
    rw [hq, lt_t hlt, nn, tn, blt_t hlt, p_spec_l10Do x _ hx hoi, wrap_succ (by omega), drop_getD (d := (0, (0, (0, ())))) hlt]
    simp only [cond_true, Option.bind_some, eqI_iff]
    unfold txnGo
    cases decide ((doM x (t.1.getD i (0, (0, (0, ()))))).2.2.1 = 0) with
    | false => rfl
    | true =>
      rw [lenOK_t (by omega)]
      simp only [cond_true, Bool.not_true, cond_false]
      exact txnS_loop m0 t hm0 ht ho v1 v4 v5 n (i + 1) _ _ _ _ _ (by omega) (by omega) (doM_mi hx hoi) (by simp only [List.length_append]; omega)
theorem p_spec_l10Txn (m : List D_Entry) (t : D_Txn) (hm : MI m) (ht : t.1.length ≤ 4) (ho : ∀ o ∈ t.1, OpM o) : c_spec_l10Txn R m t = some (txnM m t) := by
  have hq : c_spec_l10Txn R m t = _ := call (q_spec_l10Txn R L m t)
  have hq0 : lp_spec_l10Txn_0 R L m t t [] (0, ([], ())) m (0, ([], ())) 0 = _ := round (by kernel_rfl) (q_spec_l10Txn_0 R L m t t [] (0, ([], ())) m (0, ([], ())) 0)
  have hq1 : lp_spec_l10Txn_1 R L m t t [] (0, ([], ())) m (0, ([], ())) 0 [] [] 0 = _ := round (by kernel_rfl) (q_spec_l10Txn_1 R L m t t [] (0, ([], ())) m (0, ([], ())) 0 [] [] 0)
  rw [hq, hq0.trans hq1.symm]
  exact txnS_loop m t hm ht ho t [] (0, ([], ())) _ 0 m [] [] [] 0 rfl (Nat.zero_le _) hm (by simp)
theorem txnI_loop (m0 : List D_Entry) (t : D_Txn) (hm0 : MI m0) (ht : t.1.length ≤ 4) (ho : ∀ o ∈ t.1, OpM o) (v1 v3 : D_Txn) (v4 : List D_Entry) (v5 : D_Result) : ∀ (n i : Nat) (x : List D_Entry) (vs : List Int) (v9 : D_Op) (v10 : List D_Entry) (v11 : List Int) (v12 : Int),
    t.1.length - i = n → i ≤ t.1.length → MI x → vs.length ≤ 8 * i → lp_impl_doTxn_1 R L m0 v1 v3 v4 v5 x (0, (vs, ())) v9 v10 v11 v12 t.1 t.1.length i = some (txnGo m0 (t.1.drop i) x vs)
  | 0, i, x, vs, v9, v10, v11, v12, hn, hi, hx, hv => by
    have hq : lp_impl_doTxn_1 R L m0 v1 v3 v4 v5 x (0, (vs, ())) v9 v10 v11 v12 t.1 t.1.length i = _ := round (by kernel_rfl) (q_impl_doTxn_1 R L m0 v1 v3 v4 v5 x (0, (vs, ())) v9 v10 v11 v12 t.1 t.1.length i)
    rw [hq, lt_f (by omega), List.drop_eq_nil_of_le (by omega)]; rfl
  | n + 1, i, x, vs, v9, v10, v11, v12, hn, hi, hx, hv => by
    have hlt : i < t.1.length := by omega
    have hoi := ho _ (getD_mem (d := (0, (0, (0, ())))) hlt)
    have hout := doM_out (m := x) hoi
    have hq : lp_impl_doTxn_1 R L m0 v1 v3 v4 v5 x (0, (vs, ())) v9 v10 v11 v12 t.1 t.1.length i = _ := round (by kernel_rfl) (q_impl_doTxn_1 R L m0 v1 v3 v4 v5 x (0, (vs, ())) v9 v10 v11 v12 t.1 t.1.length i)
    rw [hq, lt_t hlt, nn, tn, blt_t hlt, p_impl_do x _ hx hoi, wrap_succ (by omega), drop_getD (d := (0, (0, (0, ())))) hlt]
    simp only [cond_true, Option.bind_some, eqI_iff]
    unfold txnGo
    cases decide ((doM x (t.1.getD i (0, (0, (0, ()))))).2.2.1 = 0) with
    | false => rfl
    | true =>
      rw [lenOK_t (by omega)]
      simp only [cond_true, Bool.not_true, cond_false]
      exact txnI_loop m0 t hm0 ht ho v1 v3 v4 v5 n (i + 1) _ _ _ _ _ _ (by omega) (by omega) (doM_mi hx hoi) (by simp only [List.length_append]; omega)
theorem p_impl_doTxn (m : List D_Entry) (t : D_Txn) (hm : MI m) (ht : t.1.length ≤ 4) (ho : ∀ o ∈ t.1, OpM o) : c_impl_doTxn R m t = some (txnM m t) := by
  have hq : c_impl_doTxn R m t = _ := call (q_impl_doTxn R L m t)
  have hq0 : lp_impl_doTxn_0 R L m t t [] (0, ([], ())) m (0, ([], ())) t.1 t.1.length 0 = _ := round (by kernel_rfl) (q_impl_doTxn_0 R L m t t [] (0, ([], ())) m (0, ([], ())) t.1 t.1.length 0)
  have hq1 : lp_impl_doTxn_1 R L m t t [] (0, ([], ())) m (0, ([], ())) (0, (0, (0, ()))) [] [] 0 t.1 t.1.length 0 = _ := round (by kernel_rfl) (q_impl_doTxn_1 R L m t t [] (0, ([], ())) m (0, ([], ())) (0, (0, (0, ()))) [] [] 0 t.1 t.1.length 0)
  rw [hq, hq0.trans hq1.symm]
  exact txnI_loop m t hm ht ho t t [] (0, ([], ())) _ 0 m [] _ [] [] 0 rfl (Nat.zero_le _) hm (by simp)

/-! batches -/
abbrev D_BR : Type := List D_Entry × (List D_Result × Unit)
structure TxB (t : D_Txn) : Prop where
  len : t.1.length ≤ 4
  ops : ∀ o ∈ t.1, OpM o
theorem txB {t : D_Txn} (h : txnOK t = true) : TxB t := by
  unfold txnOK at h
  rw [Bool.and_eq_true] at h
  have := inB_bounds h.1
  exact ⟨by omega, fun o ho => opM (List.all_eq_true.1 h.2 o ho)⟩
def batchGo : List D_Txn → List D_Entry → List D_Result → D_BR
  | [], m, rs => (m, (rs, ()))
  | t :: ts, m, rs => batchGo ts (txnM m t).1 (rs ++ [(txnM m t).2.1])
structure BO (r : D_BR) (n : Nat) : Prop where
  mi : MI r.1
  len : r.2.1.length ≤ n
  out : ∀ x ∈ r.2.1, x.2.1.length ≤ 32
theorem txnM_mi {m : List D_Entry} {t : D_Txn} (hm : MI m) (ht : TxB t) : MI (txnM m t).1 := txnGo_mi hm hm ht.ops
theorem txnM_out {m : List D_Entry} {t : D_Txn} (ht : TxB t) : (txnM m t).2.1.2.1.length ≤ 32 := by
  have := txnGo_out (m0 := m) (x := m) (vs := []) ht.ops
  have := ht.len
  unfold txnM
  simp only [List.length_nil] at *; omega
theorem batchGo_ok : ∀ {ts : List D_Txn} {m : List D_Entry} {rs : List D_Result}, (∀ t ∈ ts, TxB t) → MI m → (∀ x ∈ rs, x.2.1.length ≤ 32) → BO (batchGo ts m rs) (rs.length + ts.length)
  | [], m, rs, _, hm, hr => ⟨hm, by simp [batchGo], hr⟩
  | t :: ts, m, rs, ht, hm, hr => by
    have := batchGo_ok (ts := ts) (m := (txnM m t).1) (rs := rs ++ [(txnM m t).2.1]) (fun x hx => ht x (by simp [hx])) (txnM_mi hm (ht t (by simp))) (fun x hx => by
      rcases List.mem_append.1 hx with hx | hx
      · exact hr x hx
      · have := txnM_out (m := m) (ht t (by simp))
        simp only [List.mem_cons, List.not_mem_nil, or_false] at hx
        rw [hx]; exact this)
    refine ⟨this.mi, ?_, this.out⟩
    have h2 := this.len
    simp only [List.length_append, List.length_cons, List.length_nil] at h2 ⊢
    unfold batchGo; omega
theorem batS_loop (l : List D_Txn) (hl : l.length ≤ 2) (ht : ∀ t ∈ l, TxB t) (v4 : List D_Entry) (v5 : List D_Result) : ∀ (n i : Nat) (m : List D_Entry) (rs : List D_Result) (v8 : List D_Entry) (v9 : D_Result),
    l.length - i = n → i ≤ l.length → MI m → rs.length = i → lp_spec_l10Batch_1 R L m l v4 v5 rs i v8 v9 = some (batchGo (l.drop i) m rs)
  | 0, i, m, rs, v8, v9, hn, hi, hm, hr => by
    have hq : lp_spec_l10Batch_1 R L m l v4 v5 rs i v8 v9 = _ := round (by kernel_rfl) (q_spec_l10Batch_1 R L m l v4 v5 rs i v8 v9)
    rw [hq, lt_f (by omega), List.drop_eq_nil_of_le (by omega)]; rfl
  | n + 1, i, m, rs, v8, v9, hn, hi, hm, hr => by
    have hlt : i < l.length := by omega
    have hti := ht _ (getD_mem (d := ([], ())) hlt)
    have hq : lp_spec_l10Batch_1 R L m l v4 v5 rs i v8 v9 = _ := round (by kernel_rfl) (q_spec_l10Batch_1 R L m l v4 v5 rs i v8 v9)
    rw [hq, lt_t hlt, nn, tn, blt_t hlt, p_spec_l10Txn m _ hm hti.len hti.ops, wrap_succ (by omega), drop_getD (d := ([], ())) hlt]
    simp only [cond_true, Option.bind_some]
    rw [lenOK_t (by simp only [List.length_cons, List.length_nil]; omega)]
    simp only [cond_true]
    exact batS_loop l hl ht v4 v5 n (i + 1) _ _ _ _ (by omega) (by omega) (txnM_mi hm hti) (by simp only [List.length_append, List.length_cons, List.length_nil]; omega)
theorem p_spec_l10Batch (m : List D_Entry) (l : List D_Txn) (hm : MI m) (hl : l.length ≤ 2) (ht : ∀ t ∈ l, TxB t) : c_spec_l10Batch R m l = some (batchGo l m []) := by
  have hq : c_spec_l10Batch R m l = _ := call (q_spec_l10Batch R L m l)
  have hq0 : lp_spec_l10Batch_0 R L m l [] [] [] 0 = _ := round (by kernel_rfl) (q_spec_l10Batch_0 R L m l [] [] [] 0)
  have hq1 : lp_spec_l10Batch_1 R L m l [] [] [] 0 [] (0, ([], ())) = _ := round (by kernel_rfl) (q_spec_l10Batch_1 R L m l [] [] [] 0 [] (0, ([], ())))
  rw [hq, hq0.trans hq1.symm]
  exact batS_loop l hl ht [] [] _ 0 m [] _ _ rfl (Nat.zero_le _) hm rfl
theorem batI_loop (l : List D_Txn) (hl : l.length ≤ 2) (ht : ∀ t ∈ l, TxB t) (v1 : List D_Txn) (v4 : List D_Entry) (v5 : List D_Result) : ∀ (n i : Nat) (m : List D_Entry) (rs : List D_Result) (v8 : D_Txn) (v9 : List D_Entry) (v10 : D_Result),
    l.length - i = n → i ≤ l.length → MI m → rs.length = i → lp_impl_doBatch_1 R L m v1 v4 v5 rs v8 v9 v10 l l.length i = some (batchGo (l.drop i) m rs)
  | 0, i, m, rs, v8, v9, v10, hn, hi, hm, hr => by
    have hq : lp_impl_doBatch_1 R L m v1 v4 v5 rs v8 v9 v10 l l.length i = _ := round (by kernel_rfl) (q_impl_doBatch_1 R L m v1 v4 v5 rs v8 v9 v10 l l.length i)
    rw [hq, lt_f (by omega), List.drop_eq_nil_of_le (by omega)]; rfl
  | n + 1, i, m, rs, v8, v9, v10, hn, hi, hm, hr => by
    have hlt : i < l.length := by omega
    have hti := ht _ (getD_mem (d := ([], ())) hlt)
    have hq : lp_impl_doBatch_1 R L m v1 v4 v5 rs v8 v9 v10 l l.length i = _ := round (by kernel_rfl) (q_impl_doBatch_1 R L m v1 v4 v5 rs v8 v9 v10 l l.length i)
    rw [hq, lt_t hlt, nn, tn, blt_t hlt, p_impl_doTxn m _ hm hti.len hti.ops, wrap_succ (by omega), drop_getD (d := ([], ())) hlt]
    simp only [cond_true, Option.bind_some]
    rw [lenOK_t (by simp only [List.length_cons, List.length_nil]; omega)]
    simp only [cond_true]
    exact batI_loop l hl ht v1 v4 v5 n (i + 1) _ _ _ _ _ (by omega) (by omega) (txnM_mi hm hti) (by simp only [List.length_append, List.length_cons, List.length_nil]; omega)
theorem p_impl_doBatch (m : List D_Entry) (l : List D_Txn) (hm : MI m) (hl : l.length ≤ 2) (ht : ∀ t ∈ l, TxB t) : c_impl_doBatch R m l = some (batchGo l m []) := by
  have hq : c_impl_doBatch R m l = _ := call (q_impl_doBatch R L m l)
  have hq0 : lp_impl_doBatch_0 R L m l [] [] [] l l.length 0 = _ := round (by kernel_rfl) (q_impl_doBatch_0 R L m l [] [] [] l l.length 0)
  have hq1 : lp_impl_doBatch_1 R L m l [] [] [] ([], ()) [] (0, ([], ())) l l.length 0 = _ := round (by kernel_rfl) (q_impl_doBatch_1 R L m l [] [] [] ([], ()) [] (0, ([], ())) l l.length 0)
  rw [hq, hq0.trans hq1.symm]
  exact batI_loop l hl ht l [] [] _ 0 m [] _ _ _ rfl (Nat.zero_le _) hm rfl
abbrev D_MB : Type := List D_Entry × (List D_Result × (Int × Unit))
def mapBatch (m : List D_Entry) (l : List D_Txn) : D_MB :=
  cond (decide (4096 < m.length) || decide (4096 < l.length)) ([], ([], (2, ())))
  (cond (mapOK m && batchOK l) ((batchGo l m []).1, ((batchGo l m []).2.1, (0, ()))) ([], ([], (1, ()))))
structure MBO (r : D_MB) : Prop where
  len : r.1.length ≤ 11
  rlen : r.2.1.length ≤ 2
  out : ∀ x ∈ r.2.1, x.2.1.length ≤ 32
theorem batch_tx {l : List D_Txn} (h : batchOK l = true) : l.length ≤ 2 ∧ ∀ t ∈ l, TxB t := by
  unfold batchOK at h
  rw [Bool.and_eq_true] at h
  have := inB_bounds h.1
  exact ⟨by omega, fun t ht => txB (List.all_eq_true.1 h.2 t ht)⟩
theorem mapBatch_ok (m : List D_Entry) (l : List D_Txn) : MBO (mapBatch m l) := by
  unfold mapBatch
  cases decide (4096 < m.length) || decide (4096 < l.length) with
  | true => exact ⟨by simp, by simp, by simp⟩
  | false =>
    cases h : mapOK m && batchOK l with
    | false => exact ⟨by simp, by simp, by simp⟩
    | true =>
      rw [Bool.and_eq_true] at h
      obtain ⟨h1, h2⟩ := batch_tx h.2
      have := batchGo_ok (m := m) (rs := []) h2 (mi_of h.1) (by simp)
      have hl := this.len
      simp only [List.length_nil] at hl
      exact ⟨this.mi.len, by simp only [cond_false, cond_true]; omega, this.out⟩
theorem gt4 (n : Nat) : decide ((4096 : Int) < (n : Int)) = decide (4096 < n) := decide_eq_decide.2 (by omega)
theorem p_spec_MapBatch (m : List D_Entry) (l : List D_Txn) (hb : ∀ t ∈ l, t.1.length ≤ 4611686018427387904) : c_spec_MapBatch R m l = some (mapBatch m l) := by
  have hq : c_spec_MapBatch R m l = _ := call (q_spec_MapBatch R L m l)
  rw [hq, p_spec_MapOK, p_spec_BatchOK l hb, gt4, gt4]
  simp only [Option.bind_some]
  unfold mapBatch
  cases decide (4096 < m.length) with
  | true => rfl
  | false =>
    cases decide (4096 < l.length) with
    | true => rfl
    | false =>
      cases h1 : mapOK m with
      | false => rfl
      | true =>
        cases h2 : batchOK l with
        | false => rfl
        | true =>
          obtain ⟨h3, h4⟩ := batch_tx h2
          have hbo := batchGo_ok (m := m) (rs := []) h4 (mi_of h1) (by simp)
          have hl := hbo.mi.len
          rw [p_spec_l10Batch m l (mi_of h1) h3 h4]
          simp only [Option.bind_some, cond_false, Bool.not_true, Bool.or_self, Bool.and_self, cond_true]
          rw [lenOK_t (by simp only [List.length_nil]; omega)]; rfl
theorem p_impl_MapBatch (m : List D_Entry) (l : List D_Txn) (hm : m.length ≤ 4611686018427387904) (hb : ∀ t ∈ l, t.1.length ≤ 4611686018427387904) : c_impl_MapBatch R m l = some (mapBatch m l) := by
  have hq : c_impl_MapBatch R m l = _ := call (q_impl_MapBatch R L m l)
  rw [hq, p_impl_MapOK m hm, p_impl_BatchOK l hb, gt4, gt4]
  simp only [Option.bind_some]
  unfold mapBatch
  cases decide (4096 < m.length) with
  | true => rfl
  | false =>
    cases decide (4096 < l.length) with
    | true => rfl
    | false =>
      cases h1 : mapOK m with
      | false => rfl
      | true =>
        cases h2 : batchOK l with
        | false => rfl
        | true =>
          obtain ⟨h3, h4⟩ := batch_tx h2
          have hbo := batchGo_ok (m := m) (rs := []) h4 (mi_of h1) (by simp)
          have hl := hbo.mi.len
          rw [p_impl_doBatch m l (mi_of h1) h3 h4]
          simp only [Option.bind_some, cond_false, Bool.not_true, Bool.or_self, Bool.and_self, cond_true]
          rw [p_clone _ (by omega)]; rfl
end Go.Rf.S
