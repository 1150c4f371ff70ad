import Derived.Test.YtkiejckaaipdkaaMba5
set_option linter.unusedVariables false
set_option linter.unusedSimpArgs false
namespace Go.Rf.S
set_option maxRecDepth 100000
set_option linter.unusedVariables false
set_option linter.unusedSimpArgs false

/-! small words -/
def inB (n a b : Int) : Bool := decide (a ≤ n) && decide (n ≤ b)
theorem inB_bounds {n a b : Int} (h : inB n a b = true) : a ≤ n ∧ n ≤ b := by
  unfold inB at h
  simpa using h
theorem p_spec_l01In (n a b : Int) : c_spec_l01In R n a b = some (inB n a b, ()) := by
  have hq : c_spec_l01In R n a b = _ := call (q_spec_l01In R L n a b)
  rw [hq]
  unfold inB
  cases decide (a ≤ n) <;> rfl
theorem p_impl_within (n a b : Int) : c_impl_within R n a b = some (inB n a b, ()) := by
  have hq : c_impl_within R n a b = _ := call (q_impl_within R L n a b)
  rw [hq]
  unfold inB
  cases decide (a ≤ n) <;> rfl
theorem p_impl_isKey (n : Int) : c_impl_isKey R n = some (inB n 1 9999, ()) := by
  have hq : c_impl_isKey R n = _ := call (q_impl_isKey R L n)
  rw [hq, p_impl_within]; rfl
theorem p_impl_isValue (n : Int) : c_impl_isValue R n = some (inB n 0 999999, ()) := by
  have hq : c_impl_isValue R n = _ := call (q_impl_isValue R L n)
  rw [hq, p_impl_within]; rfl
theorem gtN (n m : Nat) : decide ((m : Int) < (n : Int)) = !decide (n ≤ m) := by
  by_cases h : n ≤ m
  · rw [decide_eq_false (by omega), decide_eq_true h]; rfl
  · rw [decide_eq_true (by omega), decide_eq_false h]; rfl
theorem leN (n m : Nat) : decide ((n : Int) ≤ (m : Int)) = decide (n ≤ m) := decide_eq_decide.2 (by omega)

/-! maps -/
def ltO : Option Int → Int → Bool
  | none, _ => true
  | some p, k => decide (p < k)
def mapF : Option Int → List D_Entry → Bool
  | _, [] => true
  | p, e :: es => inB e.1 1 9999 && (inB e.2.1 0 999999 && (ltO p e.1 && mapF (some e.1) es))
def prevOf (v : List D_Entry) : Nat → Option Int
  | 0 => none
  | j + 1 => some (v.getD j (0, (0, ()))).1
def mapOK (m : List D_Entry) : Bool := mapF none m && decide (m.length ≤ 11)
theorem lt_not_le (p k : Int) : decide (p < k) = !decide (k ≤ p) := by
  by_cases h : k ≤ p
  · rw [decide_eq_true h, decide_eq_false (by omega)]; rfl
  · rw [decide_eq_false h, decide_eq_true (by omega)]; rfl
theorem wrap_pred {i : Nat} (h : i + 1 < 9223372036854775807) : IntKind.wrap .i64 (((i + 1 : Nat) : Int) - 1) = (i : Int) := by
  rw [wrap_id (by omega) (by omega)]; omega
theorem map_spec : ∀ (n : Nat) (v : List D_Entry) (b : Bool) (i : Nat), v.length - i = n → i ≤ v.length → v.length ≤ 4611686018427387904 → lp_spec_MapOK_0 R L v b i = some (mapF (prevOf v i) (v.drop i) && decide (v.length ≤ 11), ())
  | 0, v, b, i, hn, hi, hl => by
    have hq : lp_spec_MapOK_0 R L v b i = _ := round (by kernel_rfl) (q_spec_MapOK_0 R L v b i)
    rw [hq, lt_f (by omega), List.drop_eq_nil_of_le (by omega), show (11 : Int) = ((11 : Nat) : Int) from rfl, leN]; rfl
  | n + 1, v, b, i, hn, hi, hl => by
    have hlt : i < v.length := by omega
    have hq : lp_spec_MapOK_0 R L v b i = _ := round (by kernel_rfl) (q_spec_MapOK_0 R L v b i)
    rw [hq, lt_t hlt, nn, tn, blt_t hlt, p_spec_l01In, p_spec_l01In, wrap_succ (by omega), map_spec n v b (i + 1) (by omega) (by omega) hl, drop_getD (d := (0, (0, ()))) hlt]
    simp only [cond_true, Option.bind_some, mapF]
    cases i with
    | zero =>
      rw [show decide ((0 : Int) < ((0 : Nat) : Int)) = false from rfl]
      show _ = some ((inB _ _ _ && (inB _ _ _ && (true && mapF (prevOf v 1) _))) && _, ())
      generalize mapF (prevOf v 1) (v.drop 1) = z
      cases inB (v.getD 0 (0, (0, ()))).1 1 9999 <;> cases inB (v.getD 0 (0, (0, ()))).2.1 0 999999 <;> rfl
    | succ j =>
      rw [show decide ((0 : Int) < ((j + 1 : Nat) : Int)) = true from decide_eq_true (by omega), wrap_pred (by omega), nn, tn, blt_t (by omega)]
      show _ = some ((inB _ _ _ && (inB _ _ _ && (decide ((v.getD j (0, (0, ()))).1 < (v.getD (j + 1) (0, (0, ()))).1) && mapF (prevOf v (j + 1 + 1)) _))) && _, ())
      rw [lt_not_le]
      simp only [cond_true]
      generalize mapF (prevOf v (j + 1 + 1)) (v.drop (j + 1 + 1)) = z
      cases inB (v.getD (j + 1) (0, (0, ()))).1 1 9999 <;> cases inB (v.getD (j + 1) (0, (0, ()))).2.1 0 999999 <;> cases decide ((v.getD (j + 1) (0, (0, ()))).1 ≤ (v.getD j (0, (0, ()))).1) <;> rfl
theorem p_spec_MapOK (m : List D_Entry) : c_spec_MapOK R m = some (mapOK m, ()) := by
  have hq : c_spec_MapOK R m = _ := call (q_spec_MapOK R L m)
  rw [hq]
  by_cases h : m.length ≤ 4096
  · rw [show decide ((4096 : Int) < (m.length : Int)) = false from decide_eq_false (by omega)]
    exact map_spec _ m false 0 rfl (by omega) (by omega)
  · rw [show decide ((4096 : Int) < (m.length : Int)) = true from decide_eq_true (by omega)]
    unfold mapOK
    rw [show decide (m.length ≤ 11) = false from decide_eq_false (by omega), Bool.and_false]; rfl
theorem map_impl : ∀ (n : Nat) (v : List D_Entry) (b : Bool) (v3 : Int) (v4 : D_Entry) (i : Nat), v.length - i = n → i ≤ v.length → v.length ≤ 4611686018427387904 → lp_impl_MapOK_1 R L v b v3 v4 v v.length i = some (mapF (prevOf v i) (v.drop i) && decide (v.length ≤ 11), ())
  | 0, v, b, v3, v4, i, hn, hi, hl => by
    have hq : lp_impl_MapOK_1 R L v b v3 v4 v v.length i = _ := round (by kernel_rfl) (q_impl_MapOK_1 R L v b v3 v4 v v.length i)
    rw [hq, lt_f (by omega), List.drop_eq_nil_of_le (by omega), show (11 : Int) = ((11 : Nat) : Int) from rfl, leN]; rfl
  | n + 1, v, b, v3, v4, i, hn, hi, hl => by
    have hlt : i < v.length := by omega
    have hq : lp_impl_MapOK_1 R L v b v3 v4 v v.length i = _ := round (by kernel_rfl) (q_impl_MapOK_1 R L v b v3 v4 v v.length i)
    rw [hq, lt_t hlt, nn, tn, blt_t hlt, p_impl_isKey, p_impl_isValue, wrap_succ (by omega), map_impl n v b _ _ (i + 1) (by omega) (by omega) hl, drop_getD (d := (0, (0, ()))) hlt]
    simp only [cond_true, Option.bind_some, mapF]
    cases i with
    | zero =>
      rw [show decide ((0 : Int) < ((0 : Nat) : Int)) = false from rfl]
      show _ = some ((inB _ _ _ && (inB _ _ _ && (true && mapF (prevOf v 1) _))) && _, ())
      generalize mapF (prevOf v 1) (v.drop 1) = z
      cases inB (v.getD 0 (0, (0, ()))).1 1 9999 <;> cases inB (v.getD 0 (0, (0, ()))).2.1 0 999999 <;> rfl
    | succ j =>
      rw [show decide ((0 : Int) < ((j + 1 : Nat) : Int)) = true from decide_eq_true (by omega), wrap_pred (by omega), nn, tn, blt_t (by omega)]
      show _ = some ((inB _ _ _ && (inB _ _ _ && (decide ((v.getD j (0, (0, ()))).1 < (v.getD (j + 1) (0, (0, ()))).1) && mapF (prevOf v (j + 1 + 1)) _))) && _, ())
      rw [lt_not_le]
      simp only [cond_true]
      generalize mapF (prevOf v (j + 1 + 1)) (v.drop (j + 1 + 1)) = z
      cases inB (v.getD (j + 1) (0, (0, ()))).1 1 9999 <;> cases inB (v.getD (j + 1) (0, (0, ()))).2.1 0 999999 <;> cases decide ((v.getD (j + 1) (0, (0, ()))).1 ≤ (v.getD j (0, (0, ()))).1) <;> rfl
theorem p_impl_MapOK (m : List D_Entry) (hl : m.length ≤ 4611686018427387904) : c_impl_MapOK R m = some (mapOK m, ()) := by
  have hq : c_impl_MapOK R m = _ := call (q_impl_MapOK R L m)
  have hq0 : lp_impl_MapOK_0 R L m false m m.length 0 = _ := round (by kernel_rfl) (q_impl_MapOK_0 R L m false m m.length 0)
  have hq1 : lp_impl_MapOK_1 R L m false 0 (0, (0, ())) m m.length 0 = _ := round (by kernel_rfl) (q_impl_MapOK_1 R L m false 0 (0, (0, ())) m m.length 0)
  rw [hq, hq0.trans hq1.symm]
  exact map_impl _ m false 0 _ 0 rfl (by omega) hl

/-- A loop that asks of each. -/
theorem gen_all {α : Type} (F : Int → Option (Bool × Unit)) (v : List α) (d : α) (p : α → Bool) (z : Bool)
    (stop : F (v.length : Nat) = some (z, ()))
    (step : ∀ (i : Nat), i < v.length → F i = cond (p (v.getD i d)) (F ((i + 1 : Nat) : Int)) (some (false, ()))) :
    ∀ (n i : Nat), v.length - i = n → i ≤ v.length → F i = some ((v.drop i).all p && z, ())
  | 0, i, hn, hi => by
    have : i = v.length := by omega
    subst this
    rw [stop, List.drop_eq_nil_of_le (Nat.le_refl _)]; rfl
  | n + 1, i, hn, hi => by
    rw [step i (by omega), drop_getD (d := d) (by omega), List.all_cons, gen_all F v d p z stop step n (i + 1) (by omega) (by omega)]
    cases p (v.getD i d) <;> rfl
theorem eqI0 (n : Nat) : eqI (n : Int) 0 = decide (n = 0) := by
  rw [eqI_iff]; exact decide_eq_decide.2 (by omega)
theorem gtO (n : Nat) : decide ((0 : Int) < (n : Int)) = !decide (n = 0) := by
  by_cases h : n = 0
  · rw [decide_eq_true h, decide_eq_false (by omega)]; rfl
  · rw [decide_eq_false h, decide_eq_true (by omega)]; rfl
def opOK (o : D_Op) : Bool := inB o.1 1 6 && (inB o.2.1 1 9999 && cond (decide (o.1 = 1) || decide (o.1 = 3)) (decide (o.2.2.1 = 0)) (cond (decide (o.1 = 6)) (inB o.2.2.1 1 4) (inB o.2.2.1 0 999999)))
def txnOK (t : D_Txn) : Bool := inB (t.1.length : Int) 1 4 && t.1.all opOK
def batchOK (l : List D_Txn) : Bool := inB (l.length : Int) 1 2 && l.all txnOK
theorem p_spec_OpOK (o : D_Op) : c_spec_OpOK R o = some (opOK o, ()) := by
  have hq : c_spec_OpOK R o = _ := call (q_spec_OpOK R L o)
  rw [hq, p_spec_l01In, p_spec_l01In]
  simp only [Option.bind_some, p_spec_l01In, eqI_iff]
  unfold opOK
  cases inB o.1 1 6 <;> cases inB o.2.1 1 9999 <;> cases decide (o.1 = 1) <;> cases decide (o.1 = 3) <;> cases decide (o.1 = 6) <;> rfl
theorem p_impl_isBare (k : Int) : c_impl_isBare R k = some (decide (k = 1) || decide (k = 3), ()) := by
  have hq : c_impl_isBare R k = _ := call (q_impl_isBare R L k)
  rw [hq, eqI_iff, eqI_iff]
  cases decide (k = 1) <;> rfl
theorem p_impl_OpOK (o : D_Op) : c_impl_OpOK R o = some (opOK o, ()) := by
  have hq : c_impl_OpOK R o = _ := call (q_impl_OpOK R L o)
  rw [hq, p_impl_within, p_impl_isKey]
  simp only [Option.bind_some, p_impl_within, p_impl_isBare, p_impl_isValue, eqI_iff]
  unfold opOK
  cases inB o.1 1 6 <;> cases inB o.2.1 1 9999 <;> cases decide (o.1 = 1) <;> cases decide (o.1 = 3) <;> cases decide (o.1 = 6) <;> rfl
theorem p_spec_l09Txn (t : D_Txn) (hl : t.1.length ≤ 4611686018427387904) : c_spec_l09Txn R t = some (txnOK t, ()) := by
  have hq : c_spec_l09Txn R t = _ := call (q_spec_l09Txn R L t)
  rw [hq]
  have h := gen_all (fun i => lp_spec_l09Txn_0 R L t t false i) t.1 (0, (0, (0, ()))) opOK (inB (t.1.length : Int) 1 4) (by
    have hq : lp_spec_l09Txn_0 R L t t false (t.1.length : Nat) = _ := round (by kernel_rfl) (q_spec_l09Txn_0 R L t t false (t.1.length : Nat))
    show lp_spec_l09Txn_0 R L t t false (t.1.length : Nat) = _
    rw [hq, lt_f (Nat.le_refl _), p_spec_l01In]; rfl) (fun i hlt => by
    have hq : lp_spec_l09Txn_0 R L t t false i = _ := round (by kernel_rfl) (q_spec_l09Txn_0 R L t t false i)
    show lp_spec_l09Txn_0 R L t t false i = _
    rw [hq, lt_t hlt, nn, tn, blt_t hlt, p_spec_OpOK, wrap_succ (by omega)]
    simp only [cond_true, Option.bind_some]
    cases opOK (t.1.getD i (0, (0, (0, ())))) <;> rfl) _ 0 rfl (by omega)
  unfold txnOK
  rw [Bool.and_comm]
  exact h
theorem p_impl_isTxn (t : D_Txn) (hl : t.1.length ≤ 4611686018427387904) : c_impl_isTxn R t = some (txnOK t, ()) := by
  have hq : c_impl_isTxn R t = _ := call (q_impl_isTxn R L t)
  rw [hq, p_impl_within, all_impl_areAll_impl_Op_ t.1 _ opOK hl (fun s _ => by rw [cv_impl_OpOK, p_impl_OpOK]; rfl)]
  unfold txnOK
  simp only [Option.bind_some]
  cases inB (t.1.length : Int) 1 4 <;> rfl
theorem p_spec_BatchOK (l : List D_Txn) (hb : ∀ t ∈ l, t.1.length ≤ 4611686018427387904) : c_spec_BatchOK R l = some (batchOK l, ()) := by
  have hq : c_spec_BatchOK R l = _ := call (q_spec_BatchOK R L l)
  rw [hq, p_spec_l01In]
  simp only [Option.bind_some]
  unfold batchOK
  cases h : inB (l.length : Int) 1 2 with
  | false => cases decide ((4096 : Int) < (l.length : Int)) <;> rfl
  | true =>
    have hbd := inB_bounds h
    rw [show decide ((4096 : Int) < (l.length : Int)) = false from decide_eq_false (by omega)]
    have h := gen_all (fun i => lp_spec_BatchOK_0 R L l false i) l ([], ()) txnOK true (by
      have hq : lp_spec_BatchOK_0 R L l false (l.length : Nat) = _ := round (by kernel_rfl) (q_spec_BatchOK_0 R L l false (l.length : Nat))
      show lp_spec_BatchOK_0 R L l false (l.length : Nat) = _
      rw [hq, lt_f (Nat.le_refl _)]; rfl) (fun i hlt => by
      have hq : lp_spec_BatchOK_0 R L l false i = _ := round (by kernel_rfl) (q_spec_BatchOK_0 R L l false i)
      show lp_spec_BatchOK_0 R L l false i = _
      rw [hq, lt_t hlt, nn, tn, blt_t hlt, p_spec_l09Txn _ (hb _ (getD_mem hlt)), wrap_succ (by omega)]
      simp only [cond_true, Option.bind_some]
      cases txnOK (l.getD i ([], ())) <;> rfl) _ 0 rfl (by omega)
    rw [Bool.and_true] at h
    exact h
theorem p_impl_BatchOK (l : List D_Txn) (hb : ∀ t ∈ l, t.1.length ≤ 4611686018427387904) : c_impl_BatchOK R l = some (batchOK l, ()) := by
  have hq : c_impl_BatchOK R l = _ := call (q_impl_BatchOK R L l)
  rw [hq, p_impl_within]
  simp only [Option.bind_some]
  unfold batchOK
  cases h : inB (l.length : Int) 1 2 with
  | false => rfl
  | true =>
    have hbd := inB_bounds h
    rw [all_impl_areAll_impl_Txn_ l _ txnOK (by omega) (fun s hs => by rw [cv_impl_isTxn, p_impl_isTxn _ (hb s hs)]; rfl)]
    rfl
end Go.Rf.S
