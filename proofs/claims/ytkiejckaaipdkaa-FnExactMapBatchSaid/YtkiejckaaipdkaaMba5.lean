import Derived.Test.YtkiejckaaipdkaaMba4
import Derived.Test.YtkiejckaaipdkaaRfD
import Derived.Test.YtkiejckaaipdkaaMba3
set_option linter.unusedVariables false
set_option linter.unusedSimpArgs false
namespace Go.Rf.S
set_option maxRecDepth 100000
set_option linter.unusedVariables false
set_option linter.unusedSimpArgs false

noncomputable def X : (f : FuncId) → Option (List Dyn → Option (EE.cfg f).rt.D)
  | 64 => some (delH (.pair (.int .i64) (.pair (.int .i64) .unit)))
  | 71 => some (insH (.pair (.int .i64) (.pair (.int .i64) .unit)))
  | _ => none
theorem run_x {f : FuncId} {h : List Dyn → Option (EE.cfg f).rt.D} (hX : X f = some h) (ds : List Dyn) : run X f ds = h ds := by
  rw [run_eq]; unfold nextR; rw [hX]
noncomputable abbrev R : Run EE := run X
noncomputable abbrev L : Loops := lps X

theorem call {f : FuncId} {ds : List Dyn} {r : Option (EE.cfg f).rt.D} (h : bodyK EE R L f ds = r) (hX : X f = none := by rfl) : R f ds = r := (run_fn X hX ds).trans h
theorem round {f : FuncId} {fn : Func} {p : List Nat} {σ : List SV} {r : Option (EE.cfg f).rt.D} (h : (okPath (codeOf fn) p && !unkOK (EE.cfg f).keep) = true) (q : from_ EE R L f fn (p ++ [0]) σ = r) : from_ EE R L f fn p σ = r := (from_loop h).trans q

def mt (_ : Nat) : List UInt8 := []
theorem sz_EntryS (x : List ((Int × (Int × Unit)))) (l : Int) (h0 : 0 ≤ l) (h1 : l ≤ 1048576) (hx : Fine (.sl (.pair (.int .i64) (.pair (.int .i64) .unit))) x) : c_laws_szEntryS R x l = some (szF (cnt (.sl (.pair (.int .i64) (.pair (.int .i64) .unit))) x) l, ()) := by
  have hq : c_laws_szEntryS R x l = _ := call (q_laws_szEntryS R L x l)
  have hm : x.length ≤ maxLen := hx.1
  unfold maxLen at hm
  have hc : cnt (.sl (.pair (.int .i64) (.pair (.int .i64) .unit))) x = x.length + (x.map (cnt (.pair (.int .i64) (.pair (.int .i64) .unit)))).sum := rfl
  rw [hq, wrap_id (n := l - (x.length : Int)) (by omega) (by omega)]
  by_cases n0 : l - (x.length : Int) < 0
  · rw [decide_eq_true n0, szF_f (by omega)]; rfl
  rw [decide_eq_false n0]
  simp only [cond_false]
  have hz : (x.map (cnt (.pair (.int .i64) (.pair (.int .i64) .unit)))).sum = 0 := sum_zero x (fun _ => rfl)
  rw [szF_t (by omega)]
  exact congrArg (fun z => some (z, ())) (by omega)

theorem sz_OpS (x : List ((Int × (Int × (Int × Unit))))) (l : Int) (h0 : 0 ≤ l) (h1 : l ≤ 1048576) (hx : Fine (.sl (.pair (.int .i64) (.pair (.int .i64) (.pair (.int .i64) .unit)))) x) : c_laws_szOpS R x l = some (szF (cnt (.sl (.pair (.int .i64) (.pair (.int .i64) (.pair (.int .i64) .unit)))) x) l, ()) := by
  have hq : c_laws_szOpS R x l = _ := call (q_laws_szOpS R L x l)
  have hm : x.length ≤ maxLen := hx.1
  unfold maxLen at hm
  have hc : cnt (.sl (.pair (.int .i64) (.pair (.int .i64) (.pair (.int .i64) .unit)))) x = x.length + (x.map (cnt (.pair (.int .i64) (.pair (.int .i64) (.pair (.int .i64) .unit))))).sum := rfl
  rw [hq, wrap_id (n := l - (x.length : Int)) (by omega) (by omega)]
  by_cases n0 : l - (x.length : Int) < 0
  · rw [decide_eq_true n0, szF_f (by omega)]; rfl
  rw [decide_eq_false n0]
  simp only [cond_false]
  have hz : (x.map (cnt (.pair (.int .i64) (.pair (.int .i64) (.pair (.int .i64) .unit))))).sum = 0 := sum_zero x (fun _ => rfl)
  rw [szF_t (by omega)]
  exact congrArg (fun z => some (z, ())) (by omega)

abbrev T_Txn : Ty := (.pair (.sl (.pair (.int .i64) (.pair (.int .i64) (.pair (.int .i64) .unit)))) .unit)
abbrev D_Txn : Type := (List ((Int × (Int × (Int × Unit)))) × Unit)
theorem sz_Txn (x : D_Txn) (l : Int) (h0 : 0 ≤ l) (h1 : l ≤ 1048576) (hx : Fine T_Txn x) : c_laws_szTxn R x l = some (szF (cnt T_Txn x) l, ()) := by
  have hq : c_laws_szTxn R x l = _ := call (q_laws_szTxn R L x l)
  have hc : cnt T_Txn x = (cnt (.sl (.pair (.int .i64) (.pair (.int .i64) (.pair (.int .i64) .unit)))) x.1 + (0)) := rfl
  rw [hq]
  rw [sz_OpS x.1 (l) (by omega) (by omega) hx.1]
  simp only [Option.bind_some]
  by_cases n1 : l < (cnt (.sl (.pair (.int .i64) (.pair (.int .i64) (.pair (.int .i64) .unit)))) x.1 : Int)
  · rw [szF_f n1, hc, szF_f (by omega)]; rfl
  rw [szF_t (by omega), show decide (l - (cnt (.sl (.pair (.int .i64) (.pair (.int .i64) (.pair (.int .i64) .unit)))) x.1 : Int) < 0) = false from decide_eq_false (by omega)]
  simp only [cond_false]
  rw [hc, szF_t (by omega)]
  exact congrArg (fun z => some (z, ())) (by omega)

theorem sz_TxnS (x : List (D_Txn)) (l : Int) (h0 : 0 ≤ l) (h1 : l ≤ 1048576) (hx : Fine (.sl T_Txn) x) : c_laws_szTxnS R x l = some (szF (cnt (.sl T_Txn) x) l, ()) := by
  have hq : c_laws_szTxnS R x l = _ := call (q_laws_szTxnS R L x l)
  have hm : x.length ≤ maxLen := hx.1
  unfold maxLen at hm
  have hc : cnt (.sl T_Txn) x = x.length + (x.map (cnt T_Txn)).sum := rfl
  rw [hq, wrap_id (n := l - (x.length : Int)) (by omega) (by omega)]
  by_cases n0 : l - (x.length : Int) < 0
  · rw [decide_eq_true n0, szF_f (by omega)]; rfl
  rw [decide_eq_false n0]
  simp only [cond_false]
  have e := gen_sz (fun l i => lp_laws_szTxnS_0 R L x l 0 i) x (([] : List ((Int × (Int × (Int × Unit))))), ()) (cnt T_Txn) (fun l => by
    have hq : lp_laws_szTxnS_0 R L x l 0 (x.length : Nat) = _ := round (by kernel_rfl) (q_laws_szTxnS_0 R L x l 0 (x.length : Nat))
    show lp_laws_szTxnS_0 R L x l 0 (x.length : Nat) = _
    rw [hq, lt_f (Nat.le_refl _)]; rfl) (fun l i hlt h0 h1 => by
    have hq : lp_laws_szTxnS_0 R L x l 0 i = _ := round (by kernel_rfl) (q_laws_szTxnS_0 R L x l 0 i)
    have hm := fine_mem (t := T_Txn) hx _ (getD_mem (d := (([] : List ((Int × (Int × (Int × Unit))))), ())) hlt)
    show lp_laws_szTxnS_0 R L x l 0 i = _
    rw [hq, lt_t hlt, nn, tn, blt_t hlt, wrap_succ (i := i) (by omega)]
    simp only [cond_true]
    rw [sz_Txn _ l h0 h1 hm]
    simp only [Option.bind_some]
    by_cases n : ((cnt T_Txn (x.getD i (([] : List ((Int × (Int × (Int × Unit))))), ())) : Nat) : Int) ≤ l
    · rw [if_pos n, szF_t n, decide_eq_false (by omega)]; rfl
    · rw [if_neg n, szF_f (by omega)]; rfl) _ 0 (l - (x.length : Int)) rfl (Nat.zero_le _) (by omega) (by omega)
  rw [hc, ← szF_add (by omega)]
  exact e

abbrev T_Entry : Ty := (.pair (.int .i64) (.pair (.int .i64) .unit))
abbrev D_Entry : Type := (Int × (Int × Unit))
theorem to_Entry (x : D_Entry) (hx : cnt T_Entry x ≤ 1048576) : c_laws_toEntry R x = some (x, ()) := by
  have hq : c_laws_toEntry R x = _ := call (q_laws_toEntry R L x)
  have hc : cnt T_Entry x = (0 + (0 + (0))) := rfl
  refine hq.trans ?_
  rfl

theorem to_EntryS (x : List (D_Entry)) (hx : cnt (.sl T_Entry) x ≤ 1048576) : c_laws_toEntryS R x = some (x, ()) := by
  have hq : c_laws_toEntryS R x = _ := call (q_laws_toEntryS R L x)
  have hc : cnt (.sl T_Entry) x = x.length + (x.map (cnt T_Entry)).sum := rfl
  rw [hq, leI_self, tn, lenOK_t (by omega)]
  refine gen_to (fun w i => lp_laws_toEntryS_0 R L x [] w i) x ((0 : Int), ((0 : Int), ())) (fun w hw => ?_) (fun w i hlt hw => ?_) _ 0 _ rfl (Nat.zero_le _) (by simp) (fun j hj => by omega)
  · have hq : lp_laws_toEntryS_0 R L x [] w (x.length : Nat) = _ := round (by kernel_rfl) (q_laws_toEntryS_0 R L x [] w (x.length : Nat))
    show lp_laws_toEntryS_0 R L x [] w (x.length : Nat) = _
    rw [hq, lt_f (Nat.le_refl _)]; rfl
  · have hq : lp_laws_toEntryS_0 R L x [] w i = _ := round (by kernel_rfl) (q_laws_toEntryS_0 R L x [] w i)
    show lp_laws_toEntryS_0 R L x [] w i = _
    rw [hq, lt_t hlt, nn, tn, blt_t hlt, blt_t (n := w.length) (by omega), wrap_succ (i := i) (by omega)]
    have hm : cnt T_Entry (x.getD i ((0 : Int), ((0 : Int), ()))) ≤ cnt (.sl T_Entry) x := cnt_mem (t := T_Entry) (x := x) (d := ((0 : Int), ((0 : Int), ()))) hlt
    rw [to_Entry _ (by omega)]
    rfl

abbrev T_Op : Ty := (.pair (.int .i64) (.pair (.int .i64) (.pair (.int .i64) .unit)))
abbrev D_Op : Type := (Int × (Int × (Int × Unit)))
theorem to_Op (x : D_Op) (hx : cnt T_Op x ≤ 1048576) : c_laws_toOp R x = some (x, ()) := by
  have hq : c_laws_toOp R x = _ := call (q_laws_toOp R L x)
  have hc : cnt T_Op x = (0 + (0 + (0 + (0)))) := rfl
  refine hq.trans ?_
  rfl

theorem to_OpS (x : List (D_Op)) (hx : cnt (.sl T_Op) x ≤ 1048576) : c_laws_toOpS R x = some (x, ()) := by
  have hq : c_laws_toOpS R x = _ := call (q_laws_toOpS R L x)
  have hc : cnt (.sl T_Op) x = x.length + (x.map (cnt T_Op)).sum := rfl
  rw [hq, leI_self, tn, lenOK_t (by omega)]
  refine gen_to (fun w i => lp_laws_toOpS_0 R L x [] w i) x ((0 : Int), ((0 : Int), ((0 : Int), ()))) (fun w hw => ?_) (fun w i hlt hw => ?_) _ 0 _ rfl (Nat.zero_le _) (by simp) (fun j hj => by omega)
  · have hq : lp_laws_toOpS_0 R L x [] w (x.length : Nat) = _ := round (by kernel_rfl) (q_laws_toOpS_0 R L x [] w (x.length : Nat))
    show lp_laws_toOpS_0 R L x [] w (x.length : Nat) = _
    rw [hq, lt_f (Nat.le_refl _)]; rfl
  · have hq : lp_laws_toOpS_0 R L x [] w i = _ := round (by kernel_rfl) (q_laws_toOpS_0 R L x [] w i)
    show lp_laws_toOpS_0 R L x [] w i = _
    rw [hq, lt_t hlt, nn, tn, blt_t hlt, blt_t (n := w.length) (by omega), wrap_succ (i := i) (by omega)]
    have hm : cnt T_Op (x.getD i ((0 : Int), ((0 : Int), ((0 : Int), ())))) ≤ cnt (.sl T_Op) x := cnt_mem (t := T_Op) (x := x) (d := ((0 : Int), ((0 : Int), ((0 : Int), ())))) hlt
    rw [to_Op _ (by omega)]
    rfl

theorem to_Txn (x : D_Txn) (hx : cnt T_Txn x ≤ 1048576) : c_laws_toTxn R x = some (x, ()) := by
  have hq : c_laws_toTxn R x = _ := call (q_laws_toTxn R L x)
  have hc : cnt T_Txn x = (cnt (.sl T_Op) x.1 + (0)) := rfl
  refine hq.trans ?_
  rw [to_OpS x.1 (by omega)]
  rfl

theorem to_TxnS (x : List (D_Txn)) (hx : cnt (.sl T_Txn) x ≤ 1048576) : c_laws_toTxnS R x = some (x, ()) := by
  have hq : c_laws_toTxnS R x = _ := call (q_laws_toTxnS R L x)
  have hc : cnt (.sl T_Txn) x = x.length + (x.map (cnt T_Txn)).sum := rfl
  rw [hq, leI_self, tn, lenOK_t (by omega)]
  refine gen_to (fun w i => lp_laws_toTxnS_0 R L x [] w i) x (([] : List (D_Op)), ()) (fun w hw => ?_) (fun w i hlt hw => ?_) _ 0 _ rfl (Nat.zero_le _) (by simp) (fun j hj => by omega)
  · have hq : lp_laws_toTxnS_0 R L x [] w (x.length : Nat) = _ := round (by kernel_rfl) (q_laws_toTxnS_0 R L x [] w (x.length : Nat))
    show lp_laws_toTxnS_0 R L x [] w (x.length : Nat) = _
    rw [hq, lt_f (Nat.le_refl _)]; rfl
  · have hq : lp_laws_toTxnS_0 R L x [] w i = _ := round (by kernel_rfl) (q_laws_toTxnS_0 R L x [] w i)
    show lp_laws_toTxnS_0 R L x [] w i = _
    rw [hq, lt_t hlt, nn, tn, blt_t hlt, blt_t (n := w.length) (by omega), wrap_succ (i := i) (by omega)]
    have hm : cnt T_Txn (x.getD i (([] : List (D_Op)), ())) ≤ cnt (.sl T_Txn) x := cnt_mem (t := T_Txn) (x := x) (d := (([] : List (D_Op)), ())) hlt
    rw [to_Txn _ (by omega)]
    rfl

theorem eq_Entry (x : D_Entry) (hx : cnt T_Entry x ≤ 1048576) : c_laws_eqEntry R x x = some (true, ()) := by
  have hq : c_laws_eqEntry R x x = _ := call (q_laws_eqEntry R L x x)
  have hc : cnt T_Entry x = (0 + (0 + (0))) := rfl
  rw [hq]
  simp only [eqI_iff, eqS_iff, eqB, decide_true, Bool.not_true, cond_false, Option.bind_some]

theorem eq_EntryS (x : List (D_Entry)) (hx : cnt (.sl T_Entry) x ≤ 1048576) : c_laws_eqEntryS R x x = some (true, ()) := by
  have hq : c_laws_eqEntryS R x x = _ := call (q_laws_eqEntryS R L x x)
  have hc : cnt (.sl T_Entry) x = x.length + (x.map (cnt T_Entry)).sum := rfl
  rw [hq]
  simp only [eqI_iff, decide_true, Bool.not_true, cond_false]
  refine gen_eq (fun i => lp_laws_eqEntryS_0 R L x x false i) x ?_ (fun i hlt => ?_) _ 0 rfl (Nat.zero_le _)
  · have hq : lp_laws_eqEntryS_0 R L x x false (x.length : Nat) = _ := round (by kernel_rfl) (q_laws_eqEntryS_0 R L x x false (x.length : Nat))
    show lp_laws_eqEntryS_0 R L x x false (x.length : Nat) = _
    rw [hq, lt_f (Nat.le_refl _)]; rfl
  · have hq : lp_laws_eqEntryS_0 R L x x false i = _ := round (by kernel_rfl) (q_laws_eqEntryS_0 R L x x false i)
    show lp_laws_eqEntryS_0 R L x x false i = _
    rw [hq, lt_t hlt, nn, tn, blt_t hlt, wrap_succ (i := i) (by omega)]
    have hm : cnt T_Entry (x.getD i ((0 : Int), ((0 : Int), ()))) ≤ cnt (.sl T_Entry) x := cnt_mem (t := T_Entry) (x := x) (d := ((0 : Int), ((0 : Int), ()))) hlt
    simp only [cond_true]
    rw [eq_Entry _ (by omega)]
    simp only [Option.bind_some, Bool.not_true, cond_false]

theorem eq_IntS (x : List (Int)) (hx : cnt (.sl (.int .i64)) x ≤ 1048576) : c_laws_eqIntS R x x = some (true, ()) := by
  have hq : c_laws_eqIntS R x x = _ := call (q_laws_eqIntS R L x x)
  have hc : cnt (.sl (.int .i64)) x = x.length + (x.map (cnt (.int .i64))).sum := rfl
  rw [hq]
  simp only [eqI_iff, decide_true, Bool.not_true, cond_false]
  refine gen_eq (fun i => lp_laws_eqIntS_0 R L x x false i) x ?_ (fun i hlt => ?_) _ 0 rfl (Nat.zero_le _)
  · have hq : lp_laws_eqIntS_0 R L x x false (x.length : Nat) = _ := round (by kernel_rfl) (q_laws_eqIntS_0 R L x x false (x.length : Nat))
    show lp_laws_eqIntS_0 R L x x false (x.length : Nat) = _
    rw [hq, lt_f (Nat.le_refl _)]; rfl
  · have hq : lp_laws_eqIntS_0 R L x x false i = _ := round (by kernel_rfl) (q_laws_eqIntS_0 R L x x false i)
    show lp_laws_eqIntS_0 R L x x false i = _
    rw [hq, lt_t hlt, nn, tn, blt_t hlt, wrap_succ (i := i) (by omega)]
    simp only [cond_true, eqI_iff, eqS_iff, decide_true, Bool.not_true, cond_false]

abbrev T_Result : Ty := (.pair (.int .i64) (.pair (.sl (.int .i64)) .unit))
abbrev D_Result : Type := (Int × (List (Int) × Unit))
theorem eq_Result (x : D_Result) (hx : cnt T_Result x ≤ 1048576) : c_laws_eqResult R x x = some (true, ()) := by
  have hq : c_laws_eqResult R x x = _ := call (q_laws_eqResult R L x x)
  have hc : cnt T_Result x = (0 + (cnt (.sl (.int .i64)) x.2.1 + (0))) := rfl
  have e1 := eq_IntS x.2.1 (by omega)
  rw [hq]
  simp only [eqI_iff, eqS_iff, eqB, decide_true, Bool.not_true, cond_false, Option.bind_some, e1]

theorem eq_ResultS (x : List (D_Result)) (hx : cnt (.sl T_Result) x ≤ 1048576) : c_laws_eqResultS R x x = some (true, ()) := by
  have hq : c_laws_eqResultS R x x = _ := call (q_laws_eqResultS R L x x)
  have hc : cnt (.sl T_Result) x = x.length + (x.map (cnt T_Result)).sum := rfl
  rw [hq]
  simp only [eqI_iff, decide_true, Bool.not_true, cond_false]
  refine gen_eq (fun i => lp_laws_eqResultS_0 R L x x false i) x ?_ (fun i hlt => ?_) _ 0 rfl (Nat.zero_le _)
  · have hq : lp_laws_eqResultS_0 R L x x false (x.length : Nat) = _ := round (by kernel_rfl) (q_laws_eqResultS_0 R L x x false (x.length : Nat))
    show lp_laws_eqResultS_0 R L x x false (x.length : Nat) = _
    rw [hq, lt_f (Nat.le_refl _)]; rfl
  · have hq : lp_laws_eqResultS_0 R L x x false i = _ := round (by kernel_rfl) (q_laws_eqResultS_0 R L x x false i)
    show lp_laws_eqResultS_0 R L x x false i = _
    rw [hq, lt_t hlt, nn, tn, blt_t hlt, wrap_succ (i := i) (by omega)]
    have hm : cnt T_Result (x.getD i ((0 : Int), (([] : List (Int)), ()))) ≤ cnt (.sl T_Result) x := cnt_mem (t := T_Result) (x := x) (d := ((0 : Int), (([] : List (Int)), ()))) hlt
    simp only [cond_true]
    rw [eq_Result _ (by omega)]
    simp only [Option.bind_some, Bool.not_true, cond_false]

theorem eq_Op (x : D_Op) (hx : cnt T_Op x ≤ 1048576) : c_laws_eqOp R x x = some (true, ()) := by
  have hq : c_laws_eqOp R x x = _ := call (q_laws_eqOp R L x x)
  have hc : cnt T_Op x = (0 + (0 + (0 + (0)))) := rfl
  rw [hq]
  simp only [eqI_iff, eqS_iff, eqB, decide_true, Bool.not_true, cond_false, Option.bind_some]

theorem eq_OpS (x : List (D_Op)) (hx : cnt (.sl T_Op) x ≤ 1048576) : c_laws_eqOpS R x x = some (true, ()) := by
  have hq : c_laws_eqOpS R x x = _ := call (q_laws_eqOpS R L x x)
  have hc : cnt (.sl T_Op) x = x.length + (x.map (cnt T_Op)).sum := rfl
  rw [hq]
  simp only [eqI_iff, decide_true, Bool.not_true, cond_false]
  refine gen_eq (fun i => lp_laws_eqOpS_0 R L x x false i) x ?_ (fun i hlt => ?_) _ 0 rfl (Nat.zero_le _)
  · have hq : lp_laws_eqOpS_0 R L x x false (x.length : Nat) = _ := round (by kernel_rfl) (q_laws_eqOpS_0 R L x x false (x.length : Nat))
    show lp_laws_eqOpS_0 R L x x false (x.length : Nat) = _
    rw [hq, lt_f (Nat.le_refl _)]; rfl
  · have hq : lp_laws_eqOpS_0 R L x x false i = _ := round (by kernel_rfl) (q_laws_eqOpS_0 R L x x false i)
    show lp_laws_eqOpS_0 R L x x false i = _
    rw [hq, lt_t hlt, nn, tn, blt_t hlt, wrap_succ (i := i) (by omega)]
    have hm : cnt T_Op (x.getD i ((0 : Int), ((0 : Int), ((0 : Int), ())))) ≤ cnt (.sl T_Op) x := cnt_mem (t := T_Op) (x := x) (d := ((0 : Int), ((0 : Int), ((0 : Int), ())))) hlt
    simp only [cond_true]
    rw [eq_Op _ (by omega)]
    simp only [Option.bind_some, Bool.not_true, cond_false]

theorem eq_Txn (x : D_Txn) (hx : cnt T_Txn x ≤ 1048576) : c_laws_eqTxn R x x = some (true, ()) := by
  have hq : c_laws_eqTxn R x x = _ := call (q_laws_eqTxn R L x x)
  have hc : cnt T_Txn x = (cnt (.sl T_Op) x.1 + (0)) := rfl
  have e1 := eq_OpS x.1 (by omega)
  rw [hq]
  simp only [eqI_iff, eqS_iff, eqB, decide_true, Bool.not_true, cond_false, Option.bind_some, e1]

theorem eq_TxnS (x : List (D_Txn)) (hx : cnt (.sl T_Txn) x ≤ 1048576) : c_laws_eqTxnS R x x = some (true, ()) := by
  have hq : c_laws_eqTxnS R x x = _ := call (q_laws_eqTxnS R L x x)
  have hc : cnt (.sl T_Txn) x = x.length + (x.map (cnt T_Txn)).sum := rfl
  rw [hq]
  simp only [eqI_iff, decide_true, Bool.not_true, cond_false]
  refine gen_eq (fun i => lp_laws_eqTxnS_0 R L x x false i) x ?_ (fun i hlt => ?_) _ 0 rfl (Nat.zero_le _)
  · have hq : lp_laws_eqTxnS_0 R L x x false (x.length : Nat) = _ := round (by kernel_rfl) (q_laws_eqTxnS_0 R L x x false (x.length : Nat))
    show lp_laws_eqTxnS_0 R L x x false (x.length : Nat) = _
    rw [hq, lt_f (Nat.le_refl _)]; rfl
  · have hq : lp_laws_eqTxnS_0 R L x x false i = _ := round (by kernel_rfl) (q_laws_eqTxnS_0 R L x x false i)
    show lp_laws_eqTxnS_0 R L x x false i = _
    rw [hq, lt_t hlt, nn, tn, blt_t hlt, wrap_succ (i := i) (by omega)]
    have hm : cnt T_Txn (x.getD i (([] : List (D_Op)), ())) ≤ cnt (.sl T_Txn) x := cnt_mem (t := T_Txn) (x := x) (d := (([] : List (D_Op)), ())) hlt
    simp only [cond_true]
    rw [eq_Txn _ (by omega)]
    simp only [Option.bind_some, Bool.not_true, cond_false]

theorem mark_EntryS (x : List (D_Entry)) (k : Nat) (hl : lens (.sl T_Entry) x ≤ 4611686018427387904) (h : k + nmk false (.sl T_Entry) x ≤ 4611686018427387904) : c_laws_markEntryS R x k = some ((((mk_ mt false (.sl T_Entry) x k).2 : Nat) : Int), ((mk_ mt false (.sl T_Entry) x k).1, ())) := by
  have hq : c_laws_markEntryS R x k = _ := call (q_laws_markEntryS R L x k)
  have hc : nmk false (.sl T_Entry) x = (x.map (nmk true T_Entry)).sum := rfl
  have hn : lens (.sl T_Entry) x = x.length + (x.map (lens T_Entry)).sum := rfl
  have e := gen_mark (fun w k i => lp_laws_markEntryS_0 R L w k 0 i) x.length ((0 : Int), ((0 : Int), ())) (mk_ mt true T_Entry) (nmk true T_Entry) 4611686018427387904 (mk_snd mt true T_Entry) (fun y => lens T_Entry y ≤ 4611686018427387904) (fun w k hw => by
    have hq : lp_laws_markEntryS_0 R L w k 0 (x.length : Nat) = _ := round (by kernel_rfl) (q_laws_markEntryS_0 R L w k 0 (x.length : Nat))
    show lp_laws_markEntryS_0 R L w k 0 (x.length : Nat) = _
    rw [hq, lt_f (by omega)]; rfl) (fun w k i hw hlt hb hQ => by
    have hlt : i < w.length := by omega
    have hq : lp_laws_markEntryS_0 R L w k 0 i = _ := round (by kernel_rfl) (q_laws_markEntryS_0 R L w k 0 i)
    show lp_laws_markEntryS_0 R L w k 0 i = _
    have hQ : (0 + (0 + (0))) ≤ 4611686018427387904 := hQ
    have hb : k + (1 + (1 + (0))) ≤ 4611686018427387904 := hb
    have f1 := wrap_succ (i := k) (by omega)
    have f2 := wrap_succ (i := k + 1) (by omega)
    have fi := wrap_succ (i := i) (by omega)
    rw [hq, lt_t hlt]
    simp only [nn, tn, blt_t hlt, cond_true, List.length_set, ss, gs hlt, fi, Option.bind_some, f1, f2]
    rfl) _ 0 x k rfl (Nat.zero_le _) rfl (by rw [List.drop_zero]; exact h) (by rw [List.drop_zero]; exact fun y hy => Nat.le_trans (lens_in (t := T_Entry) hy) hl)
  rw [hq]
  exact e

theorem mark_OpS (x : List (D_Op)) (k : Nat) (hl : lens (.sl T_Op) x ≤ 4611686018427387904) (h : k + nmk false (.sl T_Op) x ≤ 4611686018427387904) : c_laws_markOpS R x k = some ((((mk_ mt false (.sl T_Op) x k).2 : Nat) : Int), ((mk_ mt false (.sl T_Op) x k).1, ())) := by
  have hq : c_laws_markOpS R x k = _ := call (q_laws_markOpS R L x k)
  have hc : nmk false (.sl T_Op) x = (x.map (nmk true T_Op)).sum := rfl
  have hn : lens (.sl T_Op) x = x.length + (x.map (lens T_Op)).sum := rfl
  have e := gen_mark (fun w k i => lp_laws_markOpS_0 R L w k 0 i) x.length ((0 : Int), ((0 : Int), ((0 : Int), ()))) (mk_ mt true T_Op) (nmk true T_Op) 4611686018427387904 (mk_snd mt true T_Op) (fun y => lens T_Op y ≤ 4611686018427387904) (fun w k hw => by
    have hq : lp_laws_markOpS_0 R L w k 0 (x.length : Nat) = _ := round (by kernel_rfl) (q_laws_markOpS_0 R L w k 0 (x.length : Nat))
    show lp_laws_markOpS_0 R L w k 0 (x.length : Nat) = _
    rw [hq, lt_f (by omega)]; rfl) (fun w k i hw hlt hb hQ => by
    have hlt : i < w.length := by omega
    have hq : lp_laws_markOpS_0 R L w k 0 i = _ := round (by kernel_rfl) (q_laws_markOpS_0 R L w k 0 i)
    show lp_laws_markOpS_0 R L w k 0 i = _
    have hQ : (0 + (0 + (0 + (0)))) ≤ 4611686018427387904 := hQ
    have hb : k + (1 + (1 + (1 + (0)))) ≤ 4611686018427387904 := hb
    have f1 := wrap_succ (i := k) (by omega)
    have f2 := wrap_succ (i := k + 1) (by omega)
    have f3 := wrap_succ (i := k + 1 + 1) (by omega)
    have fi := wrap_succ (i := i) (by omega)
    rw [hq, lt_t hlt]
    simp only [nn, tn, blt_t hlt, cond_true, List.length_set, ss, gs hlt, fi, Option.bind_some, f1, f2, f3]
    rfl) _ 0 x k rfl (Nat.zero_le _) rfl (by rw [List.drop_zero]; exact h) (by rw [List.drop_zero]; exact fun y hy => Nat.le_trans (lens_in (t := T_Op) hy) hl)
  rw [hq]
  exact e

theorem mark_TxnS (x : List (D_Txn)) (k : Nat) (hl : lens (.sl T_Txn) x ≤ 4611686018427387904) (h : k + nmk false (.sl T_Txn) x ≤ 4611686018427387904) : c_laws_markTxnS R x k = some ((((mk_ mt false (.sl T_Txn) x k).2 : Nat) : Int), ((mk_ mt false (.sl T_Txn) x k).1, ())) := by
  have hq : c_laws_markTxnS R x k = _ := call (q_laws_markTxnS R L x k)
  have hc : nmk false (.sl T_Txn) x = (x.map (nmk true T_Txn)).sum := rfl
  have hn : lens (.sl T_Txn) x = x.length + (x.map (lens T_Txn)).sum := rfl
  have e := gen_mark (fun w k i => lp_laws_markTxnS_0 R L w k 0 i) x.length (([] : List (D_Op)), ()) (mk_ mt true T_Txn) (nmk true T_Txn) 4611686018427387904 (mk_snd mt true T_Txn) (fun y => lens T_Txn y ≤ 4611686018427387904) (fun w k hw => by
    have hq : lp_laws_markTxnS_0 R L w k 0 (x.length : Nat) = _ := round (by kernel_rfl) (q_laws_markTxnS_0 R L w k 0 (x.length : Nat))
    show lp_laws_markTxnS_0 R L w k 0 (x.length : Nat) = _
    rw [hq, lt_f (by omega)]; rfl) (fun w k i hw hlt hb hQ => by
    have hlt : i < w.length := by omega
    have hq : lp_laws_markTxnS_0 R L w k 0 i = _ := round (by kernel_rfl) (q_laws_markTxnS_0 R L w k 0 i)
    show lp_laws_markTxnS_0 R L w k 0 i = _
    have hQ : (lens (.sl T_Op) (w.getD i (([] : List (D_Op)), ())).1 + (0)) ≤ 4611686018427387904 := hQ
    have hb : k + (nmk true (.sl T_Op) (w.getD i (([] : List (D_Op)), ())).1 + (0)) ≤ 4611686018427387904 := hb
    have f1 := mark_OpS (w.getD i (([] : List (D_Op)), ())).1 (k) (by first | exact hQ | omega) (by show _ + nmk true (.sl T_Op) _ ≤ _; first | exact hb | omega)
    have f2 := mk_snd mt true (.sl T_Op) (w.getD i (([] : List (D_Op)), ())).1 (k)
    have fi := wrap_succ (i := i) (by omega)
    rw [hq, lt_t hlt]
    simp only [nn, tn, blt_t hlt, cond_true, List.length_set, ss, gs hlt, fi, Option.bind_some, f1]
    rfl) _ 0 x k rfl (Nat.zero_le _) rfl (by rw [List.drop_zero]; exact h) (by rw [List.drop_zero]; exact fun y hy => Nat.le_trans (lens_in (t := T_Txn) hy) hl)
  rw [hq]
  exact e

theorem mark_IntS (x : List (Int)) (k : Nat) (hl : lens (.sl (.int .i64)) x ≤ 4611686018427387904) (h : k + nmk false (.sl (.int .i64)) x ≤ 4611686018427387904) : c_laws_markIntS R x k = some ((((mk_ mt false (.sl (.int .i64)) x k).2 : Nat) : Int), ((mk_ mt false (.sl (.int .i64)) x k).1, ())) := by
  have hq : c_laws_markIntS R x k = _ := call (q_laws_markIntS R L x k)
  have hc : nmk false (.sl (.int .i64)) x = (x.map (nmk true (.int .i64))).sum := rfl
  have hn : lens (.sl (.int .i64)) x = x.length + (x.map (lens (.int .i64))).sum := rfl
  have e := gen_mark (fun w k i => lp_laws_markIntS_0 R L w k 0 i) x.length (0 : Int) (mk_ mt true (.int .i64)) (nmk true (.int .i64)) 4611686018427387904 (mk_snd mt true (.int .i64)) (fun y => lens (.int .i64) y ≤ 4611686018427387904) (fun w k hw => by
    have hq : lp_laws_markIntS_0 R L w k 0 (x.length : Nat) = _ := round (by kernel_rfl) (q_laws_markIntS_0 R L w k 0 (x.length : Nat))
    show lp_laws_markIntS_0 R L w k 0 (x.length : Nat) = _
    rw [hq, lt_f (by omega)]; rfl) (fun w k i hw hlt hb hQ => by
    have hlt : i < w.length := by omega
    have hq : lp_laws_markIntS_0 R L w k 0 i = _ := round (by kernel_rfl) (q_laws_markIntS_0 R L w k 0 i)
    show lp_laws_markIntS_0 R L w k 0 i = _
    have hb : k + 1 ≤ 4611686018427387904 := hb
    have f1 := wrap_succ (i := k) (by omega)
    have fi := wrap_succ (i := i) (by omega)
    rw [hq, lt_t hlt]
    simp only [nn, tn, blt_t hlt, cond_true, List.length_set, ss, gs hlt, fi, Option.bind_some, f1]
    rfl) _ 0 x k rfl (Nat.zero_le _) rfl (by rw [List.drop_zero]; exact h) (by rw [List.drop_zero]; exact fun y hy => Nat.le_trans (lens_in (t := (.int .i64)) hy) hl)
  rw [hq]
  exact e

theorem mark_ResultS (x : List (D_Result)) (k : Nat) (hl : lens (.sl T_Result) x ≤ 4611686018427387904) (h : k + nmk false (.sl T_Result) x ≤ 4611686018427387904) : c_laws_markResultS R x k = some ((((mk_ mt false (.sl T_Result) x k).2 : Nat) : Int), ((mk_ mt false (.sl T_Result) x k).1, ())) := by
  have hq : c_laws_markResultS R x k = _ := call (q_laws_markResultS R L x k)
  have hc : nmk false (.sl T_Result) x = (x.map (nmk true T_Result)).sum := rfl
  have hn : lens (.sl T_Result) x = x.length + (x.map (lens T_Result)).sum := rfl
  have e := gen_mark (fun w k i => lp_laws_markResultS_0 R L w k 0 i) x.length ((0 : Int), (([] : List (Int)), ())) (mk_ mt true T_Result) (nmk true T_Result) 4611686018427387904 (mk_snd mt true T_Result) (fun y => lens T_Result y ≤ 4611686018427387904) (fun w k hw => by
    have hq : lp_laws_markResultS_0 R L w k 0 (x.length : Nat) = _ := round (by kernel_rfl) (q_laws_markResultS_0 R L w k 0 (x.length : Nat))
    show lp_laws_markResultS_0 R L w k 0 (x.length : Nat) = _
    rw [hq, lt_f (by omega)]; rfl) (fun w k i hw hlt hb hQ => by
    have hlt : i < w.length := by omega
    have hq : lp_laws_markResultS_0 R L w k 0 i = _ := round (by kernel_rfl) (q_laws_markResultS_0 R L w k 0 i)
    show lp_laws_markResultS_0 R L w k 0 i = _
    have hQ : (0 + (lens (.sl (.int .i64)) (w.getD i ((0 : Int), (([] : List (Int)), ()))).2.1 + (0))) ≤ 4611686018427387904 := hQ
    have hb : k + (1 + (nmk true (.sl (.int .i64)) (w.getD i ((0 : Int), (([] : List (Int)), ()))).2.1 + (0))) ≤ 4611686018427387904 := hb
    have f1 := wrap_succ (i := k) (by omega)
    have f2 := mark_IntS (w.getD i ((0 : Int), (([] : List (Int)), ()))).2.1 (k + 1) (by first | exact hQ | omega) (by show _ + nmk true (.sl (.int .i64)) _ ≤ _; first | exact hb | omega)
    have f3 := mk_snd mt true (.sl (.int .i64)) (w.getD i ((0 : Int), (([] : List (Int)), ()))).2.1 (k + 1)
    have fi := wrap_succ (i := i) (by omega)
    rw [hq, lt_t hlt]
    simp only [nn, tn, blt_t hlt, cond_true, List.length_set, ss, gs hlt, fi, Option.bind_some, f1, f2]
    rfl) _ 0 x k rfl (Nat.zero_le _) rfl (by rw [List.drop_zero]; exact h) (by rw [List.drop_zero]; exact fun y hy => Nat.le_trans (lens_in (t := T_Result) hy) hl)
  rw [hq]
  exact e

theorem held_EntryS (x : List (D_Entry)) (k k' : Nat) (hl : lens (.sl T_Entry) x ≤ 4611686018427387904) (h : k' ≤ 4611686018427387904) (hh : hd_ mt false (.sl T_Entry) x k = some k') : c_laws_heldEntryS R x k = some ((k' : Int), ()) := by
  have hq : c_laws_heldEntryS R x k = _ := call (q_laws_heldEntryS R L x k)
  have hn : lens (.sl T_Entry) x = x.length + (x.map (lens T_Entry)).sum := rfl
  have e := gen_held (fun k i => lp_laws_heldEntryS_0 R L x k 0 i) x ((0 : Int), ((0 : Int), ())) (hd_ mt true T_Entry) (nmk true T_Entry) 4611686018427387904 (hd_len mt true T_Entry) (fun k => by
    have hq : lp_laws_heldEntryS_0 R L x k 0 (x.length : Nat) = _ := round (by kernel_rfl) (q_laws_heldEntryS_0 R L x k 0 (x.length : Nat))
    show lp_laws_heldEntryS_0 R L x k 0 (x.length : Nat) = _
    rw [hq, lt_f (Nat.le_refl _)]; rfl) (fun k i k' hlt hh hb => by
    have hq : lp_laws_heldEntryS_0 R L x k 0 i = _ := round (by kernel_rfl) (q_laws_heldEntryS_0 R L x k 0 i)
    show lp_laws_heldEntryS_0 R L x k 0 i = _
    have hm : lens T_Entry (x.getD i ((0 : Int), ((0 : Int), ()))) ≤ lens (.sl T_Entry) x := lens_mem (t := T_Entry) (x := x) (d := ((0 : Int), ((0 : Int), ()))) hlt
    have fi := wrap_succ (i := i) (by omega)
    have hm : (0 + (0 + (0))) ≤ _ := hm
    obtain ⟨g1, hh⟩ := bind_cond hh
    have g1 : eqI (x.getD i ((0 : Int), ((0 : Int), ()))).1 ((k : Nat) : Int) = true := g1
    obtain ⟨g2, hh⟩ := bind_cond hh
    have g2 : eqI (x.getD i ((0 : Int), ((0 : Int), ()))).2.1 ((k + 1 : Nat) : Int) = true := g2
    have hh : some (k + 1 + 1) = some k' := hh
    injection hh with hh
    have w1 := wrap_succ (i := k) (by omega)
    have w2 := wrap_succ (i := k + 1) (by omega)
    rw [hq, lt_t hlt]
    simp only [nn, tn, blt_t hlt, cond_true, fi, Option.bind_some, nlt0, cond_false, Bool.not_true, g1, w1, g2, w2]
    rw [← hh]) _ 0 k k' rfl (Nat.zero_le _) h (by rw [List.drop_zero]; exact hh)
  rw [hq]
  exact e

theorem held_IntS (x : List (Int)) (k k' : Nat) (hl : lens (.sl (.int .i64)) x ≤ 4611686018427387904) (h : k' ≤ 4611686018427387904) (hh : hd_ mt false (.sl (.int .i64)) x k = some k') : c_laws_heldIntS R x k = some ((k' : Int), ()) := by
  have hq : c_laws_heldIntS R x k = _ := call (q_laws_heldIntS R L x k)
  have hn : lens (.sl (.int .i64)) x = x.length + (x.map (lens (.int .i64))).sum := rfl
  have e := gen_held (fun k i => lp_laws_heldIntS_0 R L x k 0 i) x (0 : Int) (hd_ mt true (.int .i64)) (nmk true (.int .i64)) 4611686018427387904 (hd_len mt true (.int .i64)) (fun k => by
    have hq : lp_laws_heldIntS_0 R L x k 0 (x.length : Nat) = _ := round (by kernel_rfl) (q_laws_heldIntS_0 R L x k 0 (x.length : Nat))
    show lp_laws_heldIntS_0 R L x k 0 (x.length : Nat) = _
    rw [hq, lt_f (Nat.le_refl _)]; rfl) (fun k i k' hlt hh hb => by
    have hq : lp_laws_heldIntS_0 R L x k 0 i = _ := round (by kernel_rfl) (q_laws_heldIntS_0 R L x k 0 i)
    show lp_laws_heldIntS_0 R L x k 0 i = _
    have hm : lens (.int .i64) (x.getD i (0 : Int)) ≤ lens (.sl (.int .i64)) x := lens_mem (t := (.int .i64)) (x := x) (d := (0 : Int)) hlt
    have fi := wrap_succ (i := i) (by omega)
    obtain ⟨g1, hh⟩ := cond_none hh
    have g1 : eqI (x.getD i (0 : Int)) ((k : Nat) : Int) = true := g1
    injection hh with hh
    have w1 := wrap_succ (i := k) (by omega)
    rw [hq, lt_t hlt]
    simp only [nn, tn, blt_t hlt, cond_true, fi, Option.bind_some, nlt0, cond_false, Bool.not_true, g1, w1]
    rw [← hh]) _ 0 k k' rfl (Nat.zero_le _) h (by rw [List.drop_zero]; exact hh)
  rw [hq]
  exact e

theorem held_ResultS (x : List (D_Result)) (k k' : Nat) (hl : lens (.sl T_Result) x ≤ 4611686018427387904) (h : k' ≤ 4611686018427387904) (hh : hd_ mt false (.sl T_Result) x k = some k') : c_laws_heldResultS R x k = some ((k' : Int), ()) := by
  have hq : c_laws_heldResultS R x k = _ := call (q_laws_heldResultS R L x k)
  have hn : lens (.sl T_Result) x = x.length + (x.map (lens T_Result)).sum := rfl
  have e := gen_held (fun k i => lp_laws_heldResultS_0 R L x k 0 i) x ((0 : Int), (([] : List (Int)), ())) (hd_ mt true T_Result) (nmk true T_Result) 4611686018427387904 (hd_len mt true T_Result) (fun k => by
    have hq : lp_laws_heldResultS_0 R L x k 0 (x.length : Nat) = _ := round (by kernel_rfl) (q_laws_heldResultS_0 R L x k 0 (x.length : Nat))
    show lp_laws_heldResultS_0 R L x k 0 (x.length : Nat) = _
    rw [hq, lt_f (Nat.le_refl _)]; rfl) (fun k i k' hlt hh hb => by
    have hq : lp_laws_heldResultS_0 R L x k 0 i = _ := round (by kernel_rfl) (q_laws_heldResultS_0 R L x k 0 i)
    show lp_laws_heldResultS_0 R L x k 0 i = _
    have hm : lens T_Result (x.getD i ((0 : Int), (([] : List (Int)), ()))) ≤ lens (.sl T_Result) x := lens_mem (t := T_Result) (x := x) (d := ((0 : Int), (([] : List (Int)), ()))) hlt
    have fi := wrap_succ (i := i) (by omega)
    have hm : (0 + (lens (.sl (.int .i64)) (x.getD i ((0 : Int), (([] : List (Int)), ()))).2.1 + (0))) ≤ _ := hm
    obtain ⟨g1, hh⟩ := bind_cond hh
    have g1 : eqI (x.getD i ((0 : Int), (([] : List (Int)), ()))).1 ((k : Nat) : Int) = true := g1
    obtain ⟨k2, g2, hh⟩ := Option.bind_eq_some_iff.1 hh
    have s2 := hd_len mt true _ _ _ _ g2
    have hh : some (k2) = some k' := hh
    injection hh with hh
    have w1 := wrap_succ (i := k) (by omega)
    have q2 := held_IntS (x.getD i ((0 : Int), (([] : List (Int)), ()))).2.1 (k + 1) k2 (by omega) (by omega) g2
    rw [hq, lt_t hlt]
    simp only [nn, tn, blt_t hlt, cond_true, fi, Option.bind_some, nlt0, cond_false, Bool.not_true, g1, w1, q2]
    rw [← hh]) _ 0 k k' rfl (Nat.zero_le _) h (by rw [List.drop_zero]; exact hh)
  rw [hq]
  exact e

abbrev n_impl_areAll_impl_Txn__1 : FuncId := 51
theorem cv_impl_areAll_impl_Txn__1 (R : Run EE) (s0 : D_Txn) (a0 : FnVal) : callVB EE R (.mk 51 (.fn a0 .nil)) [⟨T_Txn, s0⟩] = (c_impl_areAll_impl_Txn__1 R s0 a0).map (·.1) := by kernel_rfl

abbrev n_impl_areAll_impl_Op__1 : FuncId := 61
theorem cv_impl_areAll_impl_Op__1 (R : Run EE) (s0 : D_Op) (a0 : FnVal) : callVB EE R (.mk 61 (.fn a0 .nil)) [⟨T_Op, s0⟩] = (c_impl_areAll_impl_Op__1 R s0 a0).map (·.1) := by kernel_rfl

abbrev n_impl_OpOK : FuncId := 53
theorem cv_impl_OpOK (R : Run EE) (s0 : D_Op)  : callVB EE R (.mk 53 .nil) [⟨T_Op, s0⟩] = (c_impl_OpOK R s0 ).map (·.1) := by kernel_rfl

abbrev n_impl_isTxn : FuncId := 43
theorem cv_impl_isTxn (R : Run EE) (s0 : D_Txn)  : callVB EE R (.mk 43 .nil) [⟨T_Txn, s0⟩] = (c_impl_isTxn R s0 ).map (·.1) := by kernel_rfl

abbrev n_impl_find_1 : FuncId := 69
theorem cv_impl_find_1 (R : Run EE) (s0 : D_Entry) (s1 : Int)  : callVI EE R (.mk 69 .nil) [⟨T_Entry, s0⟩, ⟨(.int .i64), s1⟩] = (c_impl_find_1 R s0 s1 ).map (·.1) := by kernel_rfl

theorem idx_slices_IndexFunc___impl_Txn_impl_Txn_ (x : List (D_Txn)) (w : FnVal) (p : D_Txn → Bool) (hl : x.length ≤ 4611686018427387904) (hp : ∀ s ∈ x, callVB EE R w [⟨T_Txn, s⟩] = some (p s)) : c_slices_IndexFunc___impl_Txn_impl_Txn_ R x w = some (idxF p x 0, ()) := by
  have hq : c_slices_IndexFunc___impl_Txn_impl_Txn_ R x w = _ := call (q_slices_IndexFunc___impl_Txn_impl_Txn_ R L x w)
  have hq0 : lp_slices_IndexFunc___impl_Txn_impl_Txn__0 R L x w 0 x.length 0 = _ := round (by kernel_rfl) (q_slices_IndexFunc___impl_Txn_impl_Txn__0 R L x w 0 x.length 0)
  have hq1 : lp_slices_IndexFunc___impl_Txn_impl_Txn__1 R L x w 0 0 x.length 0 = _ := round (by kernel_rfl) (q_slices_IndexFunc___impl_Txn_impl_Txn__1 R L x w 0 0 x.length 0)
  rw [hq, hq0.trans hq1.symm]
  refine gen_idx (fun a i => lp_slices_IndexFunc___impl_Txn_impl_Txn__1 R L x w 0 a x.length i) x (([] : List (D_Op)), ()) p (fun a => ?_) (fun a i hlt => ?_) _ 0 0 rfl (Nat.zero_le _)
  · have hq : lp_slices_IndexFunc___impl_Txn_impl_Txn__1 R L x w 0 a x.length (x.length : Nat) = _ := round (by kernel_rfl) (q_slices_IndexFunc___impl_Txn_impl_Txn__1 R L x w 0 a x.length (x.length : Nat))
    show lp_slices_IndexFunc___impl_Txn_impl_Txn__1 R L x w 0 a x.length (x.length : Nat) = _
    rw [hq, lt_f (Nat.le_refl _)]; rfl
  · have hq : lp_slices_IndexFunc___impl_Txn_impl_Txn__1 R L x w 0 a x.length i = _ := round (by kernel_rfl) (q_slices_IndexFunc___impl_Txn_impl_Txn__1 R L x w 0 a x.length i)
    show lp_slices_IndexFunc___impl_Txn_impl_Txn__1 R L x w 0 a x.length i = _
    rw [hq, lt_t hlt, nn, tn, blt_t hlt, wrap_succ (by omega)]
    simp only [cond_true]
    rw [hp _ (getD_mem (d := (([] : List (D_Op)), ())) hlt)]
    rfl

theorem idx_slices_IndexFunc___impl_Op_impl_Op_ (x : List (D_Op)) (w : FnVal) (p : D_Op → Bool) (hl : x.length ≤ 4611686018427387904) (hp : ∀ s ∈ x, callVB EE R w [⟨T_Op, s⟩] = some (p s)) : c_slices_IndexFunc___impl_Op_impl_Op_ R x w = some (idxF p x 0, ()) := by
  have hq : c_slices_IndexFunc___impl_Op_impl_Op_ R x w = _ := call (q_slices_IndexFunc___impl_Op_impl_Op_ R L x w)
  have hq0 : lp_slices_IndexFunc___impl_Op_impl_Op__0 R L x w 0 x.length 0 = _ := round (by kernel_rfl) (q_slices_IndexFunc___impl_Op_impl_Op__0 R L x w 0 x.length 0)
  have hq1 : lp_slices_IndexFunc___impl_Op_impl_Op__1 R L x w 0 0 x.length 0 = _ := round (by kernel_rfl) (q_slices_IndexFunc___impl_Op_impl_Op__1 R L x w 0 0 x.length 0)
  rw [hq, hq0.trans hq1.symm]
  refine gen_idx (fun a i => lp_slices_IndexFunc___impl_Op_impl_Op__1 R L x w 0 a x.length i) x ((0 : Int), ((0 : Int), ((0 : Int), ()))) p (fun a => ?_) (fun a i hlt => ?_) _ 0 0 rfl (Nat.zero_le _)
  · have hq : lp_slices_IndexFunc___impl_Op_impl_Op__1 R L x w 0 a x.length (x.length : Nat) = _ := round (by kernel_rfl) (q_slices_IndexFunc___impl_Op_impl_Op__1 R L x w 0 a x.length (x.length : Nat))
    show lp_slices_IndexFunc___impl_Op_impl_Op__1 R L x w 0 a x.length (x.length : Nat) = _
    rw [hq, lt_f (Nat.le_refl _)]; rfl
  · have hq : lp_slices_IndexFunc___impl_Op_impl_Op__1 R L x w 0 a x.length i = _ := round (by kernel_rfl) (q_slices_IndexFunc___impl_Op_impl_Op__1 R L x w 0 a x.length i)
    show lp_slices_IndexFunc___impl_Op_impl_Op__1 R L x w 0 a x.length i = _
    rw [hq, lt_t hlt, nn, tn, blt_t hlt, wrap_succ (by omega)]
    simp only [cond_true]
    rw [hp _ (getD_mem (d := ((0 : Int), ((0 : Int), ((0 : Int), ())))) hlt)]
    rfl

theorem any_slices_ContainsFunc___impl_Txn_impl_Txn_ (x : List (D_Txn)) (w : FnVal) (p : D_Txn → Bool) (hl : x.length ≤ 4611686018427387904) (hp : ∀ s ∈ x, callVB EE R w [⟨T_Txn, s⟩] = some (p s)) : c_slices_ContainsFunc___impl_Txn_impl_Txn_ R x w = some (x.any p, ()) := by
  have hq : c_slices_ContainsFunc___impl_Txn_impl_Txn_ R x w = _ := call (q_slices_ContainsFunc___impl_Txn_impl_Txn_ R L x w)
  rw [hq, idx_slices_IndexFunc___impl_Txn_impl_Txn_ x w p hl hp]
  simp only [Option.bind_some]
  rw [idxF_any]

theorem any_slices_ContainsFunc___impl_Op_impl_Op_ (x : List (D_Op)) (w : FnVal) (p : D_Op → Bool) (hl : x.length ≤ 4611686018427387904) (hp : ∀ s ∈ x, callVB EE R w [⟨T_Op, s⟩] = some (p s)) : c_slices_ContainsFunc___impl_Op_impl_Op_ R x w = some (x.any p, ()) := by
  have hq : c_slices_ContainsFunc___impl_Op_impl_Op_ R x w = _ := call (q_slices_ContainsFunc___impl_Op_impl_Op_ R L x w)
  rw [hq, idx_slices_IndexFunc___impl_Op_impl_Op_ x w p hl hp]
  simp only [Option.bind_some]
  rw [idxF_any]

theorem all_impl_areAll_impl_Txn_ (x : List (D_Txn)) (v : FnVal) (p : D_Txn → Bool) (hl : x.length ≤ 4611686018427387904) (hp : ∀ s ∈ x, callVB EE R v [⟨T_Txn, s⟩] = some (p s)) : c_impl_areAll_impl_Txn_ R x v = some (x.all p, ()) := by
  have hq : c_impl_areAll_impl_Txn_ R x v = _ := call (q_impl_areAll_impl_Txn_ R L x v)
  rw [hq, any_slices_ContainsFunc___impl_Txn_impl_Txn_ x (.mk 51 (.fn v .nil)) (fun s => !p s) hl (fun s hs => by
    have h1 : c_impl_areAll_impl_Txn__1 R s v = _ := call (q_impl_areAll_impl_Txn__1 R L s v)
    rw [cv_impl_areAll_impl_Txn__1, h1, hp s hs]; rfl)]
  simp only [Option.bind_some]
  rw [all_any]

theorem all_impl_areAll_impl_Op_ (x : List (D_Op)) (v : FnVal) (p : D_Op → Bool) (hl : x.length ≤ 4611686018427387904) (hp : ∀ s ∈ x, callVB EE R v [⟨T_Op, s⟩] = some (p s)) : c_impl_areAll_impl_Op_ R x v = some (x.all p, ()) := by
  have hq : c_impl_areAll_impl_Op_ R x v = _ := call (q_impl_areAll_impl_Op_ R L x v)
  rw [hq, any_slices_ContainsFunc___impl_Op_impl_Op_ x (.mk 61 (.fn v .nil)) (fun s => !p s) hl (fun s hs => by
    have h1 : c_impl_areAll_impl_Op__1 R s v = _ := call (q_impl_areAll_impl_Op__1 R L s v)
    rw [cv_impl_areAll_impl_Op__1, h1, hp s hs]; rfl)]
  simp only [Option.bind_some]
  rw [all_any]

end Go.Rf.S
