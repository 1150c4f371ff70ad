import Derived.Test.YtkiejckaaipdkaaGreatDoorWli5
import Derived.Test.YtkiejckaaipdkaaGreatDoorRfD
import Derived.Test.YtkiejckaaipdkaaGreatDoorWli4
set_option linter.unusedVariables false
set_option linter.unusedSimpArgs false
namespace Go.Rf.S
set_option maxRecDepth 100000
set_option linter.unusedVariables false
set_option linter.unusedSimpArgs false

instance laid : Laid := ⟨[(0, (Go.Lib.pow10Tab.map fun z => Value.int .u64 z).toArray)]⟩
noncomputable def X : (f : FuncId) → Option (List Dyn → Option (EE.cfg f).rt.D)
  | 79 => some itoaH
  | 128 => some joinH
  | _ => none
theorem run_x {f : FuncId} {h : List Dyn → Option (EE.cfg f).rt.D} (hX : X f = some h) (ds : List Dyn) : run X f ds = h ds := by
  rw [run_eq]; unfold nextR; rw [hX]
noncomputable abbrev R : Run EE := run X
noncomputable abbrev L : Loops := lps X

theorem call {f : FuncId} {ds : List Dyn} {r : Option (EE.cfg f).rt.D} (h : bodyK EE R L f ds = r) (hX : X f = none := by rfl) : R f ds = r := (run_fn X hX ds).trans h
theorem round {f : FuncId} {fn : Func} {p : List Nat} {σ : List SV} {r : Option (EE.cfg f).rt.D} (h : (okPath (codeOf fn) p && !unkOK (EE.cfg f).keep) = true) (q : from_ EE R L f fn (p ++ [0]) σ = r) : from_ EE R L f fn p σ = r := (from_loop h).trans q

/-! marks -/
theorem mark_text_loop : ∀ (n m : Nat) (v2 v3 : List UInt8), v3.length + n ≤ 1048576 → m < 10 ^ n → m ≤ 4611686018427387904 → ∃ t, lp_laws_markText_0 R L m v2 v3 = some (t, ())
  | 0, m, v2, v3, hl, hm, hb => by
    have hq : lp_laws_markText_0 R L m v2 v3 = _ := round (by kernel_rfl) (q_laws_markText_0 R L m v2 v3)
    have hm : m = 0 := by simpa using hm
    rw [hq, show decide ((0 : Int) < (m : Int)) = false from decide_eq_false (by omega)]
    simp only [cond_false]
    rw [lenOK_t (by simp only [List.length_cons, List.length_nil]; omega)]
    exact ⟨_, rfl⟩
  | n + 1, m, v2, v3, hl, hm, hb => by
    have hq : lp_laws_markText_0 R L m v2 v3 = _ := round (by kernel_rfl) (q_laws_markText_0 R L m v2 v3)
    by_cases h0 : m = 0
    · rw [hq, show decide ((0 : Int) < (m : Int)) = false from decide_eq_false (by omega)]
      simp only [cond_false]
      rw [lenOK_t (by simp only [List.length_cons, List.length_nil]; omega)]
      exact ⟨_, rfl⟩
    · rw [hq, show decide ((0 : Int) < (m : Int)) = true from decide_eq_true (by omega), lenOK_t (by simp only [List.length_map, List.length_cons, List.length_nil]; omega)]
      simp only [cond_true]
      rw [show Int.tdiv (m : Int) 10 = ((m / 10 : Nat) : Int) from rfl, wrap_id (n := ((m / 10 : Nat) : Int)) (by omega) (by omega)]
      exact mark_text_loop n (m / 10) v2 _ (by simp only [List.length_append, List.length_map, List.length_cons, List.length_nil]; omega) (by rw [Nat.pow_succ] at hm; omega) (by omega)
theorem mark_text_ex (m : Nat) (h : m ≤ 4611686018427387904) : ∃ t, c_laws_markText R m = some (t, ()) := by
  have hq : c_laws_markText R m = _ := call (q_laws_markText R L m)
  rw [hq]
  by_cases h0 : m = 0
  · rw [show decide ((m : Int) ≤ (0 : Int)) = true from decide_eq_true (by omega)]; exact ⟨_, rfl⟩
  · rw [show decide ((m : Int) ≤ (0 : Int)) = false from decide_eq_false (by omega)]
    exact mark_text_loop 19 m [] [] (by simp) (Nat.lt_of_le_of_lt h (by decide)) h
noncomputable def mt (k : Nat) : List UInt8 := ((c_laws_markText R k).getD ([], ())).1
theorem mark_text (m : Nat) (h : m ≤ 4611686018427387904) : c_laws_markText R m = some (mt m, ()) := by
  obtain ⟨t, e⟩ := mark_text_ex m h
  unfold mt
  rw [e]; rfl

abbrev T_Register : Ty := (.pair (.int .i64) (.pair (.int .i64) (.pair (.int .i64) (.pair (.int .i64) (.pair .str (.pair .str (.pair .str .unit)))))))
abbrev D_Register : Type := (Int × (Int × (Int × (Int × (List UInt8 × (List UInt8 × (List UInt8 × Unit)))))))
theorem sz_Register (x : D_Register) (l : Int) (h0 : 0 ≤ l) (h1 : l ≤ 1048576) (hx : Fine T_Register x) : c_laws_szRegister R x l = some (szF (cnt T_Register x) l, ()) := by
  have hq : c_laws_szRegister R x l = _ := call (q_laws_szRegister R L x l)
  have hc : cnt T_Register x = (0 + (0 + (0 + (0 + (x.2.2.2.2.1.length + (x.2.2.2.2.2.1.length + (x.2.2.2.2.2.2.1.length + (0)))))))) := rfl
  rw [hq]
  have k1 : x.2.2.2.2.1.length ≤ maxLen := hx.2.2.2.2.1
  unfold maxLen at k1
  rw [wrap_id (n := (l - (x.2.2.2.2.1.length : Int))) (by omega) (by omega)]
  by_cases n1 : l - (x.2.2.2.2.1.length : Int) < 0
  · rw [decide_eq_true n1, hc, szF_f (by omega)]; rfl
  rw [decide_eq_false n1]
  simp only [cond_false]
  have k2 : x.2.2.2.2.2.1.length ≤ maxLen := hx.2.2.2.2.2.1
  unfold maxLen at k2
  rw [wrap_id (n := (l - (x.2.2.2.2.1.length : Int) - (x.2.2.2.2.2.1.length : Int))) (by omega) (by omega)]
  by_cases n2 : l - (x.2.2.2.2.1.length : Int) - (x.2.2.2.2.2.1.length : Int) < 0
  · rw [decide_eq_true n2, hc, szF_f (by omega)]; rfl
  rw [decide_eq_false n2]
  simp only [cond_false]
  have k3 : x.2.2.2.2.2.2.1.length ≤ maxLen := hx.2.2.2.2.2.2.1
  unfold maxLen at k3
  rw [wrap_id (n := (l - (x.2.2.2.2.1.length : Int) - (x.2.2.2.2.2.1.length : Int) - (x.2.2.2.2.2.2.1.length : Int))) (by omega) (by omega)]
  by_cases n3 : l - (x.2.2.2.2.1.length : Int) - (x.2.2.2.2.2.1.length : Int) - (x.2.2.2.2.2.2.1.length : Int) < 0
  · rw [decide_eq_true n3, hc, szF_f (by omega)]; rfl
  rw [decide_eq_false n3]
  simp only [cond_false]
  rw [hc, szF_t (by omega)]
  exact congrArg (fun z => some (z, ())) (by omega)

theorem sz_StringS (x : List (List UInt8)) (l : Int) (h0 : 0 ≤ l) (h1 : l ≤ 1048576) (hx : Fine (.sl .str) x) : c_laws_szStringS R x l = some (szF (cnt (.sl .str) x) l, ()) := by
  have hq : c_laws_szStringS R x l = _ := call (q_laws_szStringS R L x l)
  have hm : x.length ≤ maxLen := hx.1
  unfold maxLen at hm
  have hc : cnt (.sl .str) x = x.length + (x.map (cnt .str)).sum := rfl
  rw [hq, wrap_id (n := l - (x.length : Int)) (by omega) (by omega)]
  by_cases n0 : l - (x.length : Int) < 0
  · rw [decide_eq_true n0, szF_f (by omega)]; rfl
  rw [decide_eq_false n0]
  simp only [cond_false]
  have e := gen_sz (fun l i => lp_laws_szStringS_0 R L x l 0 i) x ([] : List UInt8) (cnt .str) (fun l => by
    have hq : lp_laws_szStringS_0 R L x l 0 (x.length : Nat) = _ := round (by kernel_rfl) (q_laws_szStringS_0 R L x l 0 (x.length : Nat))
    show lp_laws_szStringS_0 R L x l 0 (x.length : Nat) = _
    rw [hq, lt_f (Nat.le_refl _)]; rfl) (fun l i hlt h0 h1 => by
    have hq : lp_laws_szStringS_0 R L x l 0 i = _ := round (by kernel_rfl) (q_laws_szStringS_0 R L x l 0 i)
    have hm := fine_mem (t := .str) hx _ (getD_mem (d := ([] : List UInt8)) hlt)
    show lp_laws_szStringS_0 R L x l 0 i = _
    rw [hq, lt_t hlt, nn, tn, blt_t hlt, wrap_succ (i := i) (by omega)]
    simp only [cond_true]
    have hm : (x.getD i []).length ≤ maxLen := hm
    unfold maxLen at hm
    show _ = if ((x.getD i []).length : Int) ≤ l then lp_laws_szStringS_0 R L x (l - ((x.getD i []).length : Int)) 0 ((i + 1 : Nat) : Int) else some (-1, ())
    rw [wrap_id (n := l - ((x.getD i []).length : Int)) (by omega) (by omega)]
    by_cases n : ((x.getD i []).length : Int) ≤ l
    · rw [if_pos n, decide_eq_false (by omega)]; rfl
    · rw [if_neg n, decide_eq_true (by omega)]; rfl) _ 0 (l - (x.length : Int)) rfl (Nat.zero_le _) (by omega) (by omega)
  rw [hc, ← szF_add (by omega)]
  exact e

abbrev T_Io : Ty := (.pair (.int .i64) (.pair .str .unit))
abbrev D_Io : Type := (Int × (List UInt8 × Unit))
theorem sz_Io (x : D_Io) (l : Int) (h0 : 0 ≤ l) (h1 : l ≤ 1048576) (hx : Fine T_Io x) : c_laws_szIo R x l = some (szF (cnt T_Io x) l, ()) := by
  have hq : c_laws_szIo R x l = _ := call (q_laws_szIo R L x l)
  have hc : cnt T_Io x = (0 + (x.2.1.length + (0))) := rfl
  rw [hq]
  have k1 : x.2.1.length ≤ maxLen := hx.2.1
  unfold maxLen at k1
  rw [wrap_id (n := (l - (x.2.1.length : Int))) (by omega) (by omega)]
  by_cases n1 : l - (x.2.1.length : Int) < 0
  · rw [decide_eq_true n1, hc, szF_f (by omega)]; rfl
  rw [decide_eq_false n1]
  simp only [cond_false]
  rw [hc, szF_t (by omega)]
  exact congrArg (fun z => some (z, ())) (by omega)

theorem sz_IoS (x : List (D_Io)) (l : Int) (h0 : 0 ≤ l) (h1 : l ≤ 1048576) (hx : Fine (.sl T_Io) x) : c_laws_szIoS R x l = some (szF (cnt (.sl T_Io) x) l, ()) := by
  have hq : c_laws_szIoS R x l = _ := call (q_laws_szIoS R L x l)
  have hm : x.length ≤ maxLen := hx.1
  unfold maxLen at hm
  have hc : cnt (.sl T_Io) x = x.length + (x.map (cnt T_Io)).sum := rfl
  rw [hq, wrap_id (n := l - (x.length : Int)) (by omega) (by omega)]
  by_cases n0 : l - (x.length : Int) < 0
  · rw [decide_eq_true n0, szF_f (by omega)]; rfl
  rw [decide_eq_false n0]
  simp only [cond_false]
  have e := gen_sz (fun l i => lp_laws_szIoS_0 R L x l 0 i) x ((0 : Int), (([] : List UInt8), ())) (cnt T_Io) (fun l => by
    have hq : lp_laws_szIoS_0 R L x l 0 (x.length : Nat) = _ := round (by kernel_rfl) (q_laws_szIoS_0 R L x l 0 (x.length : Nat))
    show lp_laws_szIoS_0 R L x l 0 (x.length : Nat) = _
    rw [hq, lt_f (Nat.le_refl _)]; rfl) (fun l i hlt h0 h1 => by
    have hq : lp_laws_szIoS_0 R L x l 0 i = _ := round (by kernel_rfl) (q_laws_szIoS_0 R L x l 0 i)
    have hm := fine_mem (t := T_Io) hx _ (getD_mem (d := ((0 : Int), (([] : List UInt8), ()))) hlt)
    show lp_laws_szIoS_0 R L x l 0 i = _
    rw [hq, lt_t hlt, nn, tn, blt_t hlt, wrap_succ (i := i) (by omega)]
    simp only [cond_true]
    rw [sz_Io _ l h0 h1 hm]
    simp only [Option.bind_some]
    by_cases n : ((cnt T_Io (x.getD i ((0 : Int), (([] : List UInt8), ()))) : Nat) : Int) ≤ l
    · rw [if_pos n, szF_t n, decide_eq_false (by omega)]; rfl
    · rw [if_neg n, szF_f (by omega)]; rfl) _ 0 (l - (x.length : Int)) rfl (Nat.zero_le _) (by omega) (by omega)
  rw [hc, ← szF_add (by omega)]
  exact e

abbrev T_Device : Ty := (.pair (.sl .str) (.pair (.sl T_Io) .unit))
abbrev D_Device : Type := (List (List UInt8) × (List (D_Io) × Unit))
theorem sz_Device (x : D_Device) (l : Int) (h0 : 0 ≤ l) (h1 : l ≤ 1048576) (hx : Fine T_Device x) : c_laws_szDevice R x l = some (szF (cnt T_Device x) l, ()) := by
  have hq : c_laws_szDevice R x l = _ := call (q_laws_szDevice R L x l)
  have hc : cnt T_Device x = (cnt (.sl .str) x.1 + (cnt (.sl T_Io) x.2.1 + (0))) := rfl
  rw [hq]
  rw [sz_StringS x.1 (l) (by omega) (by omega) hx.1]
  simp only [Option.bind_some]
  by_cases n1 : l < (cnt (.sl .str) x.1 : Int)
  · rw [szF_f n1, hc, szF_f (by omega)]; rfl
  rw [szF_t (by omega), show decide (l - (cnt (.sl .str) x.1 : Int) < 0) = false from decide_eq_false (by omega)]
  simp only [cond_false]
  rw [sz_IoS x.2.1 (l - (cnt (.sl .str) x.1 : Int)) (by omega) (by omega) hx.2.1]
  simp only [Option.bind_some]
  by_cases n2 : l - (cnt (.sl .str) x.1 : Int) < (cnt (.sl T_Io) x.2.1 : Int)
  · rw [szF_f n2, hc, szF_f (by omega)]; rfl
  rw [szF_t (by omega), show decide (l - (cnt (.sl .str) x.1 : Int) - (cnt (.sl T_Io) x.2.1 : Int) < 0) = false from decide_eq_false (by omega)]
  simp only [cond_false]
  rw [hc, szF_t (by omega)]
  exact congrArg (fun z => some (z, ())) (by omega)

abbrev T_Store : Ty := (.pair .str (.pair T_Register (.pair T_Device (.pair .bool (.pair .bool .unit)))))
abbrev D_Store : Type := (List UInt8 × (D_Register × (D_Device × (Bool × (Bool × Unit)))))
theorem sz_Store (x : D_Store) (l : Int) (h0 : 0 ≤ l) (h1 : l ≤ 1048576) (hx : Fine T_Store x) : c_laws_szStore R x l = some (szF (cnt T_Store x) l, ()) := by
  have hq : c_laws_szStore R x l = _ := call (q_laws_szStore R L x l)
  have hc : cnt T_Store x = (x.1.length + (cnt T_Register x.2.1 + (cnt T_Device x.2.2.1 + (0 + (0 + (0)))))) := rfl
  rw [hq]
  have k1 : x.1.length ≤ maxLen := hx.1
  unfold maxLen at k1
  rw [wrap_id (n := (l - (x.1.length : Int))) (by omega) (by omega)]
  by_cases n1 : l - (x.1.length : Int) < 0
  · rw [decide_eq_true n1, hc, szF_f (by omega)]; rfl
  rw [decide_eq_false n1]
  simp only [cond_false]
  rw [sz_Register x.2.1 (l - (x.1.length : Int)) (by omega) (by omega) hx.2.1]
  simp only [Option.bind_some]
  by_cases n2 : l - (x.1.length : Int) < (cnt T_Register x.2.1 : Int)
  · rw [szF_f n2, hc, szF_f (by omega)]; rfl
  rw [szF_t (by omega), show decide (l - (x.1.length : Int) - (cnt T_Register x.2.1 : Int) < 0) = false from decide_eq_false (by omega)]
  simp only [cond_false]
  rw [sz_Device x.2.2.1 (l - (x.1.length : Int) - (cnt T_Register x.2.1 : Int)) (by omega) (by omega) hx.2.2.1]
  simp only [Option.bind_some]
  by_cases n3 : l - (x.1.length : Int) - (cnt T_Register x.2.1 : Int) < (cnt T_Device x.2.2.1 : Int)
  · rw [szF_f n3, hc, szF_f (by omega)]; rfl
  rw [szF_t (by omega), show decide (l - (x.1.length : Int) - (cnt T_Register x.2.1 : Int) - (cnt T_Device x.2.2.1 : Int) < 0) = false from decide_eq_false (by omega)]
  simp only [cond_false]
  rw [hc, szF_t (by omega)]
  exact congrArg (fun z => some (z, ())) (by omega)

theorem sz_EntryS (x : List ((Int × (Int × Unit)))) (l : Int) (h0 : 0 ≤ l) (h1 : l ≤ 1048576) (hx : Fine (.sl (.pair (.int .i64) (.pair (.int .i64) .unit))) x) : c_laws_szEntryS R x l = some (szF (cnt (.sl (.pair (.int .i64) (.pair (.int .i64) .unit))) x) l, ()) := by
  have hq : c_laws_szEntryS R x l = _ := call (q_laws_szEntryS R L x l)
  have hm : x.length ≤ maxLen := hx.1
  unfold maxLen at hm
  have hc : cnt (.sl (.pair (.int .i64) (.pair (.int .i64) .unit))) x = x.length + (x.map (cnt (.pair (.int .i64) (.pair (.int .i64) .unit)))).sum := rfl
  rw [hq, wrap_id (n := l - (x.length : Int)) (by omega) (by omega)]
  by_cases n0 : l - (x.length : Int) < 0
  · rw [decide_eq_true n0, szF_f (by omega)]; rfl
  rw [decide_eq_false n0]
  simp only [cond_false]
  have hz : (x.map (cnt (.pair (.int .i64) (.pair (.int .i64) .unit)))).sum = 0 := sum_zero x (fun _ => rfl)
  rw [szF_t (by omega)]
  exact congrArg (fun z => some (z, ())) (by omega)

theorem sz_OpS (x : List ((Int × (Int × (Int × Unit))))) (l : Int) (h0 : 0 ≤ l) (h1 : l ≤ 1048576) (hx : Fine (.sl (.pair (.int .i64) (.pair (.int .i64) (.pair (.int .i64) .unit)))) x) : c_laws_szOpS R x l = some (szF (cnt (.sl (.pair (.int .i64) (.pair (.int .i64) (.pair (.int .i64) .unit)))) x) l, ()) := by
  have hq : c_laws_szOpS R x l = _ := call (q_laws_szOpS R L x l)
  have hm : x.length ≤ maxLen := hx.1
  unfold maxLen at hm
  have hc : cnt (.sl (.pair (.int .i64) (.pair (.int .i64) (.pair (.int .i64) .unit)))) x = x.length + (x.map (cnt (.pair (.int .i64) (.pair (.int .i64) (.pair (.int .i64) .unit))))).sum := rfl
  rw [hq, wrap_id (n := l - (x.length : Int)) (by omega) (by omega)]
  by_cases n0 : l - (x.length : Int) < 0
  · rw [decide_eq_true n0, szF_f (by omega)]; rfl
  rw [decide_eq_false n0]
  simp only [cond_false]
  have hz : (x.map (cnt (.pair (.int .i64) (.pair (.int .i64) (.pair (.int .i64) .unit))))).sum = 0 := sum_zero x (fun _ => rfl)
  rw [szF_t (by omega)]
  exact congrArg (fun z => some (z, ())) (by omega)

abbrev T_Txn : Ty := (.pair (.sl (.pair (.int .i64) (.pair (.int .i64) (.pair (.int .i64) .unit)))) .unit)
abbrev D_Txn : Type := (List ((Int × (Int × (Int × Unit)))) × Unit)
theorem sz_Txn (x : D_Txn) (l : Int) (h0 : 0 ≤ l) (h1 : l ≤ 1048576) (hx : Fine T_Txn x) : c_laws_szTxn R x l = some (szF (cnt T_Txn x) l, ()) := by
  have hq : c_laws_szTxn R x l = _ := call (q_laws_szTxn R L x l)
  have hc : cnt T_Txn x = (cnt (.sl (.pair (.int .i64) (.pair (.int .i64) (.pair (.int .i64) .unit)))) x.1 + (0)) := rfl
  rw [hq]
  rw [sz_OpS x.1 (l) (by omega) (by omega) hx.1]
  simp only [Option.bind_some]
  by_cases n1 : l < (cnt (.sl (.pair (.int .i64) (.pair (.int .i64) (.pair (.int .i64) .unit)))) x.1 : Int)
  · rw [szF_f n1, hc, szF_f (by omega)]; rfl
  rw [szF_t (by omega), show decide (l - (cnt (.sl (.pair (.int .i64) (.pair (.int .i64) (.pair (.int .i64) .unit)))) x.1 : Int) < 0) = false from decide_eq_false (by omega)]
  simp only [cond_false]
  rw [hc, szF_t (by omega)]
  exact congrArg (fun z => some (z, ())) (by omega)

theorem sz_TxnS (x : List (D_Txn)) (l : Int) (h0 : 0 ≤ l) (h1 : l ≤ 1048576) (hx : Fine (.sl T_Txn) x) : c_laws_szTxnS R x l = some (szF (cnt (.sl T_Txn) x) l, ()) := by
  have hq : c_laws_szTxnS R x l = _ := call (q_laws_szTxnS R L x l)
  have hm : x.length ≤ maxLen := hx.1
  unfold maxLen at hm
  have hc : cnt (.sl T_Txn) x = x.length + (x.map (cnt T_Txn)).sum := rfl
  rw [hq, wrap_id (n := l - (x.length : Int)) (by omega) (by omega)]
  by_cases n0 : l - (x.length : Int) < 0
  · rw [decide_eq_true n0, szF_f (by omega)]; rfl
  rw [decide_eq_false n0]
  simp only [cond_false]
  have e := gen_sz (fun l i => lp_laws_szTxnS_0 R L x l 0 i) x (([] : List ((Int × (Int × (Int × Unit))))), ()) (cnt T_Txn) (fun l => by
    have hq : lp_laws_szTxnS_0 R L x l 0 (x.length : Nat) = _ := round (by kernel_rfl) (q_laws_szTxnS_0 R L x l 0 (x.length : Nat))
    show lp_laws_szTxnS_0 R L x l 0 (x.length : Nat) = _
    rw [hq, lt_f (Nat.le_refl _)]; rfl) (fun l i hlt h0 h1 => by
    have hq : lp_laws_szTxnS_0 R L x l 0 i = _ := round (by kernel_rfl) (q_laws_szTxnS_0 R L x l 0 i)
    have hm := fine_mem (t := T_Txn) hx _ (getD_mem (d := (([] : List ((Int × (Int × (Int × Unit))))), ())) hlt)
    show lp_laws_szTxnS_0 R L x l 0 i = _
    rw [hq, lt_t hlt, nn, tn, blt_t hlt, wrap_succ (i := i) (by omega)]
    simp only [cond_true]
    rw [sz_Txn _ l h0 h1 hm]
    simp only [Option.bind_some]
    by_cases n : ((cnt T_Txn (x.getD i (([] : List ((Int × (Int × (Int × Unit))))), ())) : Nat) : Int) ≤ l
    · rw [if_pos n, szF_t n, decide_eq_false (by omega)]; rfl
    · rw [if_neg n, szF_f (by omega)]; rfl) _ 0 (l - (x.length : Int)) rfl (Nat.zero_le _) (by omega) (by omega)
  rw [hc, ← szF_add (by omega)]
  exact e

theorem sz_TxnSS (x : List (List (D_Txn))) (l : Int) (h0 : 0 ≤ l) (h1 : l ≤ 1048576) (hx : Fine (.sl (.sl T_Txn)) x) : c_laws_szTxnSS R x l = some (szF (cnt (.sl (.sl T_Txn)) x) l, ()) := by
  have hq : c_laws_szTxnSS R x l = _ := call (q_laws_szTxnSS R L x l)
  have hm : x.length ≤ maxLen := hx.1
  unfold maxLen at hm
  have hc : cnt (.sl (.sl T_Txn)) x = x.length + (x.map (cnt (.sl T_Txn))).sum := rfl
  rw [hq, wrap_id (n := l - (x.length : Int)) (by omega) (by omega)]
  by_cases n0 : l - (x.length : Int) < 0
  · rw [decide_eq_true n0, szF_f (by omega)]; rfl
  rw [decide_eq_false n0]
  simp only [cond_false]
  have e := gen_sz (fun l i => lp_laws_szTxnSS_0 R L x l 0 i) x ([] : List (D_Txn)) (cnt (.sl T_Txn)) (fun l => by
    have hq : lp_laws_szTxnSS_0 R L x l 0 (x.length : Nat) = _ := round (by kernel_rfl) (q_laws_szTxnSS_0 R L x l 0 (x.length : Nat))
    show lp_laws_szTxnSS_0 R L x l 0 (x.length : Nat) = _
    rw [hq, lt_f (Nat.le_refl _)]; rfl) (fun l i hlt h0 h1 => by
    have hq : lp_laws_szTxnSS_0 R L x l 0 i = _ := round (by kernel_rfl) (q_laws_szTxnSS_0 R L x l 0 i)
    have hm := fine_mem (t := (.sl T_Txn)) hx _ (getD_mem (d := ([] : List (D_Txn))) hlt)
    show lp_laws_szTxnSS_0 R L x l 0 i = _
    rw [hq, lt_t hlt, nn, tn, blt_t hlt, wrap_succ (i := i) (by omega)]
    simp only [cond_true]
    rw [sz_TxnS _ l h0 h1 hm]
    simp only [Option.bind_some]
    by_cases n : ((cnt (.sl T_Txn) (x.getD i ([] : List (D_Txn))) : Nat) : Int) ≤ l
    · rw [if_pos n, szF_t n, decide_eq_false (by omega)]; rfl
    · rw [if_neg n, szF_f (by omega)]; rfl) _ 0 (l - (x.length : Int)) rfl (Nat.zero_le _) (by omega) (by omega)
  rw [hc, ← szF_add (by omega)]
  exact e

theorem sz_IntS (x : List (Int)) (l : Int) (h0 : 0 ≤ l) (h1 : l ≤ 1048576) (hx : Fine (.sl (.int .i64)) x) : c_laws_szIntS R x l = some (szF (cnt (.sl (.int .i64)) x) l, ()) := by
  have hq : c_laws_szIntS R x l = _ := call (q_laws_szIntS R L x l)
  have hm : x.length ≤ maxLen := hx.1
  unfold maxLen at hm
  have hc : cnt (.sl (.int .i64)) x = x.length + (x.map (cnt (.int .i64))).sum := rfl
  rw [hq, wrap_id (n := l - (x.length : Int)) (by omega) (by omega)]
  by_cases n0 : l - (x.length : Int) < 0
  · rw [decide_eq_true n0, szF_f (by omega)]; rfl
  rw [decide_eq_false n0]
  simp only [cond_false]
  have hz : (x.map (cnt (.int .i64))).sum = 0 := sum_zero x (fun _ => rfl)
  rw [szF_t (by omega)]
  exact congrArg (fun z => some (z, ())) (by omega)

abbrev T_Result : Ty := (.pair (.int .i64) (.pair (.sl (.int .i64)) .unit))
abbrev D_Result : Type := (Int × (List (Int) × Unit))
theorem sz_Result (x : D_Result) (l : Int) (h0 : 0 ≤ l) (h1 : l ≤ 1048576) (hx : Fine T_Result x) : c_laws_szResult R x l = some (szF (cnt T_Result x) l, ()) := by
  have hq : c_laws_szResult R x l = _ := call (q_laws_szResult R L x l)
  have hc : cnt T_Result x = (0 + (cnt (.sl (.int .i64)) x.2.1 + (0))) := rfl
  rw [hq]
  rw [sz_IntS x.2.1 (l) (by omega) (by omega) hx.2.1]
  simp only [Option.bind_some]
  by_cases n1 : l < (cnt (.sl (.int .i64)) x.2.1 : Int)
  · rw [szF_f n1, hc, szF_f (by omega)]; rfl
  rw [szF_t (by omega), show decide (l - (cnt (.sl (.int .i64)) x.2.1 : Int) < 0) = false from decide_eq_false (by omega)]
  simp only [cond_false]
  rw [hc, szF_t (by omega)]
  exact congrArg (fun z => some (z, ())) (by omega)

theorem sz_ResultS (x : List (D_Result)) (l : Int) (h0 : 0 ≤ l) (h1 : l ≤ 1048576) (hx : Fine (.sl T_Result) x) : c_laws_szResultS R x l = some (szF (cnt (.sl T_Result) x) l, ()) := by
  have hq : c_laws_szResultS R x l = _ := call (q_laws_szResultS R L x l)
  have hm : x.length ≤ maxLen := hx.1
  unfold maxLen at hm
  have hc : cnt (.sl T_Result) x = x.length + (x.map (cnt T_Result)).sum := rfl
  rw [hq, wrap_id (n := l - (x.length : Int)) (by omega) (by omega)]
  by_cases n0 : l - (x.length : Int) < 0
  · rw [decide_eq_true n0, szF_f (by omega)]; rfl
  rw [decide_eq_false n0]
  simp only [cond_false]
  have e := gen_sz (fun l i => lp_laws_szResultS_0 R L x l 0 i) x ((0 : Int), (([] : List (Int)), ())) (cnt T_Result) (fun l => by
    have hq : lp_laws_szResultS_0 R L x l 0 (x.length : Nat) = _ := round (by kernel_rfl) (q_laws_szResultS_0 R L x l 0 (x.length : Nat))
    show lp_laws_szResultS_0 R L x l 0 (x.length : Nat) = _
    rw [hq, lt_f (Nat.le_refl _)]; rfl) (fun l i hlt h0 h1 => by
    have hq : lp_laws_szResultS_0 R L x l 0 i = _ := round (by kernel_rfl) (q_laws_szResultS_0 R L x l 0 i)
    have hm := fine_mem (t := T_Result) hx _ (getD_mem (d := ((0 : Int), (([] : List (Int)), ()))) hlt)
    show lp_laws_szResultS_0 R L x l 0 i = _
    rw [hq, lt_t hlt, nn, tn, blt_t hlt, wrap_succ (i := i) (by omega)]
    simp only [cond_true]
    rw [sz_Result _ l h0 h1 hm]
    simp only [Option.bind_some]
    by_cases n : ((cnt T_Result (x.getD i ((0 : Int), (([] : List (Int)), ()))) : Nat) : Int) ≤ l
    · rw [if_pos n, szF_t n, decide_eq_false (by omega)]; rfl
    · rw [if_neg n, szF_f (by omega)]; rfl) _ 0 (l - (x.length : Int)) rfl (Nat.zero_le _) (by omega) (by omega)
  rw [hc, ← szF_add (by omega)]
  exact e

abbrev T_World : Ty := (.pair T_Store (.pair T_Device (.pair (.sl (.pair (.int .i64) (.pair (.int .i64) .unit))) (.pair (.sl (.sl T_Txn)) (.pair (.sl T_Result) (.pair .bool .unit))))))
abbrev D_World : Type := (D_Store × (D_Device × (List ((Int × (Int × Unit))) × (List (List (D_Txn)) × (List (D_Result) × (Bool × Unit))))))
theorem sz_World (x : D_World) (l : Int) (h0 : 0 ≤ l) (h1 : l ≤ 1048576) (hx : Fine T_World x) : c_laws_szWorld R x l = some (szF (cnt T_World x) l, ()) := by
  have hq : c_laws_szWorld R x l = _ := call (q_laws_szWorld R L x l)
  have hc : cnt T_World x = (cnt T_Store x.1 + (cnt T_Device x.2.1 + (cnt (.sl (.pair (.int .i64) (.pair (.int .i64) .unit))) x.2.2.1 + (cnt (.sl (.sl T_Txn)) x.2.2.2.1 + (cnt (.sl T_Result) x.2.2.2.2.1 + (0 + (0))))))) := rfl
  rw [hq]
  rw [sz_Store x.1 (l) (by omega) (by omega) hx.1]
  simp only [Option.bind_some]
  by_cases n1 : l < (cnt T_Store x.1 : Int)
  · rw [szF_f n1, hc, szF_f (by omega)]; rfl
  rw [szF_t (by omega), show decide (l - (cnt T_Store x.1 : Int) < 0) = false from decide_eq_false (by omega)]
  simp only [cond_false]
  rw [sz_Device x.2.1 (l - (cnt T_Store x.1 : Int)) (by omega) (by omega) hx.2.1]
  simp only [Option.bind_some]
  by_cases n2 : l - (cnt T_Store x.1 : Int) < (cnt T_Device x.2.1 : Int)
  · rw [szF_f n2, hc, szF_f (by omega)]; rfl
  rw [szF_t (by omega), show decide (l - (cnt T_Store x.1 : Int) - (cnt T_Device x.2.1 : Int) < 0) = false from decide_eq_false (by omega)]
  simp only [cond_false]
  rw [sz_EntryS x.2.2.1 (l - (cnt T_Store x.1 : Int) - (cnt T_Device x.2.1 : Int)) (by omega) (by omega) hx.2.2.1]
  simp only [Option.bind_some]
  by_cases n3 : l - (cnt T_Store x.1 : Int) - (cnt T_Device x.2.1 : Int) < (cnt (.sl (.pair (.int .i64) (.pair (.int .i64) .unit))) x.2.2.1 : Int)
  · rw [szF_f n3, hc, szF_f (by omega)]; rfl
  rw [szF_t (by omega), show decide (l - (cnt T_Store x.1 : Int) - (cnt T_Device x.2.1 : Int) - (cnt (.sl (.pair (.int .i64) (.pair (.int .i64) .unit))) x.2.2.1 : Int) < 0) = false from decide_eq_false (by omega)]
  simp only [cond_false]
  rw [sz_TxnSS x.2.2.2.1 (l - (cnt T_Store x.1 : Int) - (cnt T_Device x.2.1 : Int) - (cnt (.sl (.pair (.int .i64) (.pair (.int .i64) .unit))) x.2.2.1 : Int)) (by omega) (by omega) hx.2.2.2.1]
  simp only [Option.bind_some]
  by_cases n4 : l - (cnt T_Store x.1 : Int) - (cnt T_Device x.2.1 : Int) - (cnt (.sl (.pair (.int .i64) (.pair (.int .i64) .unit))) x.2.2.1 : Int) < (cnt (.sl (.sl T_Txn)) x.2.2.2.1 : Int)
  · rw [szF_f n4, hc, szF_f (by omega)]; rfl
  rw [szF_t (by omega), show decide (l - (cnt T_Store x.1 : Int) - (cnt T_Device x.2.1 : Int) - (cnt (.sl (.pair (.int .i64) (.pair (.int .i64) .unit))) x.2.2.1 : Int) - (cnt (.sl (.sl T_Txn)) x.2.2.2.1 : Int) < 0) = false from decide_eq_false (by omega)]
  simp only [cond_false]
  rw [sz_ResultS x.2.2.2.2.1 (l - (cnt T_Store x.1 : Int) - (cnt T_Device x.2.1 : Int) - (cnt (.sl (.pair (.int .i64) (.pair (.int .i64) .unit))) x.2.2.1 : Int) - (cnt (.sl (.sl T_Txn)) x.2.2.2.1 : Int)) (by omega) (by omega) hx.2.2.2.2.1]
  simp only [Option.bind_some]
  by_cases n5 : l - (cnt T_Store x.1 : Int) - (cnt T_Device x.2.1 : Int) - (cnt (.sl (.pair (.int .i64) (.pair (.int .i64) .unit))) x.2.2.1 : Int) - (cnt (.sl (.sl T_Txn)) x.2.2.2.1 : Int) < (cnt (.sl T_Result) x.2.2.2.2.1 : Int)
  · rw [szF_f n5, hc, szF_f (by omega)]; rfl
  rw [szF_t (by omega), show decide (l - (cnt T_Store x.1 : Int) - (cnt T_Device x.2.1 : Int) - (cnt (.sl (.pair (.int .i64) (.pair (.int .i64) .unit))) x.2.2.1 : Int) - (cnt (.sl (.sl T_Txn)) x.2.2.2.1 : Int) - (cnt (.sl T_Result) x.2.2.2.2.1 : Int) < 0) = false from decide_eq_false (by omega)]
  simp only [cond_false]
  rw [hc, szF_t (by omega)]
  exact congrArg (fun z => some (z, ())) (by omega)

theorem to_Register (x : D_Register) (hx : cnt T_Register x ≤ 1048576) : c_laws_toRegister R x = some (x, ()) := by
  have hq : c_laws_toRegister R x = _ := call (q_laws_toRegister R L x)
  have hc : cnt T_Register x = (0 + (0 + (0 + (0 + (x.2.2.2.2.1.length + (x.2.2.2.2.2.1.length + (x.2.2.2.2.2.2.1.length + (0)))))))) := rfl
  refine hq.trans ?_
  rfl

theorem to_StringS (x : List (List UInt8)) (hx : cnt (.sl .str) x ≤ 1048576) : c_laws_toStringS R x = some (x, ()) := by
  have hq : c_laws_toStringS R x = _ := call (q_laws_toStringS R L x)
  have hc : cnt (.sl .str) x = x.length + (x.map (cnt .str)).sum := rfl
  rw [hq, leI_self, tn, lenOK_t (by omega)]
  refine gen_to (fun w i => lp_laws_toStringS_0 R L x [] w i) x ([] : List UInt8) (fun w hw => ?_) (fun w i hlt hw => ?_) _ 0 _ rfl (Nat.zero_le _) (by simp) (fun j hj => by omega)
  · have hq : lp_laws_toStringS_0 R L x [] w (x.length : Nat) = _ := round (by kernel_rfl) (q_laws_toStringS_0 R L x [] w (x.length : Nat))
    show lp_laws_toStringS_0 R L x [] w (x.length : Nat) = _
    rw [hq, lt_f (Nat.le_refl _)]; rfl
  · have hq : lp_laws_toStringS_0 R L x [] w i = _ := round (by kernel_rfl) (q_laws_toStringS_0 R L x [] w i)
    show lp_laws_toStringS_0 R L x [] w i = _
    rw [hq, lt_t hlt, nn, tn, blt_t hlt, blt_t (n := w.length) (by omega), wrap_succ (i := i) (by omega)]
    rfl

theorem to_Io (x : D_Io) (hx : cnt T_Io x ≤ 1048576) : c_laws_toIo R x = some (x, ()) := by
  have hq : c_laws_toIo R x = _ := call (q_laws_toIo R L x)
  have hc : cnt T_Io x = (0 + (x.2.1.length + (0))) := rfl
  refine hq.trans ?_
  rfl

theorem to_IoS (x : List (D_Io)) (hx : cnt (.sl T_Io) x ≤ 1048576) : c_laws_toIoS R x = some (x, ()) := by
  have hq : c_laws_toIoS R x = _ := call (q_laws_toIoS R L x)
  have hc : cnt (.sl T_Io) x = x.length + (x.map (cnt T_Io)).sum := rfl
  rw [hq, leI_self, tn, lenOK_t (by omega)]
  refine gen_to (fun w i => lp_laws_toIoS_0 R L x [] w i) x ((0 : Int), (([] : List UInt8), ())) (fun w hw => ?_) (fun w i hlt hw => ?_) _ 0 _ rfl (Nat.zero_le _) (by simp) (fun j hj => by omega)
  · have hq : lp_laws_toIoS_0 R L x [] w (x.length : Nat) = _ := round (by kernel_rfl) (q_laws_toIoS_0 R L x [] w (x.length : Nat))
    show lp_laws_toIoS_0 R L x [] w (x.length : Nat) = _
    rw [hq, lt_f (Nat.le_refl _)]; rfl
  · have hq : lp_laws_toIoS_0 R L x [] w i = _ := round (by kernel_rfl) (q_laws_toIoS_0 R L x [] w i)
    show lp_laws_toIoS_0 R L x [] w i = _
    rw [hq, lt_t hlt, nn, tn, blt_t hlt, blt_t (n := w.length) (by omega), wrap_succ (i := i) (by omega)]
    have hm : cnt T_Io (x.getD i ((0 : Int), (([] : List UInt8), ()))) ≤ cnt (.sl T_Io) x := cnt_mem (t := T_Io) (x := x) (d := ((0 : Int), (([] : List UInt8), ()))) hlt
    rw [to_Io _ (by omega)]
    rfl

theorem to_Device (x : D_Device) (hx : cnt T_Device x ≤ 1048576) : c_laws_toDevice R x = some (x, ()) := by
  have hq : c_laws_toDevice R x = _ := call (q_laws_toDevice R L x)
  have hc : cnt T_Device x = (cnt (.sl .str) x.1 + (cnt (.sl T_Io) x.2.1 + (0))) := rfl
  refine hq.trans ?_
  rw [to_StringS x.1 (by omega)]
  simp only [Option.bind_some]
  rw [to_IoS x.2.1 (by omega)]
  rfl

theorem to_Store (x : D_Store) (hx : cnt T_Store x ≤ 1048576) : c_laws_toStore R x = some (x, ()) := by
  have hq : c_laws_toStore R x = _ := call (q_laws_toStore R L x)
  have hc : cnt T_Store x = (x.1.length + (cnt T_Register x.2.1 + (cnt T_Device x.2.2.1 + (0 + (0 + (0)))))) := rfl
  refine hq.trans ?_
  rw [to_Register x.2.1 (by omega)]
  simp only [Option.bind_some]
  rw [to_Device x.2.2.1 (by omega)]
  rfl

abbrev T_Entry : Ty := (.pair (.int .i64) (.pair (.int .i64) .unit))
abbrev D_Entry : Type := (Int × (Int × Unit))
theorem to_Entry (x : D_Entry) (hx : cnt T_Entry x ≤ 1048576) : c_laws_toEntry R x = some (x, ()) := by
  have hq : c_laws_toEntry R x = _ := call (q_laws_toEntry R L x)
  have hc : cnt T_Entry x = (0 + (0 + (0))) := rfl
  refine hq.trans ?_
  rfl

theorem to_EntryS (x : List (D_Entry)) (hx : cnt (.sl T_Entry) x ≤ 1048576) : c_laws_toEntryS R x = some (x, ()) := by
  have hq : c_laws_toEntryS R x = _ := call (q_laws_toEntryS R L x)
  have hc : cnt (.sl T_Entry) x = x.length + (x.map (cnt T_Entry)).sum := rfl
  rw [hq, leI_self, tn, lenOK_t (by omega)]
  refine gen_to (fun w i => lp_laws_toEntryS_0 R L x [] w i) x ((0 : Int), ((0 : Int), ())) (fun w hw => ?_) (fun w i hlt hw => ?_) _ 0 _ rfl (Nat.zero_le _) (by simp) (fun j hj => by omega)
  · have hq : lp_laws_toEntryS_0 R L x [] w (x.length : Nat) = _ := round (by kernel_rfl) (q_laws_toEntryS_0 R L x [] w (x.length : Nat))
    show lp_laws_toEntryS_0 R L x [] w (x.length : Nat) = _
    rw [hq, lt_f (Nat.le_refl _)]; rfl
  · have hq : lp_laws_toEntryS_0 R L x [] w i = _ := round (by kernel_rfl) (q_laws_toEntryS_0 R L x [] w i)
    show lp_laws_toEntryS_0 R L x [] w i = _
    rw [hq, lt_t hlt, nn, tn, blt_t hlt, blt_t (n := w.length) (by omega), wrap_succ (i := i) (by omega)]
    have hm : cnt T_Entry (x.getD i ((0 : Int), ((0 : Int), ()))) ≤ cnt (.sl T_Entry) x := cnt_mem (t := T_Entry) (x := x) (d := ((0 : Int), ((0 : Int), ()))) hlt
    rw [to_Entry _ (by omega)]
    rfl

abbrev T_Op : Ty := (.pair (.int .i64) (.pair (.int .i64) (.pair (.int .i64) .unit)))
abbrev D_Op : Type := (Int × (Int × (Int × Unit)))
theorem to_Op (x : D_Op) (hx : cnt T_Op x ≤ 1048576) : c_laws_toOp R x = some (x, ()) := by
  have hq : c_laws_toOp R x = _ := call (q_laws_toOp R L x)
  have hc : cnt T_Op x = (0 + (0 + (0 + (0)))) := rfl
  refine hq.trans ?_
  rfl

theorem to_OpS (x : List (D_Op)) (hx : cnt (.sl T_Op) x ≤ 1048576) : c_laws_toOpS R x = some (x, ()) := by
  have hq : c_laws_toOpS R x = _ := call (q_laws_toOpS R L x)
  have hc : cnt (.sl T_Op) x = x.length + (x.map (cnt T_Op)).sum := rfl
  rw [hq, leI_self, tn, lenOK_t (by omega)]
  refine gen_to (fun w i => lp_laws_toOpS_0 R L x [] w i) x ((0 : Int), ((0 : Int), ((0 : Int), ()))) (fun w hw => ?_) (fun w i hlt hw => ?_) _ 0 _ rfl (Nat.zero_le _) (by simp) (fun j hj => by omega)
  · have hq : lp_laws_toOpS_0 R L x [] w (x.length : Nat) = _ := round (by kernel_rfl) (q_laws_toOpS_0 R L x [] w (x.length : Nat))
    show lp_laws_toOpS_0 R L x [] w (x.length : Nat) = _
    rw [hq, lt_f (Nat.le_refl _)]; rfl
  · have hq : lp_laws_toOpS_0 R L x [] w i = _ := round (by kernel_rfl) (q_laws_toOpS_0 R L x [] w i)
    show lp_laws_toOpS_0 R L x [] w i = _
    rw [hq, lt_t hlt, nn, tn, blt_t hlt, blt_t (n := w.length) (by omega), wrap_succ (i := i) (by omega)]
    have hm : cnt T_Op (x.getD i ((0 : Int), ((0 : Int), ((0 : Int), ())))) ≤ cnt (.sl T_Op) x := cnt_mem (t := T_Op) (x := x) (d := ((0 : Int), ((0 : Int), ((0 : Int), ())))) hlt
    rw [to_Op _ (by omega)]
    rfl

theorem to_Txn (x : D_Txn) (hx : cnt T_Txn x ≤ 1048576) : c_laws_toTxn R x = some (x, ()) := by
  have hq : c_laws_toTxn R x = _ := call (q_laws_toTxn R L x)
  have hc : cnt T_Txn x = (cnt (.sl T_Op) x.1 + (0)) := rfl
  refine hq.trans ?_
  rw [to_OpS x.1 (by omega)]
  rfl

theorem to_TxnS (x : List (D_Txn)) (hx : cnt (.sl T_Txn) x ≤ 1048576) : c_laws_toTxnS R x = some (x, ()) := by
  have hq : c_laws_toTxnS R x = _ := call (q_laws_toTxnS R L x)
  have hc : cnt (.sl T_Txn) x = x.length + (x.map (cnt T_Txn)).sum := rfl
  rw [hq, leI_self, tn, lenOK_t (by omega)]
  refine gen_to (fun w i => lp_laws_toTxnS_0 R L x [] w i) x (([] : List (D_Op)), ()) (fun w hw => ?_) (fun w i hlt hw => ?_) _ 0 _ rfl (Nat.zero_le _) (by simp) (fun j hj => by omega)
  · have hq : lp_laws_toTxnS_0 R L x [] w (x.length : Nat) = _ := round (by kernel_rfl) (q_laws_toTxnS_0 R L x [] w (x.length : Nat))
    show lp_laws_toTxnS_0 R L x [] w (x.length : Nat) = _
    rw [hq, lt_f (Nat.le_refl _)]; rfl
  · have hq : lp_laws_toTxnS_0 R L x [] w i = _ := round (by kernel_rfl) (q_laws_toTxnS_0 R L x [] w i)
    show lp_laws_toTxnS_0 R L x [] w i = _
    rw [hq, lt_t hlt, nn, tn, blt_t hlt, blt_t (n := w.length) (by omega), wrap_succ (i := i) (by omega)]
    have hm : cnt T_Txn (x.getD i (([] : List (D_Op)), ())) ≤ cnt (.sl T_Txn) x := cnt_mem (t := T_Txn) (x := x) (d := (([] : List (D_Op)), ())) hlt
    rw [to_Txn _ (by omega)]
    rfl

theorem to_TxnSS (x : List (List (D_Txn))) (hx : cnt (.sl (.sl T_Txn)) x ≤ 1048576) : c_laws_toTxnSS R x = some (x, ()) := by
  have hq : c_laws_toTxnSS R x = _ := call (q_laws_toTxnSS R L x)
  have hc : cnt (.sl (.sl T_Txn)) x = x.length + (x.map (cnt (.sl T_Txn))).sum := rfl
  rw [hq, leI_self, tn, lenOK_t (by omega)]
  refine gen_to (fun w i => lp_laws_toTxnSS_0 R L x [] w i) x ([] : List (D_Txn)) (fun w hw => ?_) (fun w i hlt hw => ?_) _ 0 _ rfl (Nat.zero_le _) (by simp) (fun j hj => by omega)
  · have hq : lp_laws_toTxnSS_0 R L x [] w (x.length : Nat) = _ := round (by kernel_rfl) (q_laws_toTxnSS_0 R L x [] w (x.length : Nat))
    show lp_laws_toTxnSS_0 R L x [] w (x.length : Nat) = _
    rw [hq, lt_f (Nat.le_refl _)]; rfl
  · have hq : lp_laws_toTxnSS_0 R L x [] w i = _ := round (by kernel_rfl) (q_laws_toTxnSS_0 R L x [] w i)
    show lp_laws_toTxnSS_0 R L x [] w i = _
    rw [hq, lt_t hlt, nn, tn, blt_t hlt, blt_t (n := w.length) (by omega), wrap_succ (i := i) (by omega)]
    have hm : cnt (.sl T_Txn) (x.getD i ([] : List (D_Txn))) ≤ cnt (.sl (.sl T_Txn)) x := cnt_mem (t := (.sl T_Txn)) (x := x) (d := ([] : List (D_Txn))) hlt
    rw [to_TxnS _ (by omega)]
    rfl

theorem to_IntS (x : List (Int)) (hx : cnt (.sl (.int .i64)) x ≤ 1048576) : c_laws_toIntS R x = some (x, ()) := by
  have hq : c_laws_toIntS R x = _ := call (q_laws_toIntS R L x)
  have hc : cnt (.sl (.int .i64)) x = x.length + (x.map (cnt (.int .i64))).sum := rfl
  rw [hq, leI_self, tn, lenOK_t (by omega)]
  refine gen_to (fun w i => lp_laws_toIntS_0 R L x [] w i) x (0 : Int) (fun w hw => ?_) (fun w i hlt hw => ?_) _ 0 _ rfl (Nat.zero_le _) (by simp) (fun j hj => by omega)
  · have hq : lp_laws_toIntS_0 R L x [] w (x.length : Nat) = _ := round (by kernel_rfl) (q_laws_toIntS_0 R L x [] w (x.length : Nat))
    show lp_laws_toIntS_0 R L x [] w (x.length : Nat) = _
    rw [hq, lt_f (Nat.le_refl _)]; rfl
  · have hq : lp_laws_toIntS_0 R L x [] w i = _ := round (by kernel_rfl) (q_laws_toIntS_0 R L x [] w i)
    show lp_laws_toIntS_0 R L x [] w i = _
    rw [hq, lt_t hlt, nn, tn, blt_t hlt, blt_t (n := w.length) (by omega), wrap_succ (i := i) (by omega)]
    rfl

theorem to_Result (x : D_Result) (hx : cnt T_Result x ≤ 1048576) : c_laws_toResult R x = some (x, ()) := by
  have hq : c_laws_toResult R x = _ := call (q_laws_toResult R L x)
  have hc : cnt T_Result x = (0 + (cnt (.sl (.int .i64)) x.2.1 + (0))) := rfl
  refine hq.trans ?_
  rw [to_IntS x.2.1 (by omega)]
  rfl

theorem to_ResultS (x : List (D_Result)) (hx : cnt (.sl T_Result) x ≤ 1048576) : c_laws_toResultS R x = some (x, ()) := by
  have hq : c_laws_toResultS R x = _ := call (q_laws_toResultS R L x)
  have hc : cnt (.sl T_Result) x = x.length + (x.map (cnt T_Result)).sum := rfl
  rw [hq, leI_self, tn, lenOK_t (by omega)]
  refine gen_to (fun w i => lp_laws_toResultS_0 R L x [] w i) x ((0 : Int), (([] : List (Int)), ())) (fun w hw => ?_) (fun w i hlt hw => ?_) _ 0 _ rfl (Nat.zero_le _) (by simp) (fun j hj => by omega)
  · have hq : lp_laws_toResultS_0 R L x [] w (x.length : Nat) = _ := round (by kernel_rfl) (q_laws_toResultS_0 R L x [] w (x.length : Nat))
    show lp_laws_toResultS_0 R L x [] w (x.length : Nat) = _
    rw [hq, lt_f (Nat.le_refl _)]; rfl
  · have hq : lp_laws_toResultS_0 R L x [] w i = _ := round (by kernel_rfl) (q_laws_toResultS_0 R L x [] w i)
    show lp_laws_toResultS_0 R L x [] w i = _
    rw [hq, lt_t hlt, nn, tn, blt_t hlt, blt_t (n := w.length) (by omega), wrap_succ (i := i) (by omega)]
    have hm : cnt T_Result (x.getD i ((0 : Int), (([] : List (Int)), ()))) ≤ cnt (.sl T_Result) x := cnt_mem (t := T_Result) (x := x) (d := ((0 : Int), (([] : List (Int)), ()))) hlt
    rw [to_Result _ (by omega)]
    rfl

theorem to_World (x : D_World) (hx : cnt T_World x ≤ 1048576) : c_laws_toWorld R x = some (x, ()) := by
  have hq : c_laws_toWorld R x = _ := call (q_laws_toWorld R L x)
  have hc : cnt T_World x = (cnt T_Store x.1 + (cnt T_Device x.2.1 + (cnt (.sl T_Entry) x.2.2.1 + (cnt (.sl (.sl T_Txn)) x.2.2.2.1 + (cnt (.sl T_Result) x.2.2.2.2.1 + (0 + (0))))))) := rfl
  refine hq.trans ?_
  rw [to_Store x.1 (by omega)]
  simp only [Option.bind_some]
  rw [to_Device x.2.1 (by omega)]
  simp only [Option.bind_some]
  rw [to_EntryS x.2.2.1 (by omega)]
  simp only [Option.bind_some]
  rw [to_TxnSS x.2.2.2.1 (by omega)]
  simp only [Option.bind_some]
  rw [to_ResultS x.2.2.2.2.1 (by omega)]
  rfl

theorem eq_StringS (x : List (List UInt8)) (hx : cnt (.sl .str) x ≤ 1048576) : c_laws_eqStringS R x x = some (true, ()) := by
  have hq : c_laws_eqStringS R x x = _ := call (q_laws_eqStringS R L x x)
  have hc : cnt (.sl .str) x = x.length + (x.map (cnt .str)).sum := rfl
  rw [hq]
  simp only [eqI_iff, decide_true, Bool.not_true, cond_false]
  refine gen_eq (fun i => lp_laws_eqStringS_0 R L x x false i) x ?_ (fun i hlt => ?_) _ 0 rfl (Nat.zero_le _)
  · have hq : lp_laws_eqStringS_0 R L x x false (x.length : Nat) = _ := round (by kernel_rfl) (q_laws_eqStringS_0 R L x x false (x.length : Nat))
    show lp_laws_eqStringS_0 R L x x false (x.length : Nat) = _
    rw [hq, lt_f (Nat.le_refl _)]; rfl
  · have hq : lp_laws_eqStringS_0 R L x x false i = _ := round (by kernel_rfl) (q_laws_eqStringS_0 R L x x false i)
    show lp_laws_eqStringS_0 R L x x false i = _
    rw [hq, lt_t hlt, nn, tn, blt_t hlt, wrap_succ (i := i) (by omega)]
    simp only [cond_true, eqI_iff, eqS_iff, decide_true, Bool.not_true, cond_false]

theorem eq_Register (x : D_Register) (hx : cnt T_Register x ≤ 1048576) : c_laws_eqRegister R x x = some (true, ()) := by
  have hq : c_laws_eqRegister R x x = _ := call (q_laws_eqRegister R L x x)
  have hc : cnt T_Register x = (0 + (0 + (0 + (0 + (x.2.2.2.2.1.length + (x.2.2.2.2.2.1.length + (x.2.2.2.2.2.2.1.length + (0)))))))) := rfl
  rw [hq]
  simp only [eqI_iff, eqS_iff, eqB, decide_true, Bool.not_true, cond_false, Option.bind_some]

theorem eq_Io (x : D_Io) (hx : cnt T_Io x ≤ 1048576) : c_laws_eqIo R x x = some (true, ()) := by
  have hq : c_laws_eqIo R x x = _ := call (q_laws_eqIo R L x x)
  have hc : cnt T_Io x = (0 + (x.2.1.length + (0))) := rfl
  rw [hq]
  simp only [eqI_iff, eqS_iff, eqB, decide_true, Bool.not_true, cond_false, Option.bind_some]

theorem eq_IoS (x : List (D_Io)) (hx : cnt (.sl T_Io) x ≤ 1048576) : c_laws_eqIoS R x x = some (true, ()) := by
  have hq : c_laws_eqIoS R x x = _ := call (q_laws_eqIoS R L x x)
  have hc : cnt (.sl T_Io) x = x.length + (x.map (cnt T_Io)).sum := rfl
  rw [hq]
  simp only [eqI_iff, decide_true, Bool.not_true, cond_false]
  refine gen_eq (fun i => lp_laws_eqIoS_0 R L x x false i) x ?_ (fun i hlt => ?_) _ 0 rfl (Nat.zero_le _)
  · have hq : lp_laws_eqIoS_0 R L x x false (x.length : Nat) = _ := round (by kernel_rfl) (q_laws_eqIoS_0 R L x x false (x.length : Nat))
    show lp_laws_eqIoS_0 R L x x false (x.length : Nat) = _
    rw [hq, lt_f (Nat.le_refl _)]; rfl
  · have hq : lp_laws_eqIoS_0 R L x x false i = _ := round (by kernel_rfl) (q_laws_eqIoS_0 R L x x false i)
    show lp_laws_eqIoS_0 R L x x false i = _
    rw [hq, lt_t hlt, nn, tn, blt_t hlt, wrap_succ (i := i) (by omega)]
    have hm : cnt T_Io (x.getD i ((0 : Int), (([] : List UInt8), ()))) ≤ cnt (.sl T_Io) x := cnt_mem (t := T_Io) (x := x) (d := ((0 : Int), (([] : List UInt8), ()))) hlt
    simp only [cond_true]
    rw [eq_Io _ (by omega)]
    simp only [Option.bind_some, Bool.not_true, cond_false]

theorem eq_Device (x : D_Device) (hx : cnt T_Device x ≤ 1048576) : c_laws_eqDevice R x x = some (true, ()) := by
  have hq : c_laws_eqDevice R x x = _ := call (q_laws_eqDevice R L x x)
  have hc : cnt T_Device x = (cnt (.sl .str) x.1 + (cnt (.sl T_Io) x.2.1 + (0))) := rfl
  have e1 := eq_StringS x.1 (by omega)
  have e2 := eq_IoS x.2.1 (by omega)
  rw [hq]
  simp only [eqI_iff, eqS_iff, eqB, decide_true, Bool.not_true, cond_false, Option.bind_some, e1, e2]

theorem eq_Store (x : D_Store) (hx : cnt T_Store x ≤ 1048576) : c_laws_eqStore R x x = some (true, ()) := by
  have hq : c_laws_eqStore R x x = _ := call (q_laws_eqStore R L x x)
  have hc : cnt T_Store x = (x.1.length + (cnt T_Register x.2.1 + (cnt T_Device x.2.2.1 + (0 + (0 + (0)))))) := rfl
  have e1 := eq_Register x.2.1 (by omega)
  have e2 := eq_Device x.2.2.1 (by omega)
  rw [hq]
  simp only [eqI_iff, eqS_iff, eqB, decide_true, Bool.not_true, cond_false, Option.bind_some, e1, e2]

theorem eq_Entry (x : D_Entry) (hx : cnt T_Entry x ≤ 1048576) : c_laws_eqEntry R x x = some (true, ()) := by
  have hq : c_laws_eqEntry R x x = _ := call (q_laws_eqEntry R L x x)
  have hc : cnt T_Entry x = (0 + (0 + (0))) := rfl
  rw [hq]
  simp only [eqI_iff, eqS_iff, eqB, decide_true, Bool.not_true, cond_false, Option.bind_some]

theorem eq_EntryS (x : List (D_Entry)) (hx : cnt (.sl T_Entry) x ≤ 1048576) : c_laws_eqEntryS R x x = some (true, ()) := by
  have hq : c_laws_eqEntryS R x x = _ := call (q_laws_eqEntryS R L x x)
  have hc : cnt (.sl T_Entry) x = x.length + (x.map (cnt T_Entry)).sum := rfl
  rw [hq]
  simp only [eqI_iff, decide_true, Bool.not_true, cond_false]
  refine gen_eq (fun i => lp_laws_eqEntryS_0 R L x x false i) x ?_ (fun i hlt => ?_) _ 0 rfl (Nat.zero_le _)
  · have hq : lp_laws_eqEntryS_0 R L x x false (x.length : Nat) = _ := round (by kernel_rfl) (q_laws_eqEntryS_0 R L x x false (x.length : Nat))
    show lp_laws_eqEntryS_0 R L x x false (x.length : Nat) = _
    rw [hq, lt_f (Nat.le_refl _)]; rfl
  · have hq : lp_laws_eqEntryS_0 R L x x false i = _ := round (by kernel_rfl) (q_laws_eqEntryS_0 R L x x false i)
    show lp_laws_eqEntryS_0 R L x x false i = _
    rw [hq, lt_t hlt, nn, tn, blt_t hlt, wrap_succ (i := i) (by omega)]
    have hm : cnt T_Entry (x.getD i ((0 : Int), ((0 : Int), ()))) ≤ cnt (.sl T_Entry) x := cnt_mem (t := T_Entry) (x := x) (d := ((0 : Int), ((0 : Int), ()))) hlt
    simp only [cond_true]
    rw [eq_Entry _ (by omega)]
    simp only [Option.bind_some, Bool.not_true, cond_false]

theorem eq_Op (x : D_Op) (hx : cnt T_Op x ≤ 1048576) : c_laws_eqOp R x x = some (true, ()) := by
  have hq : c_laws_eqOp R x x = _ := call (q_laws_eqOp R L x x)
  have hc : cnt T_Op x = (0 + (0 + (0 + (0)))) := rfl
  rw [hq]
  simp only [eqI_iff, eqS_iff, eqB, decide_true, Bool.not_true, cond_false, Option.bind_some]

theorem eq_OpS (x : List (D_Op)) (hx : cnt (.sl T_Op) x ≤ 1048576) : c_laws_eqOpS R x x = some (true, ()) := by
  have hq : c_laws_eqOpS R x x = _ := call (q_laws_eqOpS R L x x)
  have hc : cnt (.sl T_Op) x = x.length + (x.map (cnt T_Op)).sum := rfl
  rw [hq]
  simp only [eqI_iff, decide_true, Bool.not_true, cond_false]
  refine gen_eq (fun i => lp_laws_eqOpS_0 R L x x false i) x ?_ (fun i hlt => ?_) _ 0 rfl (Nat.zero_le _)
  · have hq : lp_laws_eqOpS_0 R L x x false (x.length : Nat) = _ := round (by kernel_rfl) (q_laws_eqOpS_0 R L x x false (x.length : Nat))
    show lp_laws_eqOpS_0 R L x x false (x.length : Nat) = _
    rw [hq, lt_f (Nat.le_refl _)]; rfl
  · have hq : lp_laws_eqOpS_0 R L x x false i = _ := round (by kernel_rfl) (q_laws_eqOpS_0 R L x x false i)
    show lp_laws_eqOpS_0 R L x x false i = _
    rw [hq, lt_t hlt, nn, tn, blt_t hlt, wrap_succ (i := i) (by omega)]
    have hm : cnt T_Op (x.getD i ((0 : Int), ((0 : Int), ((0 : Int), ())))) ≤ cnt (.sl T_Op) x := cnt_mem (t := T_Op) (x := x) (d := ((0 : Int), ((0 : Int), ((0 : Int), ())))) hlt
    simp only [cond_true]
    rw [eq_Op _ (by omega)]
    simp only [Option.bind_some, Bool.not_true, cond_false]

theorem eq_Txn (x : D_Txn) (hx : cnt T_Txn x ≤ 1048576) : c_laws_eqTxn R x x = some (true, ()) := by
  have hq : c_laws_eqTxn R x x = _ := call (q_laws_eqTxn R L x x)
  have hc : cnt T_Txn x = (cnt (.sl T_Op) x.1 + (0)) := rfl
  have e1 := eq_OpS x.1 (by omega)
  rw [hq]
  simp only [eqI_iff, eqS_iff, eqB, decide_true, Bool.not_true, cond_false, Option.bind_some, e1]

theorem eq_TxnS (x : List (D_Txn)) (hx : cnt (.sl T_Txn) x ≤ 1048576) : c_laws_eqTxnS R x x = some (true, ()) := by
  have hq : c_laws_eqTxnS R x x = _ := call (q_laws_eqTxnS R L x x)
  have hc : cnt (.sl T_Txn) x = x.length + (x.map (cnt T_Txn)).sum := rfl
  rw [hq]
  simp only [eqI_iff, decide_true, Bool.not_true, cond_false]
  refine gen_eq (fun i => lp_laws_eqTxnS_0 R L x x false i) x ?_ (fun i hlt => ?_) _ 0 rfl (Nat.zero_le _)
  · have hq : lp_laws_eqTxnS_0 R L x x false (x.length : Nat) = _ := round (by kernel_rfl) (q_laws_eqTxnS_0 R L x x false (x.length : Nat))
    show lp_laws_eqTxnS_0 R L x x false (x.length : Nat) = _
    rw [hq, lt_f (Nat.le_refl _)]; rfl
  · have hq : lp_laws_eqTxnS_0 R L x x false i = _ := round (by kernel_rfl) (q_laws_eqTxnS_0 R L x x false i)
    show lp_laws_eqTxnS_0 R L x x false i = _
    rw [hq, lt_t hlt, nn, tn, blt_t hlt, wrap_succ (i := i) (by omega)]
    have hm : cnt T_Txn (x.getD i (([] : List (D_Op)), ())) ≤ cnt (.sl T_Txn) x := cnt_mem (t := T_Txn) (x := x) (d := (([] : List (D_Op)), ())) hlt
    simp only [cond_true]
    rw [eq_Txn _ (by omega)]
    simp only [Option.bind_some, Bool.not_true, cond_false]

theorem eq_TxnSS (x : List (List (D_Txn))) (hx : cnt (.sl (.sl T_Txn)) x ≤ 1048576) : c_laws_eqTxnSS R x x = some (true, ()) := by
  have hq : c_laws_eqTxnSS R x x = _ := call (q_laws_eqTxnSS R L x x)
  have hc : cnt (.sl (.sl T_Txn)) x = x.length + (x.map (cnt (.sl T_Txn))).sum := rfl
  rw [hq]
  simp only [eqI_iff, decide_true, Bool.not_true, cond_false]
  refine gen_eq (fun i => lp_laws_eqTxnSS_0 R L x x false i) x ?_ (fun i hlt => ?_) _ 0 rfl (Nat.zero_le _)
  · have hq : lp_laws_eqTxnSS_0 R L x x false (x.length : Nat) = _ := round (by kernel_rfl) (q_laws_eqTxnSS_0 R L x x false (x.length : Nat))
    show lp_laws_eqTxnSS_0 R L x x false (x.length : Nat) = _
    rw [hq, lt_f (Nat.le_refl _)]; rfl
  · have hq : lp_laws_eqTxnSS_0 R L x x false i = _ := round (by kernel_rfl) (q_laws_eqTxnSS_0 R L x x false i)
    show lp_laws_eqTxnSS_0 R L x x false i = _
    rw [hq, lt_t hlt, nn, tn, blt_t hlt, wrap_succ (i := i) (by omega)]
    have hm : cnt (.sl T_Txn) (x.getD i ([] : List (D_Txn))) ≤ cnt (.sl (.sl T_Txn)) x := cnt_mem (t := (.sl T_Txn)) (x := x) (d := ([] : List (D_Txn))) hlt
    simp only [cond_true]
    rw [eq_TxnS _ (by omega)]
    simp only [Option.bind_some, Bool.not_true, cond_false]

theorem eq_IntS (x : List (Int)) (hx : cnt (.sl (.int .i64)) x ≤ 1048576) : c_laws_eqIntS R x x = some (true, ()) := by
  have hq : c_laws_eqIntS R x x = _ := call (q_laws_eqIntS R L x x)
  have hc : cnt (.sl (.int .i64)) x = x.length + (x.map (cnt (.int .i64))).sum := rfl
  rw [hq]
  simp only [eqI_iff, decide_true, Bool.not_true, cond_false]
  refine gen_eq (fun i => lp_laws_eqIntS_0 R L x x false i) x ?_ (fun i hlt => ?_) _ 0 rfl (Nat.zero_le _)
  · have hq : lp_laws_eqIntS_0 R L x x false (x.length : Nat) = _ := round (by kernel_rfl) (q_laws_eqIntS_0 R L x x false (x.length : Nat))
    show lp_laws_eqIntS_0 R L x x false (x.length : Nat) = _
    rw [hq, lt_f (Nat.le_refl _)]; rfl
  · have hq : lp_laws_eqIntS_0 R L x x false i = _ := round (by kernel_rfl) (q_laws_eqIntS_0 R L x x false i)
    show lp_laws_eqIntS_0 R L x x false i = _
    rw [hq, lt_t hlt, nn, tn, blt_t hlt, wrap_succ (i := i) (by omega)]
    simp only [cond_true, eqI_iff, eqS_iff, decide_true, Bool.not_true, cond_false]

theorem eq_Result (x : D_Result) (hx : cnt T_Result x ≤ 1048576) : c_laws_eqResult R x x = some (true, ()) := by
  have hq : c_laws_eqResult R x x = _ := call (q_laws_eqResult R L x x)
  have hc : cnt T_Result x = (0 + (cnt (.sl (.int .i64)) x.2.1 + (0))) := rfl
  have e1 := eq_IntS x.2.1 (by omega)
  rw [hq]
  simp only [eqI_iff, eqS_iff, eqB, decide_true, Bool.not_true, cond_false, Option.bind_some, e1]

theorem eq_ResultS (x : List (D_Result)) (hx : cnt (.sl T_Result) x ≤ 1048576) : c_laws_eqResultS R x x = some (true, ()) := by
  have hq : c_laws_eqResultS R x x = _ := call (q_laws_eqResultS R L x x)
  have hc : cnt (.sl T_Result) x = x.length + (x.map (cnt T_Result)).sum := rfl
  rw [hq]
  simp only [eqI_iff, decide_true, Bool.not_true, cond_false]
  refine gen_eq (fun i => lp_laws_eqResultS_0 R L x x false i) x ?_ (fun i hlt => ?_) _ 0 rfl (Nat.zero_le _)
  · have hq : lp_laws_eqResultS_0 R L x x false (x.length : Nat) = _ := round (by kernel_rfl) (q_laws_eqResultS_0 R L x x false (x.length : Nat))
    show lp_laws_eqResultS_0 R L x x false (x.length : Nat) = _
    rw [hq, lt_f (Nat.le_refl _)]; rfl
  · have hq : lp_laws_eqResultS_0 R L x x false i = _ := round (by kernel_rfl) (q_laws_eqResultS_0 R L x x false i)
    show lp_laws_eqResultS_0 R L x x false i = _
    rw [hq, lt_t hlt, nn, tn, blt_t hlt, wrap_succ (i := i) (by omega)]
    have hm : cnt T_Result (x.getD i ((0 : Int), (([] : List (Int)), ()))) ≤ cnt (.sl T_Result) x := cnt_mem (t := T_Result) (x := x) (d := ((0 : Int), (([] : List (Int)), ()))) hlt
    simp only [cond_true]
    rw [eq_Result _ (by omega)]
    simp only [Option.bind_some, Bool.not_true, cond_false]

theorem eq_World (x : D_World) (hx : cnt T_World x ≤ 1048576) : c_laws_eqWorld R x x = some (true, ()) := by
  have hq : c_laws_eqWorld R x x = _ := call (q_laws_eqWorld R L x x)
  have hc : cnt T_World x = (cnt T_Store x.1 + (cnt T_Device x.2.1 + (cnt (.sl T_Entry) x.2.2.1 + (cnt (.sl (.sl T_Txn)) x.2.2.2.1 + (cnt (.sl T_Result) x.2.2.2.2.1 + (0 + (0))))))) := rfl
  have e1 := eq_Store x.1 (by omega)
  have e2 := eq_Device x.2.1 (by omega)
  have e3 := eq_EntryS x.2.2.1 (by omega)
  have e4 := eq_TxnSS x.2.2.2.1 (by omega)
  have e5 := eq_ResultS x.2.2.2.2.1 (by omega)
  rw [hq]
  simp only [eqI_iff, eqS_iff, eqB, decide_true, Bool.not_true, cond_false, Option.bind_some, e1, e2, e3, e4, e5]


theorem mark_StringS (x : List (List UInt8)) (k : Nat) (hl : lens (.sl .str) x ≤ 4611686018427387904) (h : k + nmk false (.sl .str) x ≤ 4611686018427387904) : c_laws_markStringS R x k = some ((((mk_ mt false (.sl .str) x k).2 : Nat) : Int), ((mk_ mt false (.sl .str) x k).1, ())) := by
  have hq : c_laws_markStringS R x k = _ := call (q_laws_markStringS R L x k)
  have hc : nmk false (.sl .str) x = (x.map (nmk true .str)).sum := rfl
  have hn : lens (.sl .str) x = x.length + (x.map (lens .str)).sum := rfl
  have e := gen_mark (fun w k i => lp_laws_markStringS_0 R L w k 0 i) x.length ([] : List UInt8) (mk_ mt true .str) (nmk true .str) 4611686018427387904 (mk_snd mt true .str) (fun y => lens .str y ≤ 4611686018427387904) (fun w k hw => by
    have hq : lp_laws_markStringS_0 R L w k 0 (x.length : Nat) = _ := round (by kernel_rfl) (q_laws_markStringS_0 R L w k 0 (x.length : Nat))
    show lp_laws_markStringS_0 R L w k 0 (x.length : Nat) = _
    rw [hq, lt_f (by omega)]; rfl) (fun w k i hw hlt hb hQ => by
    have hlt : i < w.length := by omega
    have hq : lp_laws_markStringS_0 R L w k 0 i = _ := round (by kernel_rfl) (q_laws_markStringS_0 R L w k 0 i)
    show lp_laws_markStringS_0 R L w k 0 i = _
    have hb : k + 1 ≤ 4611686018427387904 := hb
    have f1 := mark_text (k) (by omega)
    have f2 := wrap_succ (i := k) (by omega)
    have fi := wrap_succ (i := i) (by omega)
    rw [hq, lt_t hlt]
    simp only [nn, tn, blt_t hlt, cond_true, List.length_set, ss, gs hlt, fi, Option.bind_some, f1, f2]
    rfl) _ 0 x k rfl (Nat.zero_le _) rfl (by rw [List.drop_zero]; exact h) (by rw [List.drop_zero]; exact fun y hy => Nat.le_trans (lens_in (t := .str) hy) hl)
  rw [hq]
  exact e

theorem mark_IoS (x : List (D_Io)) (k : Nat) (hl : lens (.sl T_Io) x ≤ 4611686018427387904) (h : k + nmk false (.sl T_Io) x ≤ 4611686018427387904) : c_laws_markIoS R x k = some ((((mk_ mt false (.sl T_Io) x k).2 : Nat) : Int), ((mk_ mt false (.sl T_Io) x k).1, ())) := by
  have hq : c_laws_markIoS R x k = _ := call (q_laws_markIoS R L x k)
  have hc : nmk false (.sl T_Io) x = (x.map (nmk true T_Io)).sum := rfl
  have hn : lens (.sl T_Io) x = x.length + (x.map (lens T_Io)).sum := rfl
  have e := gen_mark (fun w k i => lp_laws_markIoS_0 R L w k 0 i) x.length ((0 : Int), (([] : List UInt8), ())) (mk_ mt true T_Io) (nmk true T_Io) 4611686018427387904 (mk_snd mt true T_Io) (fun y => lens T_Io y ≤ 4611686018427387904) (fun w k hw => by
    have hq : lp_laws_markIoS_0 R L w k 0 (x.length : Nat) = _ := round (by kernel_rfl) (q_laws_markIoS_0 R L w k 0 (x.length : Nat))
    show lp_laws_markIoS_0 R L w k 0 (x.length : Nat) = _
    rw [hq, lt_f (by omega)]; rfl) (fun w k i hw hlt hb hQ => by
    have hlt : i < w.length := by omega
    have hq : lp_laws_markIoS_0 R L w k 0 i = _ := round (by kernel_rfl) (q_laws_markIoS_0 R L w k 0 i)
    show lp_laws_markIoS_0 R L w k 0 i = _
    have hQ : (0 + (0 + (0))) ≤ 4611686018427387904 := hQ
    have hb : k + (1 + (1 + (0))) ≤ 4611686018427387904 := hb
    have f1 := wrap_succ (i := k) (by omega)
    have f2 := mark_text (k + 1) (by omega)
    have f3 := wrap_succ (i := k + 1) (by omega)
    have fi := wrap_succ (i := i) (by omega)
    rw [hq, lt_t hlt]
    simp only [nn, tn, blt_t hlt, cond_true, List.length_set, ss, gs hlt, fi, Option.bind_some, f1, f2, f3]
    rfl) _ 0 x k rfl (Nat.zero_le _) rfl (by rw [List.drop_zero]; exact h) (by rw [List.drop_zero]; exact fun y hy => Nat.le_trans (lens_in (t := T_Io) hy) hl)
  rw [hq]
  exact e

theorem mark_Device (x : D_Device) (k : Nat) (hl : lens T_Device x ≤ 4611686018427387904) (h : k + nmk false T_Device x ≤ 4611686018427387904) : c_laws_markDevice R x k = some ((((mk_ mt false T_Device x k).2 : Nat) : Int), ((mk_ mt false T_Device x k).1, ())) := by
  have hq : c_laws_markDevice R x k = _ := call (q_laws_markDevice R L x k)
  have hn : lens T_Device x = (lens (.sl .str) x.1 + (lens (.sl T_Io) x.2.1 + (0))) := rfl
  have hc : nmk false T_Device x = (nmk false (.sl .str) x.1 + (nmk false (.sl T_Io) x.2.1 + (0))) := rfl
  rw [hq]
  refine bind_eq (mark_StringS x.1 (k) (by omega) (by omega)) ?_
  have s1 := mk_snd mt false (.sl .str) x.1 (k)
  refine bind_eq (mark_IoS x.2.1 ((mk_ mt false (.sl .str) x.1 (k)).2) (by omega) (by omega)) ?_
  have s2 := mk_snd mt false (.sl T_Io) x.2.1 ((mk_ mt false (.sl .str) x.1 (k)).2)
  rfl

theorem mark_Store (x : D_Store) (k : Nat) (hl : lens T_Store x ≤ 4611686018427387904) (h : k + nmk false T_Store x ≤ 4611686018427387904) : c_laws_markStore R x k = some ((((mk_ mt false T_Store x k).2 : Nat) : Int), ((mk_ mt false T_Store x k).1, ())) := by
  have hq : c_laws_markStore R x k = _ := call (q_laws_markStore R L x k)
  have hn : lens T_Store x = (0 + (lens T_Register x.2.1 + (lens T_Device x.2.2.1 + (0 + (0 + (0)))))) := rfl
  have hc : nmk false T_Store x = (0 + (nmk false T_Register x.2.1 + (nmk false T_Device x.2.2.1 + (0 + (0 + (0)))))) := rfl
  rw [hq]
  refine bind_eq (mark_Device x.2.2.1 (k) (by omega) (by omega)) ?_
  have s1 := mk_snd mt false T_Device x.2.2.1 (k)
  rfl

theorem mark_EntryS (x : List (D_Entry)) (k : Nat) (hl : lens (.sl T_Entry) x ≤ 4611686018427387904) (h : k + nmk false (.sl T_Entry) x ≤ 4611686018427387904) : c_laws_markEntryS R x k = some ((((mk_ mt false (.sl T_Entry) x k).2 : Nat) : Int), ((mk_ mt false (.sl T_Entry) x k).1, ())) := by
  have hq : c_laws_markEntryS R x k = _ := call (q_laws_markEntryS R L x k)
  have hc : nmk false (.sl T_Entry) x = (x.map (nmk true T_Entry)).sum := rfl
  have hn : lens (.sl T_Entry) x = x.length + (x.map (lens T_Entry)).sum := rfl
  have e := gen_mark (fun w k i => lp_laws_markEntryS_0 R L w k 0 i) x.length ((0 : Int), ((0 : Int), ())) (mk_ mt true T_Entry) (nmk true T_Entry) 4611686018427387904 (mk_snd mt true T_Entry) (fun y => lens T_Entry y ≤ 4611686018427387904) (fun w k hw => by
    have hq : lp_laws_markEntryS_0 R L w k 0 (x.length : Nat) = _ := round (by kernel_rfl) (q_laws_markEntryS_0 R L w k 0 (x.length : Nat))
    show lp_laws_markEntryS_0 R L w k 0 (x.length : Nat) = _
    rw [hq, lt_f (by omega)]; rfl) (fun w k i hw hlt hb hQ => by
    have hlt : i < w.length := by omega
    have hq : lp_laws_markEntryS_0 R L w k 0 i = _ := round (by kernel_rfl) (q_laws_markEntryS_0 R L w k 0 i)
    show lp_laws_markEntryS_0 R L w k 0 i = _
    have hQ : (0 + (0 + (0))) ≤ 4611686018427387904 := hQ
    have hb : k + (1 + (1 + (0))) ≤ 4611686018427387904 := hb
    have f1 := wrap_succ (i := k) (by omega)
    have f2 := wrap_succ (i := k + 1) (by omega)
    have fi := wrap_succ (i := i) (by omega)
    rw [hq, lt_t hlt]
    simp only [nn, tn, blt_t hlt, cond_true, List.length_set, ss, gs hlt, fi, Option.bind_some, f1, f2]
    rfl) _ 0 x k rfl (Nat.zero_le _) rfl (by rw [List.drop_zero]; exact h) (by rw [List.drop_zero]; exact fun y hy => Nat.le_trans (lens_in (t := T_Entry) hy) hl)
  rw [hq]
  exact e

theorem mark_OpS (x : List (D_Op)) (k : Nat) (hl : lens (.sl T_Op) x ≤ 4611686018427387904) (h : k + nmk false (.sl T_Op) x ≤ 4611686018427387904) : c_laws_markOpS R x k = some ((((mk_ mt false (.sl T_Op) x k).2 : Nat) : Int), ((mk_ mt false (.sl T_Op) x k).1, ())) := by
  have hq : c_laws_markOpS R x k = _ := call (q_laws_markOpS R L x k)
  have hc : nmk false (.sl T_Op) x = (x.map (nmk true T_Op)).sum := rfl
  have hn : lens (.sl T_Op) x = x.length + (x.map (lens T_Op)).sum := rfl
  have e := gen_mark (fun w k i => lp_laws_markOpS_0 R L w k 0 i) x.length ((0 : Int), ((0 : Int), ((0 : Int), ()))) (mk_ mt true T_Op) (nmk true T_Op) 4611686018427387904 (mk_snd mt true T_Op) (fun y => lens T_Op y ≤ 4611686018427387904) (fun w k hw => by
    have hq : lp_laws_markOpS_0 R L w k 0 (x.length : Nat) = _ := round (by kernel_rfl) (q_laws_markOpS_0 R L w k 0 (x.length : Nat))
    show lp_laws_markOpS_0 R L w k 0 (x.length : Nat) = _
    rw [hq, lt_f (by omega)]; rfl) (fun w k i hw hlt hb hQ => by
    have hlt : i < w.length := by omega
    have hq : lp_laws_markOpS_0 R L w k 0 i = _ := round (by kernel_rfl) (q_laws_markOpS_0 R L w k 0 i)
    show lp_laws_markOpS_0 R L w k 0 i = _
    have hQ : (0 + (0 + (0 + (0)))) ≤ 4611686018427387904 := hQ
    have hb : k + (1 + (1 + (1 + (0)))) ≤ 4611686018427387904 := hb
    have f1 := wrap_succ (i := k) (by omega)
    have f2 := wrap_succ (i := k + 1) (by omega)
    have f3 := wrap_succ (i := k + 1 + 1) (by omega)
    have fi := wrap_succ (i := i) (by omega)
    rw [hq, lt_t hlt]
    simp only [nn, tn, blt_t hlt, cond_true, List.length_set, ss, gs hlt, fi, Option.bind_some, f1, f2, f3]
    rfl) _ 0 x k rfl (Nat.zero_le _) rfl (by rw [List.drop_zero]; exact h) (by rw [List.drop_zero]; exact fun y hy => Nat.le_trans (lens_in (t := T_Op) hy) hl)
  rw [hq]
  exact e

theorem mark_TxnS (x : List (D_Txn)) (k : Nat) (hl : lens (.sl T_Txn) x ≤ 4611686018427387904) (h : k + nmk false (.sl T_Txn) x ≤ 4611686018427387904) : c_laws_markTxnS R x k = some ((((mk_ mt false (.sl T_Txn) x k).2 : Nat) : Int), ((mk_ mt false (.sl T_Txn) x k).1, ())) := by
  have hq : c_laws_markTxnS R x k = _ := call (q_laws_markTxnS R L x k)
  have hc : nmk false (.sl T_Txn) x = (x.map (nmk true T_Txn)).sum := rfl
  have hn : lens (.sl T_Txn) x = x.length + (x.map (lens T_Txn)).sum := rfl
  have e := gen_mark (fun w k i => lp_laws_markTxnS_0 R L w k 0 i) x.length (([] : List (D_Op)), ()) (mk_ mt true T_Txn) (nmk true T_Txn) 4611686018427387904 (mk_snd mt true T_Txn) (fun y => lens T_Txn y ≤ 4611686018427387904) (fun w k hw => by
    have hq : lp_laws_markTxnS_0 R L w k 0 (x.length : Nat) = _ := round (by kernel_rfl) (q_laws_markTxnS_0 R L w k 0 (x.length : Nat))
    show lp_laws_markTxnS_0 R L w k 0 (x.length : Nat) = _
    rw [hq, lt_f (by omega)]; rfl) (fun w k i hw hlt hb hQ => by
    have hlt : i < w.length := by omega
    have hq : lp_laws_markTxnS_0 R L w k 0 i = _ := round (by kernel_rfl) (q_laws_markTxnS_0 R L w k 0 i)
    show lp_laws_markTxnS_0 R L w k 0 i = _
    have hQ : (lens (.sl T_Op) (w.getD i (([] : List (D_Op)), ())).1 + (0)) ≤ 4611686018427387904 := hQ
    have hb : k + (nmk true (.sl T_Op) (w.getD i (([] : List (D_Op)), ())).1 + (0)) ≤ 4611686018427387904 := hb
    have f1 := mark_OpS (w.getD i (([] : List (D_Op)), ())).1 (k) (by first | exact hQ | omega) (by show _ + nmk true (.sl T_Op) _ ≤ _; first | exact hb | omega)
    have f2 := mk_snd mt true (.sl T_Op) (w.getD i (([] : List (D_Op)), ())).1 (k)
    have fi := wrap_succ (i := i) (by omega)
    rw [hq, lt_t hlt]
    simp only [nn, tn, blt_t hlt, cond_true, List.length_set, ss, gs hlt, fi, Option.bind_some, f1]
    rfl) _ 0 x k rfl (Nat.zero_le _) rfl (by rw [List.drop_zero]; exact h) (by rw [List.drop_zero]; exact fun y hy => Nat.le_trans (lens_in (t := T_Txn) hy) hl)
  rw [hq]
  exact e

theorem mark_TxnSS (x : List (List (D_Txn))) (k : Nat) (hl : lens (.sl (.sl T_Txn)) x ≤ 4611686018427387904) (h : k + nmk false (.sl (.sl T_Txn)) x ≤ 4611686018427387904) : c_laws_markTxnSS R x k = some ((((mk_ mt false (.sl (.sl T_Txn)) x k).2 : Nat) : Int), ((mk_ mt false (.sl (.sl T_Txn)) x k).1, ())) := by
  have hq : c_laws_markTxnSS R x k = _ := call (q_laws_markTxnSS R L x k)
  have hc : nmk false (.sl (.sl T_Txn)) x = (x.map (nmk true (.sl T_Txn))).sum := rfl
  have hn : lens (.sl (.sl T_Txn)) x = x.length + (x.map (lens (.sl T_Txn))).sum := rfl
  have e := gen_mark (fun w k i => lp_laws_markTxnSS_0 R L w k 0 i) x.length ([] : List (D_Txn)) (mk_ mt true (.sl T_Txn)) (nmk true (.sl T_Txn)) 4611686018427387904 (mk_snd mt true (.sl T_Txn)) (fun y => lens (.sl T_Txn) y ≤ 4611686018427387904) (fun w k hw => by
    have hq : lp_laws_markTxnSS_0 R L w k 0 (x.length : Nat) = _ := round (by kernel_rfl) (q_laws_markTxnSS_0 R L w k 0 (x.length : Nat))
    show lp_laws_markTxnSS_0 R L w k 0 (x.length : Nat) = _
    rw [hq, lt_f (by omega)]; rfl) (fun w k i hw hlt hb hQ => by
    have hlt : i < w.length := by omega
    have hq : lp_laws_markTxnSS_0 R L w k 0 i = _ := round (by kernel_rfl) (q_laws_markTxnSS_0 R L w k 0 i)
    show lp_laws_markTxnSS_0 R L w k 0 i = _
    have f1 := mark_TxnS (w.getD i ([] : List (D_Txn))) (k) (by first | exact hQ | omega) (by show _ + nmk true (.sl T_Txn) _ ≤ _; first | exact hb | omega)
    have f2 := mk_snd mt true (.sl T_Txn) (w.getD i ([] : List (D_Txn))) (k)
    have fi := wrap_succ (i := i) (by omega)
    rw [hq, lt_t hlt]
    simp only [nn, tn, blt_t hlt, cond_true, List.length_set, ss, gs hlt, fi, Option.bind_some, f1]
    rfl) _ 0 x k rfl (Nat.zero_le _) rfl (by rw [List.drop_zero]; exact h) (by rw [List.drop_zero]; exact fun y hy => Nat.le_trans (lens_in (t := (.sl T_Txn)) hy) hl)
  rw [hq]
  exact e

theorem mark_IntS (x : List (Int)) (k : Nat) (hl : lens (.sl (.int .i64)) x ≤ 4611686018427387904) (h : k + nmk false (.sl (.int .i64)) x ≤ 4611686018427387904) : c_laws_markIntS R x k = some ((((mk_ mt false (.sl (.int .i64)) x k).2 : Nat) : Int), ((mk_ mt false (.sl (.int .i64)) x k).1, ())) := by
  have hq : c_laws_markIntS R x k = _ := call (q_laws_markIntS R L x k)
  have hc : nmk false (.sl (.int .i64)) x = (x.map (nmk true (.int .i64))).sum := rfl
  have hn : lens (.sl (.int .i64)) x = x.length + (x.map (lens (.int .i64))).sum := rfl
  have e := gen_mark (fun w k i => lp_laws_markIntS_0 R L w k 0 i) x.length (0 : Int) (mk_ mt true (.int .i64)) (nmk true (.int .i64)) 4611686018427387904 (mk_snd mt true (.int .i64)) (fun y => lens (.int .i64) y ≤ 4611686018427387904) (fun w k hw => by
    have hq : lp_laws_markIntS_0 R L w k 0 (x.length : Nat) = _ := round (by kernel_rfl) (q_laws_markIntS_0 R L w k 0 (x.length : Nat))
    show lp_laws_markIntS_0 R L w k 0 (x.length : Nat) = _
    rw [hq, lt_f (by omega)]; rfl) (fun w k i hw hlt hb hQ => by
    have hlt : i < w.length := by omega
    have hq : lp_laws_markIntS_0 R L w k 0 i = _ := round (by kernel_rfl) (q_laws_markIntS_0 R L w k 0 i)
    show lp_laws_markIntS_0 R L w k 0 i = _
    have hb : k + 1 ≤ 4611686018427387904 := hb
    have f1 := wrap_succ (i := k) (by omega)
    have fi := wrap_succ (i := i) (by omega)
    rw [hq, lt_t hlt]
    simp only [nn, tn, blt_t hlt, cond_true, List.length_set, ss, gs hlt, fi, Option.bind_some, f1]
    rfl) _ 0 x k rfl (Nat.zero_le _) rfl (by rw [List.drop_zero]; exact h) (by rw [List.drop_zero]; exact fun y hy => Nat.le_trans (lens_in (t := (.int .i64)) hy) hl)
  rw [hq]
  exact e

theorem mark_ResultS (x : List (D_Result)) (k : Nat) (hl : lens (.sl T_Result) x ≤ 4611686018427387904) (h : k + nmk false (.sl T_Result) x ≤ 4611686018427387904) : c_laws_markResultS R x k = some ((((mk_ mt false (.sl T_Result) x k).2 : Nat) : Int), ((mk_ mt false (.sl T_Result) x k).1, ())) := by
  have hq : c_laws_markResultS R x k = _ := call (q_laws_markResultS R L x k)
  have hc : nmk false (.sl T_Result) x = (x.map (nmk true T_Result)).sum := rfl
  have hn : lens (.sl T_Result) x = x.length + (x.map (lens T_Result)).sum := rfl
  have e := gen_mark (fun w k i => lp_laws_markResultS_0 R L w k 0 i) x.length ((0 : Int), (([] : List (Int)), ())) (mk_ mt true T_Result) (nmk true T_Result) 4611686018427387904 (mk_snd mt true T_Result) (fun y => lens T_Result y ≤ 4611686018427387904) (fun w k hw => by
    have hq : lp_laws_markResultS_0 R L w k 0 (x.length : Nat) = _ := round (by kernel_rfl) (q_laws_markResultS_0 R L w k 0 (x.length : Nat))
    show lp_laws_markResultS_0 R L w k 0 (x.length : Nat) = _
    rw [hq, lt_f (by omega)]; rfl) (fun w k i hw hlt hb hQ => by
    have hlt : i < w.length := by omega
    have hq : lp_laws_markResultS_0 R L w k 0 i = _ := round (by kernel_rfl) (q_laws_markResultS_0 R L w k 0 i)
    show lp_laws_markResultS_0 R L w k 0 i = _
    have hQ : (0 + (lens (.sl (.int .i64)) (w.getD i ((0 : Int), (([] : List (Int)), ()))).2.1 + (0))) ≤ 4611686018427387904 := hQ
    have hb : k + (1 + (nmk true (.sl (.int .i64)) (w.getD i ((0 : Int), (([] : List (Int)), ()))).2.1 + (0))) ≤ 4611686018427387904 := hb
    have f1 := wrap_succ (i := k) (by omega)
    have f2 := mark_IntS (w.getD i ((0 : Int), (([] : List (Int)), ()))).2.1 (k + 1) (by first | exact hQ | omega) (by show _ + nmk true (.sl (.int .i64)) _ ≤ _; first | exact hb | omega)
    have f3 := mk_snd mt true (.sl (.int .i64)) (w.getD i ((0 : Int), (([] : List (Int)), ()))).2.1 (k + 1)
    have fi := wrap_succ (i := i) (by omega)
    rw [hq, lt_t hlt]
    simp only [nn, tn, blt_t hlt, cond_true, List.length_set, ss, gs hlt, fi, Option.bind_some, f1, f2]
    rfl) _ 0 x k rfl (Nat.zero_le _) rfl (by rw [List.drop_zero]; exact h) (by rw [List.drop_zero]; exact fun y hy => Nat.le_trans (lens_in (t := T_Result) hy) hl)
  rw [hq]
  exact e

theorem mark_World (x : D_World) (k : Nat) (hl : lens T_World x ≤ 4611686018427387904) (h : k + nmk false T_World x ≤ 4611686018427387904) : c_laws_markWorld R x k = some ((((mk_ mt false T_World x k).2 : Nat) : Int), ((mk_ mt false T_World x k).1, ())) := by
  have hq : c_laws_markWorld R x k = _ := call (q_laws_markWorld R L x k)
  have hn : lens T_World x = (lens T_Store x.1 + (lens T_Device x.2.1 + (lens (.sl T_Entry) x.2.2.1 + (lens (.sl (.sl T_Txn)) x.2.2.2.1 + (lens (.sl T_Result) x.2.2.2.2.1 + (0 + (0))))))) := rfl
  have hc : nmk false T_World x = (nmk false T_Store x.1 + (nmk false T_Device x.2.1 + (nmk false (.sl T_Entry) x.2.2.1 + (nmk false (.sl (.sl T_Txn)) x.2.2.2.1 + (nmk false (.sl T_Result) x.2.2.2.2.1 + (0 + (0))))))) := rfl
  rw [hq]
  refine bind_eq (mark_Store x.1 (k) (by omega) (by omega)) ?_
  have s1 := mk_snd mt false T_Store x.1 (k)
  refine bind_eq (mark_Device x.2.1 ((mk_ mt false T_Store x.1 (k)).2) (by omega) (by omega)) ?_
  have s2 := mk_snd mt false T_Device x.2.1 ((mk_ mt false T_Store x.1 (k)).2)
  refine bind_eq (mark_EntryS x.2.2.1 ((mk_ mt false T_Device x.2.1 ((mk_ mt false T_Store x.1 (k)).2)).2) (by omega) (by omega)) ?_
  have s3 := mk_snd mt false (.sl T_Entry) x.2.2.1 ((mk_ mt false T_Device x.2.1 ((mk_ mt false T_Store x.1 (k)).2)).2)
  refine bind_eq (mark_TxnSS x.2.2.2.1 ((mk_ mt false (.sl T_Entry) x.2.2.1 ((mk_ mt false T_Device x.2.1 ((mk_ mt false T_Store x.1 (k)).2)).2)).2) (by omega) (by omega)) ?_
  have s4 := mk_snd mt false (.sl (.sl T_Txn)) x.2.2.2.1 ((mk_ mt false (.sl T_Entry) x.2.2.1 ((mk_ mt false T_Device x.2.1 ((mk_ mt false T_Store x.1 (k)).2)).2)).2)
  refine bind_eq (mark_ResultS x.2.2.2.2.1 ((mk_ mt false (.sl (.sl T_Txn)) x.2.2.2.1 ((mk_ mt false (.sl T_Entry) x.2.2.1 ((mk_ mt false T_Device x.2.1 ((mk_ mt false T_Store x.1 (k)).2)).2)).2)).2) (by omega) (by omega)) ?_
  have s5 := mk_snd mt false (.sl T_Result) x.2.2.2.2.1 ((mk_ mt false (.sl (.sl T_Txn)) x.2.2.2.1 ((mk_ mt false (.sl T_Entry) x.2.2.1 ((mk_ mt false T_Device x.2.1 ((mk_ mt false T_Store x.1 (k)).2)).2)).2)).2)
  rfl

theorem held_StringS (x : List (List UInt8)) (k k' : Nat) (hl : lens (.sl .str) x ≤ 4611686018427387904) (h : k' ≤ 4611686018427387904) (hh : hd_ mt false (.sl .str) x k = some k') : c_laws_heldStringS R x k = some ((k' : Int), ()) := by
  have hq : c_laws_heldStringS R x k = _ := call (q_laws_heldStringS R L x k)
  have hn : lens (.sl .str) x = x.length + (x.map (lens .str)).sum := rfl
  have e := gen_held (fun k i => lp_laws_heldStringS_0 R L x k 0 i) x ([] : List UInt8) (hd_ mt true .str) (nmk true .str) 4611686018427387904 (hd_len mt true .str) (fun k => by
    have hq : lp_laws_heldStringS_0 R L x k 0 (x.length : Nat) = _ := round (by kernel_rfl) (q_laws_heldStringS_0 R L x k 0 (x.length : Nat))
    show lp_laws_heldStringS_0 R L x k 0 (x.length : Nat) = _
    rw [hq, lt_f (Nat.le_refl _)]; rfl) (fun k i k' hlt hh hb => by
    have hq : lp_laws_heldStringS_0 R L x k 0 i = _ := round (by kernel_rfl) (q_laws_heldStringS_0 R L x k 0 i)
    show lp_laws_heldStringS_0 R L x k 0 i = _
    have hm : lens .str (x.getD i ([] : List UInt8)) ≤ lens (.sl .str) x := lens_mem (t := .str) (x := x) (d := ([] : List UInt8)) hlt
    have fi := wrap_succ (i := i) (by omega)
    obtain ⟨g1, hh⟩ := cond_none hh
    have g1 : eqS (x.getD i ([] : List UInt8)) (mt (k)) = true := g1
    injection hh with hh
    have m1 := mark_text (k) (by omega)
    have w1 := wrap_succ (i := k) (by omega)
    rw [hq, lt_t hlt]
    simp only [nn, tn, blt_t hlt, cond_true, fi, Option.bind_some, nlt0, cond_false, Bool.not_true, m1, g1, w1]
    rw [← hh]) _ 0 k k' rfl (Nat.zero_le _) h (by rw [List.drop_zero]; exact hh)
  rw [hq]
  exact e

abbrev n_impl_areAll_string__1 : FuncId := 136
theorem cv_impl_areAll_string__1 (R : Run EE) (s0 : List UInt8) (a0 : FnVal) : callVB EE R (.mk 136 (.fn a0 .nil)) [⟨.str, s0⟩] = (c_impl_areAll_string__1 R s0 a0).map (·.1) := by kernel_rfl

abbrev n_impl_areAll_impl_Io__1 : FuncId := 185
theorem cv_impl_areAll_impl_Io__1 (R : Run EE) (s0 : D_Io) (a0 : FnVal) : callVB EE R (.mk 185 (.fn a0 .nil)) [⟨T_Io, s0⟩] = (c_impl_areAll_impl_Io__1 R s0 a0).map (·.1) := by kernel_rfl

abbrev n_impl_isContent : FuncId := 156
theorem cv_impl_isContent (R : Run EE) (s0 : List UInt8)  : callVB EE R (.mk 156 .nil) [⟨.str, s0⟩] = (c_impl_isContent R s0 ).map (·.1) := by kernel_rfl

abbrev n_impl_DeviceOK_1 : FuncId := 158
theorem cv_impl_DeviceOK_1 (R : Run EE) (s0 : D_Io)  : callVB EE R (.mk 158 .nil) [⟨T_Io, s0⟩] = (c_impl_DeviceOK_1 R s0 ).map (·.1) := by kernel_rfl

abbrev n_impl_areAll___impl_Txn__1 : FuncId := 120
theorem cv_impl_areAll___impl_Txn__1 (R : Run EE) (s0 : List (D_Txn)) (a0 : FnVal) : callVB EE R (.mk 120 (.fn a0 .nil)) [⟨(.sl T_Txn), s0⟩] = (c_impl_areAll___impl_Txn__1 R s0 a0).map (·.1) := by kernel_rfl

abbrev n_impl_areAll_impl_Txn__1 : FuncId := 161
theorem cv_impl_areAll_impl_Txn__1 (R : Run EE) (s0 : D_Txn) (a0 : FnVal) : callVB EE R (.mk 161 (.fn a0 .nil)) [⟨T_Txn, s0⟩] = (c_impl_areAll_impl_Txn__1 R s0 a0).map (·.1) := by kernel_rfl

abbrev n_impl_areAll_impl_Op__1 : FuncId := 188
theorem cv_impl_areAll_impl_Op__1 (R : Run EE) (s0 : D_Op) (a0 : FnVal) : callVB EE R (.mk 188 (.fn a0 .nil)) [⟨T_Op, s0⟩] = (c_impl_areAll_impl_Op__1 R s0 a0).map (·.1) := by kernel_rfl

abbrev n_impl_OpOK : FuncId := 163
theorem cv_impl_OpOK (R : Run EE) (s0 : D_Op)  : callVB EE R (.mk 163 .nil) [⟨T_Op, s0⟩] = (c_impl_OpOK R s0 ).map (·.1) := by kernel_rfl

abbrev n_impl_isTxn : FuncId := 123
theorem cv_impl_isTxn (R : Run EE) (s0 : D_Txn)  : callVB EE R (.mk 123 .nil) [⟨T_Txn, s0⟩] = (c_impl_isTxn R s0 ).map (·.1) := by kernel_rfl

abbrev n_impl_areAll_impl_Result__1 : FuncId := 165
theorem cv_impl_areAll_impl_Result__1 (R : Run EE) (s0 : D_Result) (a0 : FnVal) : callVB EE R (.mk 165 (.fn a0 .nil)) [⟨T_Result, s0⟩] = (c_impl_areAll_impl_Result__1 R s0 a0).map (·.1) := by kernel_rfl

abbrev n_impl_areAll_int__1 : FuncId := 191
theorem cv_impl_areAll_int__1 (R : Run EE) (s0 : Int) (a0 : FnVal) : callVB EE R (.mk 191 (.fn a0 .nil)) [⟨(.int .i64), s0⟩] = (c_impl_areAll_int__1 R s0 a0).map (·.1) := by kernel_rfl

abbrev n_impl_isValue : FuncId := 118
theorem cv_impl_isValue (R : Run EE) (s0 : Int)  : callVB EE R (.mk 118 .nil) [⟨(.int .i64), s0⟩] = (c_impl_isValue R s0 ).map (·.1) := by kernel_rfl

abbrev n_impl_isResult : FuncId := 125
theorem cv_impl_isResult (R : Run EE) (s0 : D_Result)  : callVB EE R (.mk 125 .nil) [⟨T_Result, s0⟩] = (c_impl_isResult R s0 ).map (·.1) := by kernel_rfl

abbrev n_impl_BatchOK : FuncId := 77
theorem cv_impl_BatchOK (R : Run EE) (s0 : List (D_Txn))  : callVB EE R (.mk 77 .nil) [⟨(.sl T_Txn), s0⟩] = (c_impl_BatchOK R s0 ).map (·.1) := by kernel_rfl

theorem idx_slices_IndexFunc___string_string_ (x : List (List UInt8)) (w : FnVal) (p : List UInt8 → Bool) (hl : x.length ≤ 4611686018427387904) (hp : ∀ s ∈ x, callVB EE R w [⟨.str, s⟩] = some (p s)) : c_slices_IndexFunc___string_string_ R x w = some (idxF p x 0, ()) := by
  have hq : c_slices_IndexFunc___string_string_ R x w = _ := call (q_slices_IndexFunc___string_string_ R L x w)
  have hq0 : lp_slices_IndexFunc___string_string__0 R L x w 0 x.length 0 = _ := round (by kernel_rfl) (q_slices_IndexFunc___string_string__0 R L x w 0 x.length 0)
  have hq1 : lp_slices_IndexFunc___string_string__1 R L x w 0 0 x.length 0 = _ := round (by kernel_rfl) (q_slices_IndexFunc___string_string__1 R L x w 0 0 x.length 0)
  rw [hq, hq0.trans hq1.symm]
  refine gen_idx (fun a i => lp_slices_IndexFunc___string_string__1 R L x w 0 a x.length i) x ([] : List UInt8) p (fun a => ?_) (fun a i hlt => ?_) _ 0 0 rfl (Nat.zero_le _)
  · have hq : lp_slices_IndexFunc___string_string__1 R L x w 0 a x.length (x.length : Nat) = _ := round (by kernel_rfl) (q_slices_IndexFunc___string_string__1 R L x w 0 a x.length (x.length : Nat))
    show lp_slices_IndexFunc___string_string__1 R L x w 0 a x.length (x.length : Nat) = _
    rw [hq, lt_f (Nat.le_refl _)]; rfl
  · have hq : lp_slices_IndexFunc___string_string__1 R L x w 0 a x.length i = _ := round (by kernel_rfl) (q_slices_IndexFunc___string_string__1 R L x w 0 a x.length i)
    show lp_slices_IndexFunc___string_string__1 R L x w 0 a x.length i = _
    rw [hq, lt_t hlt, nn, tn, blt_t hlt, wrap_succ (by omega)]
    simp only [cond_true]
    rw [hp _ (getD_mem (d := ([] : List UInt8)) hlt)]
    rfl

theorem idx_slices_IndexFunc___impl_Io_impl_Io_ (x : List (D_Io)) (w : FnVal) (p : D_Io → Bool) (hl : x.length ≤ 4611686018427387904) (hp : ∀ s ∈ x, callVB EE R w [⟨T_Io, s⟩] = some (p s)) : c_slices_IndexFunc___impl_Io_impl_Io_ R x w = some (idxF p x 0, ()) := by
  have hq : c_slices_IndexFunc___impl_Io_impl_Io_ R x w = _ := call (q_slices_IndexFunc___impl_Io_impl_Io_ R L x w)
  have hq0 : lp_slices_IndexFunc___impl_Io_impl_Io__0 R L x w 0 x.length 0 = _ := round (by kernel_rfl) (q_slices_IndexFunc___impl_Io_impl_Io__0 R L x w 0 x.length 0)
  have hq1 : lp_slices_IndexFunc___impl_Io_impl_Io__1 R L x w 0 0 x.length 0 = _ := round (by kernel_rfl) (q_slices_IndexFunc___impl_Io_impl_Io__1 R L x w 0 0 x.length 0)
  rw [hq, hq0.trans hq1.symm]
  refine gen_idx (fun a i => lp_slices_IndexFunc___impl_Io_impl_Io__1 R L x w 0 a x.length i) x ((0 : Int), (([] : List UInt8), ())) p (fun a => ?_) (fun a i hlt => ?_) _ 0 0 rfl (Nat.zero_le _)
  · have hq : lp_slices_IndexFunc___impl_Io_impl_Io__1 R L x w 0 a x.length (x.length : Nat) = _ := round (by kernel_rfl) (q_slices_IndexFunc___impl_Io_impl_Io__1 R L x w 0 a x.length (x.length : Nat))
    show lp_slices_IndexFunc___impl_Io_impl_Io__1 R L x w 0 a x.length (x.length : Nat) = _
    rw [hq, lt_f (Nat.le_refl _)]; rfl
  · have hq : lp_slices_IndexFunc___impl_Io_impl_Io__1 R L x w 0 a x.length i = _ := round (by kernel_rfl) (q_slices_IndexFunc___impl_Io_impl_Io__1 R L x w 0 a x.length i)
    show lp_slices_IndexFunc___impl_Io_impl_Io__1 R L x w 0 a x.length i = _
    rw [hq, lt_t hlt, nn, tn, blt_t hlt, wrap_succ (by omega)]
    simp only [cond_true]
    rw [hp _ (getD_mem (d := ((0 : Int), (([] : List UInt8), ()))) hlt)]
    rfl

theorem idx_slices_IndexFunc_____impl_Txn___impl_Txn_ (x : List (List (D_Txn))) (w : FnVal) (p : List (D_Txn) → Bool) (hl : x.length ≤ 4611686018427387904) (hp : ∀ s ∈ x, callVB EE R w [⟨(.sl T_Txn), s⟩] = some (p s)) : c_slices_IndexFunc_____impl_Txn___impl_Txn_ R x w = some (idxF p x 0, ()) := by
  have hq : c_slices_IndexFunc_____impl_Txn___impl_Txn_ R x w = _ := call (q_slices_IndexFunc_____impl_Txn___impl_Txn_ R L x w)
  have hq0 : lp_slices_IndexFunc_____impl_Txn___impl_Txn__0 R L x w 0 x.length 0 = _ := round (by kernel_rfl) (q_slices_IndexFunc_____impl_Txn___impl_Txn__0 R L x w 0 x.length 0)
  have hq1 : lp_slices_IndexFunc_____impl_Txn___impl_Txn__1 R L x w 0 0 x.length 0 = _ := round (by kernel_rfl) (q_slices_IndexFunc_____impl_Txn___impl_Txn__1 R L x w 0 0 x.length 0)
  rw [hq, hq0.trans hq1.symm]
  refine gen_idx (fun a i => lp_slices_IndexFunc_____impl_Txn___impl_Txn__1 R L x w 0 a x.length i) x ([] : List (D_Txn)) p (fun a => ?_) (fun a i hlt => ?_) _ 0 0 rfl (Nat.zero_le _)
  · have hq : lp_slices_IndexFunc_____impl_Txn___impl_Txn__1 R L x w 0 a x.length (x.length : Nat) = _ := round (by kernel_rfl) (q_slices_IndexFunc_____impl_Txn___impl_Txn__1 R L x w 0 a x.length (x.length : Nat))
    show lp_slices_IndexFunc_____impl_Txn___impl_Txn__1 R L x w 0 a x.length (x.length : Nat) = _
    rw [hq, lt_f (Nat.le_refl _)]; rfl
  · have hq : lp_slices_IndexFunc_____impl_Txn___impl_Txn__1 R L x w 0 a x.length i = _ := round (by kernel_rfl) (q_slices_IndexFunc_____impl_Txn___impl_Txn__1 R L x w 0 a x.length i)
    show lp_slices_IndexFunc_____impl_Txn___impl_Txn__1 R L x w 0 a x.length i = _
    rw [hq, lt_t hlt, nn, tn, blt_t hlt, wrap_succ (by omega)]
    simp only [cond_true]
    rw [hp _ (getD_mem (d := ([] : List (D_Txn))) hlt)]
    rfl

theorem idx_slices_IndexFunc___impl_Txn_impl_Txn_ (x : List (D_Txn)) (w : FnVal) (p : D_Txn → Bool) (hl : x.length ≤ 4611686018427387904) (hp : ∀ s ∈ x, callVB EE R w [⟨T_Txn, s⟩] = some (p s)) : c_slices_IndexFunc___impl_Txn_impl_Txn_ R x w = some (idxF p x 0, ()) := by
  have hq : c_slices_IndexFunc___impl_Txn_impl_Txn_ R x w = _ := call (q_slices_IndexFunc___impl_Txn_impl_Txn_ R L x w)
  have hq0 : lp_slices_IndexFunc___impl_Txn_impl_Txn__0 R L x w 0 x.length 0 = _ := round (by kernel_rfl) (q_slices_IndexFunc___impl_Txn_impl_Txn__0 R L x w 0 x.length 0)
  have hq1 : lp_slices_IndexFunc___impl_Txn_impl_Txn__1 R L x w 0 0 x.length 0 = _ := round (by kernel_rfl) (q_slices_IndexFunc___impl_Txn_impl_Txn__1 R L x w 0 0 x.length 0)
  rw [hq, hq0.trans hq1.symm]
  refine gen_idx (fun a i => lp_slices_IndexFunc___impl_Txn_impl_Txn__1 R L x w 0 a x.length i) x (([] : List (D_Op)), ()) p (fun a => ?_) (fun a i hlt => ?_) _ 0 0 rfl (Nat.zero_le _)
  · have hq : lp_slices_IndexFunc___impl_Txn_impl_Txn__1 R L x w 0 a x.length (x.length : Nat) = _ := round (by kernel_rfl) (q_slices_IndexFunc___impl_Txn_impl_Txn__1 R L x w 0 a x.length (x.length : Nat))
    show lp_slices_IndexFunc___impl_Txn_impl_Txn__1 R L x w 0 a x.length (x.length : Nat) = _
    rw [hq, lt_f (Nat.le_refl _)]; rfl
  · have hq : lp_slices_IndexFunc___impl_Txn_impl_Txn__1 R L x w 0 a x.length i = _ := round (by kernel_rfl) (q_slices_IndexFunc___impl_Txn_impl_Txn__1 R L x w 0 a x.length i)
    show lp_slices_IndexFunc___impl_Txn_impl_Txn__1 R L x w 0 a x.length i = _
    rw [hq, lt_t hlt, nn, tn, blt_t hlt, wrap_succ (by omega)]
    simp only [cond_true]
    rw [hp _ (getD_mem (d := (([] : List (D_Op)), ())) hlt)]
    rfl

theorem idx_slices_IndexFunc___impl_Op_impl_Op_ (x : List (D_Op)) (w : FnVal) (p : D_Op → Bool) (hl : x.length ≤ 4611686018427387904) (hp : ∀ s ∈ x, callVB EE R w [⟨T_Op, s⟩] = some (p s)) : c_slices_IndexFunc___impl_Op_impl_Op_ R x w = some (idxF p x 0, ()) := by
  have hq : c_slices_IndexFunc___impl_Op_impl_Op_ R x w = _ := call (q_slices_IndexFunc___impl_Op_impl_Op_ R L x w)
  have hq0 : lp_slices_IndexFunc___impl_Op_impl_Op__0 R L x w 0 x.length 0 = _ := round (by kernel_rfl) (q_slices_IndexFunc___impl_Op_impl_Op__0 R L x w 0 x.length 0)
  have hq1 : lp_slices_IndexFunc___impl_Op_impl_Op__1 R L x w 0 0 x.length 0 = _ := round (by kernel_rfl) (q_slices_IndexFunc___impl_Op_impl_Op__1 R L x w 0 0 x.length 0)
  rw [hq, hq0.trans hq1.symm]
  refine gen_idx (fun a i => lp_slices_IndexFunc___impl_Op_impl_Op__1 R L x w 0 a x.length i) x ((0 : Int), ((0 : Int), ((0 : Int), ()))) p (fun a => ?_) (fun a i hlt => ?_) _ 0 0 rfl (Nat.zero_le _)
  · have hq : lp_slices_IndexFunc___impl_Op_impl_Op__1 R L x w 0 a x.length (x.length : Nat) = _ := round (by kernel_rfl) (q_slices_IndexFunc___impl_Op_impl_Op__1 R L x w 0 a x.length (x.length : Nat))
    show lp_slices_IndexFunc___impl_Op_impl_Op__1 R L x w 0 a x.length (x.length : Nat) = _
    rw [hq, lt_f (Nat.le_refl _)]; rfl
  · have hq : lp_slices_IndexFunc___impl_Op_impl_Op__1 R L x w 0 a x.length i = _ := round (by kernel_rfl) (q_slices_IndexFunc___impl_Op_impl_Op__1 R L x w 0 a x.length i)
    show lp_slices_IndexFunc___impl_Op_impl_Op__1 R L x w 0 a x.length i = _
    rw [hq, lt_t hlt, nn, tn, blt_t hlt, wrap_succ (by omega)]
    simp only [cond_true]
    rw [hp _ (getD_mem (d := ((0 : Int), ((0 : Int), ((0 : Int), ())))) hlt)]
    rfl

theorem idx_slices_IndexFunc___impl_Result_impl_Result_ (x : List (D_Result)) (w : FnVal) (p : D_Result → Bool) (hl : x.length ≤ 4611686018427387904) (hp : ∀ s ∈ x, callVB EE R w [⟨T_Result, s⟩] = some (p s)) : c_slices_IndexFunc___impl_Result_impl_Result_ R x w = some (idxF p x 0, ()) := by
  have hq : c_slices_IndexFunc___impl_Result_impl_Result_ R x w = _ := call (q_slices_IndexFunc___impl_Result_impl_Result_ R L x w)
  have hq0 : lp_slices_IndexFunc___impl_Result_impl_Result__0 R L x w 0 x.length 0 = _ := round (by kernel_rfl) (q_slices_IndexFunc___impl_Result_impl_Result__0 R L x w 0 x.length 0)
  have hq1 : lp_slices_IndexFunc___impl_Result_impl_Result__1 R L x w 0 0 x.length 0 = _ := round (by kernel_rfl) (q_slices_IndexFunc___impl_Result_impl_Result__1 R L x w 0 0 x.length 0)
  rw [hq, hq0.trans hq1.symm]
  refine gen_idx (fun a i => lp_slices_IndexFunc___impl_Result_impl_Result__1 R L x w 0 a x.length i) x ((0 : Int), (([] : List (Int)), ())) p (fun a => ?_) (fun a i hlt => ?_) _ 0 0 rfl (Nat.zero_le _)
  · have hq : lp_slices_IndexFunc___impl_Result_impl_Result__1 R L x w 0 a x.length (x.length : Nat) = _ := round (by kernel_rfl) (q_slices_IndexFunc___impl_Result_impl_Result__1 R L x w 0 a x.length (x.length : Nat))
    show lp_slices_IndexFunc___impl_Result_impl_Result__1 R L x w 0 a x.length (x.length : Nat) = _
    rw [hq, lt_f (Nat.le_refl _)]; rfl
  · have hq : lp_slices_IndexFunc___impl_Result_impl_Result__1 R L x w 0 a x.length i = _ := round (by kernel_rfl) (q_slices_IndexFunc___impl_Result_impl_Result__1 R L x w 0 a x.length i)
    show lp_slices_IndexFunc___impl_Result_impl_Result__1 R L x w 0 a x.length i = _
    rw [hq, lt_t hlt, nn, tn, blt_t hlt, wrap_succ (by omega)]
    simp only [cond_true]
    rw [hp _ (getD_mem (d := ((0 : Int), (([] : List (Int)), ()))) hlt)]
    rfl

theorem idx_slices_IndexFunc___int_int_ (x : List (Int)) (w : FnVal) (p : Int → Bool) (hl : x.length ≤ 4611686018427387904) (hp : ∀ s ∈ x, callVB EE R w [⟨(.int .i64), s⟩] = some (p s)) : c_slices_IndexFunc___int_int_ R x w = some (idxF p x 0, ()) := by
  have hq : c_slices_IndexFunc___int_int_ R x w = _ := call (q_slices_IndexFunc___int_int_ R L x w)
  have hq0 : lp_slices_IndexFunc___int_int__0 R L x w 0 x.length 0 = _ := round (by kernel_rfl) (q_slices_IndexFunc___int_int__0 R L x w 0 x.length 0)
  have hq1 : lp_slices_IndexFunc___int_int__1 R L x w 0 0 x.length 0 = _ := round (by kernel_rfl) (q_slices_IndexFunc___int_int__1 R L x w 0 0 x.length 0)
  rw [hq, hq0.trans hq1.symm]
  refine gen_idx (fun a i => lp_slices_IndexFunc___int_int__1 R L x w 0 a x.length i) x (0 : Int) p (fun a => ?_) (fun a i hlt => ?_) _ 0 0 rfl (Nat.zero_le _)
  · have hq : lp_slices_IndexFunc___int_int__1 R L x w 0 a x.length (x.length : Nat) = _ := round (by kernel_rfl) (q_slices_IndexFunc___int_int__1 R L x w 0 a x.length (x.length : Nat))
    show lp_slices_IndexFunc___int_int__1 R L x w 0 a x.length (x.length : Nat) = _
    rw [hq, lt_f (Nat.le_refl _)]; rfl
  · have hq : lp_slices_IndexFunc___int_int__1 R L x w 0 a x.length i = _ := round (by kernel_rfl) (q_slices_IndexFunc___int_int__1 R L x w 0 a x.length i)
    show lp_slices_IndexFunc___int_int__1 R L x w 0 a x.length i = _
    rw [hq, lt_t hlt, nn, tn, blt_t hlt, wrap_succ (by omega)]
    simp only [cond_true]
    rw [hp _ (getD_mem (d := (0 : Int)) hlt)]
    rfl

theorem any_slices_ContainsFunc___string_string_ (x : List (List UInt8)) (w : FnVal) (p : List UInt8 → Bool) (hl : x.length ≤ 4611686018427387904) (hp : ∀ s ∈ x, callVB EE R w [⟨.str, s⟩] = some (p s)) : c_slices_ContainsFunc___string_string_ R x w = some (x.any p, ()) := by
  have hq : c_slices_ContainsFunc___string_string_ R x w = _ := call (q_slices_ContainsFunc___string_string_ R L x w)
  rw [hq, idx_slices_IndexFunc___string_string_ x w p hl hp]
  simp only [Option.bind_some]
  rw [idxF_any]

theorem any_slices_ContainsFunc___impl_Io_impl_Io_ (x : List (D_Io)) (w : FnVal) (p : D_Io → Bool) (hl : x.length ≤ 4611686018427387904) (hp : ∀ s ∈ x, callVB EE R w [⟨T_Io, s⟩] = some (p s)) : c_slices_ContainsFunc___impl_Io_impl_Io_ R x w = some (x.any p, ()) := by
  have hq : c_slices_ContainsFunc___impl_Io_impl_Io_ R x w = _ := call (q_slices_ContainsFunc___impl_Io_impl_Io_ R L x w)
  rw [hq, idx_slices_IndexFunc___impl_Io_impl_Io_ x w p hl hp]
  simp only [Option.bind_some]
  rw [idxF_any]

theorem any_slices_ContainsFunc_____impl_Txn___impl_Txn_ (x : List (List (D_Txn))) (w : FnVal) (p : List (D_Txn) → Bool) (hl : x.length ≤ 4611686018427387904) (hp : ∀ s ∈ x, callVB EE R w [⟨(.sl T_Txn), s⟩] = some (p s)) : c_slices_ContainsFunc_____impl_Txn___impl_Txn_ R x w = some (x.any p, ()) := by
  have hq : c_slices_ContainsFunc_____impl_Txn___impl_Txn_ R x w = _ := call (q_slices_ContainsFunc_____impl_Txn___impl_Txn_ R L x w)
  rw [hq, idx_slices_IndexFunc_____impl_Txn___impl_Txn_ x w p hl hp]
  simp only [Option.bind_some]
  rw [idxF_any]

theorem any_slices_ContainsFunc___impl_Txn_impl_Txn_ (x : List (D_Txn)) (w : FnVal) (p : D_Txn → Bool) (hl : x.length ≤ 4611686018427387904) (hp : ∀ s ∈ x, callVB EE R w [⟨T_Txn, s⟩] = some (p s)) : c_slices_ContainsFunc___impl_Txn_impl_Txn_ R x w = some (x.any p, ()) := by
  have hq : c_slices_ContainsFunc___impl_Txn_impl_Txn_ R x w = _ := call (q_slices_ContainsFunc___impl_Txn_impl_Txn_ R L x w)
  rw [hq, idx_slices_IndexFunc___impl_Txn_impl_Txn_ x w p hl hp]
  simp only [Option.bind_some]
  rw [idxF_any]

theorem any_slices_ContainsFunc___impl_Op_impl_Op_ (x : List (D_Op)) (w : FnVal) (p : D_Op → Bool) (hl : x.length ≤ 4611686018427387904) (hp : ∀ s ∈ x, callVB EE R w [⟨T_Op, s⟩] = some (p s)) : c_slices_ContainsFunc___impl_Op_impl_Op_ R x w = some (x.any p, ()) := by
  have hq : c_slices_ContainsFunc___impl_Op_impl_Op_ R x w = _ := call (q_slices_ContainsFunc___impl_Op_impl_Op_ R L x w)
  rw [hq, idx_slices_IndexFunc___impl_Op_impl_Op_ x w p hl hp]
  simp only [Option.bind_some]
  rw [idxF_any]

theorem any_slices_ContainsFunc___impl_Result_impl_Result_ (x : List (D_Result)) (w : FnVal) (p : D_Result → Bool) (hl : x.length ≤ 4611686018427387904) (hp : ∀ s ∈ x, callVB EE R w [⟨T_Result, s⟩] = some (p s)) : c_slices_ContainsFunc___impl_Result_impl_Result_ R x w = some (x.any p, ()) := by
  have hq : c_slices_ContainsFunc___impl_Result_impl_Result_ R x w = _ := call (q_slices_ContainsFunc___impl_Result_impl_Result_ R L x w)
  rw [hq, idx_slices_IndexFunc___impl_Result_impl_Result_ x w p hl hp]
  simp only [Option.bind_some]
  rw [idxF_any]

theorem any_slices_ContainsFunc___int_int_ (x : List (Int)) (w : FnVal) (p : Int → Bool) (hl : x.length ≤ 4611686018427387904) (hp : ∀ s ∈ x, callVB EE R w [⟨(.int .i64), s⟩] = some (p s)) : c_slices_ContainsFunc___int_int_ R x w = some (x.any p, ()) := by
  have hq : c_slices_ContainsFunc___int_int_ R x w = _ := call (q_slices_ContainsFunc___int_int_ R L x w)
  rw [hq, idx_slices_IndexFunc___int_int_ x w p hl hp]
  simp only [Option.bind_some]
  rw [idxF_any]

theorem all_impl_areAll_string_ (x : List (List UInt8)) (v : FnVal) (p : List UInt8 → Bool) (hl : x.length ≤ 4611686018427387904) (hp : ∀ s ∈ x, callVB EE R v [⟨.str, s⟩] = some (p s)) : c_impl_areAll_string_ R x v = some (x.all p, ()) := by
  have hq : c_impl_areAll_string_ R x v = _ := call (q_impl_areAll_string_ R L x v)
  rw [hq, any_slices_ContainsFunc___string_string_ x (.mk 136 (.fn v .nil)) (fun s => !p s) hl (fun s hs => by
    have h1 : c_impl_areAll_string__1 R s v = _ := call (q_impl_areAll_string__1 R L s v)
    rw [cv_impl_areAll_string__1, h1, hp s hs]; rfl)]
  simp only [Option.bind_some]
  rw [all_any]

theorem all_impl_areAll_impl_Io_ (x : List (D_Io)) (v : FnVal) (p : D_Io → Bool) (hl : x.length ≤ 4611686018427387904) (hp : ∀ s ∈ x, callVB EE R v [⟨T_Io, s⟩] = some (p s)) : c_impl_areAll_impl_Io_ R x v = some (x.all p, ()) := by
  have hq : c_impl_areAll_impl_Io_ R x v = _ := call (q_impl_areAll_impl_Io_ R L x v)
  rw [hq, any_slices_ContainsFunc___impl_Io_impl_Io_ x (.mk 185 (.fn v .nil)) (fun s => !p s) hl (fun s hs => by
    have h1 : c_impl_areAll_impl_Io__1 R s v = _ := call (q_impl_areAll_impl_Io__1 R L s v)
    rw [cv_impl_areAll_impl_Io__1, h1, hp s hs]; rfl)]
  simp only [Option.bind_some]
  rw [all_any]

theorem all_impl_areAll___impl_Txn_ (x : List (List (D_Txn))) (v : FnVal) (p : List (D_Txn) → Bool) (hl : x.length ≤ 4611686018427387904) (hp : ∀ s ∈ x, callVB EE R v [⟨(.sl T_Txn), s⟩] = some (p s)) : c_impl_areAll___impl_Txn_ R x v = some (x.all p, ()) := by
  have hq : c_impl_areAll___impl_Txn_ R x v = _ := call (q_impl_areAll___impl_Txn_ R L x v)
  rw [hq, any_slices_ContainsFunc_____impl_Txn___impl_Txn_ x (.mk 120 (.fn v .nil)) (fun s => !p s) hl (fun s hs => by
    have h1 : c_impl_areAll___impl_Txn__1 R s v = _ := call (q_impl_areAll___impl_Txn__1 R L s v)
    rw [cv_impl_areAll___impl_Txn__1, h1, hp s hs]; rfl)]
  simp only [Option.bind_some]
  rw [all_any]

theorem all_impl_areAll_impl_Txn_ (x : List (D_Txn)) (v : FnVal) (p : D_Txn → Bool) (hl : x.length ≤ 4611686018427387904) (hp : ∀ s ∈ x, callVB EE R v [⟨T_Txn, s⟩] = some (p s)) : c_impl_areAll_impl_Txn_ R x v = some (x.all p, ()) := by
  have hq : c_impl_areAll_impl_Txn_ R x v = _ := call (q_impl_areAll_impl_Txn_ R L x v)
  rw [hq, any_slices_ContainsFunc___impl_Txn_impl_Txn_ x (.mk 161 (.fn v .nil)) (fun s => !p s) hl (fun s hs => by
    have h1 : c_impl_areAll_impl_Txn__1 R s v = _ := call (q_impl_areAll_impl_Txn__1 R L s v)
    rw [cv_impl_areAll_impl_Txn__1, h1, hp s hs]; rfl)]
  simp only [Option.bind_some]
  rw [all_any]

theorem all_impl_areAll_impl_Op_ (x : List (D_Op)) (v : FnVal) (p : D_Op → Bool) (hl : x.length ≤ 4611686018427387904) (hp : ∀ s ∈ x, callVB EE R v [⟨T_Op, s⟩] = some (p s)) : c_impl_areAll_impl_Op_ R x v = some (x.all p, ()) := by
  have hq : c_impl_areAll_impl_Op_ R x v = _ := call (q_impl_areAll_impl_Op_ R L x v)
  rw [hq, any_slices_ContainsFunc___impl_Op_impl_Op_ x (.mk 188 (.fn v .nil)) (fun s => !p s) hl (fun s hs => by
    have h1 : c_impl_areAll_impl_Op__1 R s v = _ := call (q_impl_areAll_impl_Op__1 R L s v)
    rw [cv_impl_areAll_impl_Op__1, h1, hp s hs]; rfl)]
  simp only [Option.bind_some]
  rw [all_any]

theorem all_impl_areAll_impl_Result_ (x : List (D_Result)) (v : FnVal) (p : D_Result → Bool) (hl : x.length ≤ 4611686018427387904) (hp : ∀ s ∈ x, callVB EE R v [⟨T_Result, s⟩] = some (p s)) : c_impl_areAll_impl_Result_ R x v = some (x.all p, ()) := by
  have hq : c_impl_areAll_impl_Result_ R x v = _ := call (q_impl_areAll_impl_Result_ R L x v)
  rw [hq, any_slices_ContainsFunc___impl_Result_impl_Result_ x (.mk 165 (.fn v .nil)) (fun s => !p s) hl (fun s hs => by
    have h1 : c_impl_areAll_impl_Result__1 R s v = _ := call (q_impl_areAll_impl_Result__1 R L s v)
    rw [cv_impl_areAll_impl_Result__1, h1, hp s hs]; rfl)]
  simp only [Option.bind_some]
  rw [all_any]

theorem all_impl_areAll_int_ (x : List (Int)) (v : FnVal) (p : Int → Bool) (hl : x.length ≤ 4611686018427387904) (hp : ∀ s ∈ x, callVB EE R v [⟨(.int .i64), s⟩] = some (p s)) : c_impl_areAll_int_ R x v = some (x.all p, ()) := by
  have hq : c_impl_areAll_int_ R x v = _ := call (q_impl_areAll_int_ R L x v)
  rw [hq, any_slices_ContainsFunc___int_int_ x (.mk 191 (.fn v .nil)) (fun s => !p s) hl (fun s hs => by
    have h1 : c_impl_areAll_int__1 R s v = _ := call (q_impl_areAll_int__1 R L s v)
    rw [cv_impl_areAll_int__1, h1, hp s hs]; rfl)]
  simp only [Option.bind_some]
  rw [all_any]

end Go.Rf.S
