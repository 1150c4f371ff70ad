/- What the program computes, in plain words: part 6. No condition. -/
import Derived.Test.YtlcagehlljilgaaGreatDoorAbo1
import Derived.Test.YtlcagehlljilgaaGreatDoorProg
import Derived.Shelf.LaysM
import Derived.Shelf.Lays
import Derived.Shelf.Strings.Split
import Derived.Shelf.Strings.Prefix
import Derived.Shelf.Strconv.Atoi
import Derived.Shelf.SlicesE.DeleteFunc
import Derived.Lib.SliceRun
import Derived.Lib.AtoiErrMem
import Derived.Lib.AtoiBound
set_option linter.unusedVariables false
set_option linter.unusedSimpArgs false
section
namespace Go.Rf.S
open Go.Lib
set_option maxRecDepth 100000
set_option linter.unusedVariables false
set_option linter.unusedSimpArgs false
theorem dig_dec : ∀ (n : Nat), Go.Lib.decDigits n = dig n := fun n => by
 induction n using Nat.strongRecOn with
 | _ n ih =>
  rw [Go.Lib.decDigits, dig]
  by_cases h : n < 10
  ·rw [dif_pos h, if_pos h]
  ·rw [dif_neg h, if_neg h, ih (n / 10) (by omega)]
theorem itoa_dig {v : Int} (h0 : 0 ≤ v) : Go.Lib.itoa v = digI v := by
 unfold Go.Lib.itoa digI
 rw [if_neg (by omega), dig_dec]
theorem p_itoa {v : Int} (h0 : 0 ≤ v) (h1 : v < 1000000000000000000) : c_strconv_Itoa R v = some (digI v, ()) := by
 refine (run_x (f := 46) (h := itoaH) rfl _).trans ?_
 show cond (decide (-9223372036854775808 ≤ v) && decide (v ≤ 9223372036854775807)) (some (Go.Lib.itoa v, ())) none = _
 rw [decide_eq_true (by omega), decide_eq_true (by omega), itoa_dig h0]; rfl
theorem decFrom_snoc (c : UInt8) : ∀ (l : List UInt8) (acc : Nat), decFrom acc (l ++ [c]) = (decFrom acc l).bind fun m => (digitVal c).map fun d => m * 10 + d
 | [], acc => by
  show (match digitVal c with | some d => decFrom (acc * 10 + d) [] | none => none) = _
  cases digitVal c <;> rfl
 | b :: r, acc => by
  show (match digitVal b with | some d => decFrom (acc * 10 + d) (r ++ [c]) | none => none) = Option.bind (match digitVal b with | some d => decFrom (acc * 10 + d) r | none => none) _
  cases digitVal b with
  | none => rfl
  | some d => exact decFrom_snoc c r _
theorem digitVal_of {n : Nat} (h : n < 10) : digitVal (UInt8.ofNat (48 + n)) = some n := by
 unfold digitVal
 have e : (UInt8.ofNat (48 + n)).toNat = 48 + n := by rw [UInt8.toNat_ofNat']; omega
 rw [e, if_pos (by omega)]; congr 1; omega
theorem decFrom_dig : ∀ (n : Nat), decFrom 0 (dig n) = some n := fun n => by
 induction n using Nat.strongRecOn with
 | _ n ih =>
  by_cases h : n < 10
  ·rw [dig_lt h]
   show (match digitVal (UInt8.ofNat (48 + n)) with | some d => decFrom (0 * 10 + d) [] | none => none) = _
   rw [digitVal_of h]; show some (0 * 10 + n) = some n; congr 1; omega
  ·rw [dig_ge h, decFrom_snoc, ih (n / 10) (by omega), digitVal_of (by omega)]
   show some (n / 10 * 10 + n % 10) = some n; congr 1; omega
theorem atoi_dig {n : Nat} (h : n < 1000000) : atoi (dig n) = some (n : Int) := by
 have hm := dig_mem 5 n (by omega)
 have hp := dig_pos n
 have hd : decNat (dig n) = some n := by
  unfold decNat
  rw [if_neg (by intro e; rw [List.isEmpty_iff] at e; rw [e] at hp; exact absurd hp (by decide)), decFrom_dig]
 cases hl : dig n with
 | nil => rw [hl] at hp; exact absurd hp (by decide)
 | cons b r =>
  have hb := hm b (by rw [hl]; simp)
  rw [hl] at hd
  have n1 : ¬ (b == 45) = true := fun e => by rw [beq_iff_eq] at e; rw [e] at hb; exact absurd hb.1 (by decide)
  have n2 : ¬ (b == 43) = true := fun e => by rw [beq_iff_eq] at e; rw [e] at hb; exact absurd hb.1 (by decide)
  show (if (b == 45) = true then (decNat r).map (fun (m : Nat) => -(m : Int)) else if (b == 43) = true then (decNat r).map (fun (m : Nat) => (m : Int)) else (decNat (b :: r)).map (fun (m : Nat) => (m : Int))) = _
  rw [if_neg n1, if_neg n2, hd]
  rfl
def V6 (v : Int) : Prop := 0 ≤ v ∧ v ≤ 999999
theorem scanF_rg : ∀ {m : List D_Entry} {n : Nat}, (∀ e ∈ m, V6 e.1 ∧ V6 e.2.1) → ∀ v ∈ scanF m n, V6 v
 | _, 0, _, v, hv => by cases hv
 | [], n + 1, h, v, hv => by
  simp only [scanF, List.mem_cons] at hv
  rcases hv with rfl | rfl | hv
  ·exact ⟨by decide, by decide⟩
  ·exact ⟨by decide, by decide⟩
  ·exact scanF_rg h v hv
 | e :: es, n + 1, h, v, hv => by
  simp only [scanF, List.mem_cons] at hv
  rcases hv with rfl | rfl | hv
  ·exact (h e (by simp)).1
  ·exact (h e (by simp)).2
  ·exact scanF_rg (fun x hx => h x (by simp [hx])) v hv
theorem bit_rg (b : Bool) : V6 (bitI b) := by cases b <;> exact ⟨by decide, by decide⟩
def C4 (c : Int) : Prop := c = 0 ∨ c = 4 ∨ c = 7 ∨ c = 14
theorem doM_rg {m : List D_Entry} {o : D_Op} (hm : MI m) (ho : OpM o) : (∀ v ∈ (doM m o).2.1, V6 v) ∧ C4 (doM m o).2.2.1 := by
 have hv := valM_b (key := o.2.1) hm
 have hov := ho.v
 unfold doM
 cases decide (o.1 = 1) with
 | true =>
  refine ⟨fun v hx => ?_, .inl rfl⟩
  have hx : v ∈ [bitI (fnd o.2.1 m), valM m o.2.1] := hx
  simp only [List.mem_cons, List.not_mem_nil, or_false] at hx
  rcases hx with rfl | rfl
  ·exact bit_rg _
  ·exact hv
 | false =>
  cases decide (o.1 = 3) with
  | true =>
   refine ⟨fun v hx => ?_, .inl rfl⟩
   have hx : v ∈ [bitI (fnd o.2.1 m)] := hx
   rw [List.mem_singleton.1 hx]; exact bit_rg _
  | false =>
   cases decide (o.1 = 4) with
   | true =>
    refine ⟨fun v hx => (by cases hx), ?_⟩
    show C4 (cond (fnd o.2.1 m && decide (valM m o.2.1 = o.2.2.1)) 0 14)
    cases fnd o.2.1 m && decide (valM m o.2.1 = o.2.2.1)
    ·exact .inr (.inr (.inr rfl))
    ·exact .inl rfl
   | false =>
    cases decide (o.1 = 6) with
    | true =>
     refine ⟨fun v hx => ?_, .inl rfl⟩
     refine scanF_rg (m := m.drop (lo o.2.1 m)) (n := o.2.2.1.toNat) (fun e he => ?_) v hx
     have he := List.mem_of_mem_drop he
     have h1 := hm.keys e he
     exact ⟨⟨by omega, by omega⟩, hm.vals e he⟩
    | false =>
     cases hf : fullM m o.2.1 with
     | true => exact ⟨fun v hx => (by cases hx), .inr (.inr (.inl rfl))⟩
     | false =>
      cases decide (o.1 = 2) with
      | true => exact ⟨fun v hx => (by cases hx), .inl rfl⟩
      | false =>
       by_cases h : 999999 < valM m o.2.1 + o.2.2.1
       ·rw [decide_eq_true h]; exact ⟨fun v hx => (by cases hx), .inr (.inl rfl)⟩
       ·rw [decide_eq_false h]
        refine ⟨fun v hx => ?_, .inl rfl⟩
        have hx : v ∈ [valM m o.2.1 + o.2.2.1] := hx
        rw [List.mem_singleton.1 hx]; exact ⟨by omega, by omega⟩
structure RW (r : D_Result) : Prop where
 cd : C4 r.1
 rg : ∀ v ∈ r.2.1, V6 v
 ln : r.2.1.length ≤ 32
 no : r.1 ≠ 0 → r.2.1 = []
theorem txnGo_rg {m0 : List D_Entry} (h0 : MI m0) : ∀ {os : List D_Op} {x : List D_Entry} {vs : List Int}, MI x → (∀ o ∈ os, OpM o) → (∀ v ∈ vs, V6 v) → C4 (txnGo m0 os x vs).2.1.1 ∧ (∀ v ∈ (txnGo m0 os x vs).2.1.2.1, V6 v) ∧ ((txnGo m0 os x vs).2.1.1 ≠ 0 → (txnGo m0 os x vs).2.1.2.1 = [] ∧ (txnGo m0 os x vs).1 = m0)
 | [], x, vs, hx, _, hv => ⟨.inl rfl, hv, fun h => absurd rfl h⟩
 | o :: os, x, vs, hx, ho, hv => by
  have d := doM_rg hx (ho o (by simp))
  unfold txnGo
  by_cases h : (doM x o).2.2.1 = 0
  ·rw [decide_eq_true h]
   exact txnGo_rg h0 (doM_mi hx (ho o (by simp))) (fun p hp => ho p (by simp [hp])) (fun v hx => by
    rcases List.mem_append.1 hx with hx | hx
    ·exact hv v hx
    ·exact d.1 v hx)
  ·rw [decide_eq_false h]
   exact ⟨d.2, fun v hx => (by cases hx), fun _ => ⟨rfl, rfl⟩⟩
theorem txnM_rw {m : List D_Entry} {t : D_Txn} (hm : MI m) (ht : TxB t) : RW (txnM m t).2.1 ∧ ((txnM m t).2.1.1 ≠ 0 → (txnM m t).1 = m) := by
 obtain ⟨h1, h2, h3⟩ := txnGo_rg hm (os := t.1) (vs := []) hm ht.ops (fun v hx => by cases hx)
 exact ⟨⟨h1, h2, txnM_out ht, fun h => (h3 h).1⟩, fun h => (h3 h).2⟩
theorem mapF_ok : ∀ {m : List D_Entry} {p : Option Int}, (∀ e ∈ m, ltO p e.1 = true ∧ (1 ≤ e.1 ∧ e.1 ≤ 9999) ∧ (0 ≤ e.2.1 ∧ e.2.1 ≤ 999999)) → m.Pairwise (fun a b => a.1 < b.1) → mapF p m = true
 | [], _, _, _ => rfl
 | e :: es, p, h, hs => by
  obtain ⟨h1, h2, h3⟩ := h e (by simp)
  rw [List.pairwise_cons] at hs
  unfold mapF inB
  simp only [Bool.and_eq_true, decide_eq_true_eq]
  refine ⟨h2, h3, h1, mapF_ok (fun x hx => ⟨?_, (h x (by simp [hx])).2⟩) hs.2⟩
  show decide (e.1 < x.1) = true
  exact decide_eq_true (hs.1 x hx)
theorem mi_ok {m : List D_Entry} (h : MI m) : mapOK m = true := by
 unfold mapOK
 rw [mapF_ok (fun e he => ⟨rfl, h.keys e he, h.vals e he⟩) h.srt, decide_eq_true h.len]; rfl
theorem i_MapTxn {m : List D_Entry} {t : D_Txn} (hm : MI m) (ht : txnOK t = true) : c_impl_MapTxn R m t = some ((txnM m t).1, ((txnM m t).2.1, (0, ()))) := by
 have hl := hm.len
 have hb := txB ht
 have h2 := (txnM_mi hm hb).len
 rw [show c_impl_MapTxn R m t = _ from call (q_impl_MapTxn R L m t), decide_eq_false (p := (4096 : Int) < ((m.length : Nat) : Int)) (by omega), p_impl_MapOK m (by omega), mi_ok hm, p_impl_isTxn t (by have := hb.len; omega), ht, p_impl_doTxn m t hm hb.len hb.ops]
 simp only [Option.bind_some, Bool.not_true, cond_false]
 rw [p_clone _ (by omega)]; rfl
theorem s_MapTxn {m : List D_Entry} {t : D_Txn} (hm : MI m) (ht : txnOK t = true) : c_spec_MapTxn R m t = some ((txnM m t).1, ((txnM m t).2.1, (0, ()))) := by
 have hl := hm.len
 have hb := txB ht
 have h2 := (txnM_mi hm hb).len
 rw [show c_spec_MapTxn R m t = _ from call (q_spec_MapTxn R L m t), decide_eq_false (p := (4096 : Int) < ((m.length : Nat) : Int)) (by omega), p_spec_MapOK m, mi_ok hm, p_spec_l09Txn t (by have := hb.len; omega), ht, p_spec_l10Txn m t hm hb.len hb.ops]
 simp only [Option.bind_some, Bool.not_true, cond_false]
 rw [lenOK_t (by show 0 + (txnM m t).1.length ≤ _; omega)]; rfl
theorem C4.in {c : Int} (h : C4 c) : inB c 0 19 = true := by
 rcases h with rfl | rfl | rfl | rfl <;> decide
theorem i_word {c : Int} (h : inB c 0 19 = true) : c_impl_CodeWord R c = some (codeW c, ()) := by
 have hb := inB_bounds h
 rw [show c_impl_CodeWord R c = _ from call (q_impl_CodeWord R L c), show c_impl_isCode R c = _ from call (q_impl_isCode R L c), p_impl_within, h, show c_impl_codeWords R = _ from call (q_impl_codeWords R L)]
 obtain ⟨k, rfl⟩ := Int.eq_ofNat_of_zero_le hb.1
 simp only [Option.bind_some, Bool.not_true, cond_false, nn, tn, cond_true]
 rw [blt_t (show k < _ by show k < 20; omega)]
 rfl
theorem s_word {c : Int} (h : inB c 0 19 = true) : c_spec_CodeWord R c = some (codeW c, ()) := by
 have hb := inB_bounds h
 rw [show c_spec_CodeWord R c = _ from call (q_spec_CodeWord R L c)]
 obtain ⟨k, rfl⟩ := Int.eq_ofNat_of_zero_le hb.1
 simp only [nn, tn, cond_true]
 rw [dF (show ¬ (k : Int) < 0 by omega), blt_t (show k < _ by show k < 20; omega)]
 simp only [cond_true, cond_false]
 rw [dF (show ¬ _ ≤ (k : Int) by show ¬ (20 : Int) ≤ (k : Int); omega)]
 rfl
def resT (r : D_Result) : List UInt8 := codeW r.1 ++ r.2.1.flatMap fun v => 32 :: digI v
theorem digI_len6 {v : Int} (h : V6 v) : (digI v).length ≤ 6 := dig_len 5 _ (by have := h.2; have := h.1; omega)
theorem flat_v {l : List Int} (h : ∀ v ∈ l, V6 v) : (l.flatMap fun v => (32 : UInt8) :: digI v).length ≤ 7 * l.length := by
 induction l with
 | nil => simp
 | cons a l ih =>
  have := ih fun v hv => h v (by simp [hv])
  have := digI_len6 (h a (by simp))
  rw [List.flatMap_cons, List.length_append]; simp only [List.length_cons]; omega
theorem codeW_len {c : Int} (h : inB c 0 19 = true) : (codeW c).length ≤ 8 := codeTab_len _ (codeW_in h)
theorem i_text_loop {l : List Int} (hl : l.length ≤ 32) (h : ∀ v ∈ l, V6 v) : ∀ (n i : Nat) (t : List UInt8), l.length - i = n → i ≤ l.length → t.length ≤ 8 + 7 * i →
  lp_impl_resultText_0 R L t l (l.length : Int) (i : Int) = some (t ++ (l.drop i).flatMap fun v => 32 :: digI v, ())
 | 0, i, t, hn, hi, ht => by
  rw [show lp_impl_resultText_0 R L t l (l.length : Int) (i : Int) = _ from round (by kernel_rfl) (q_impl_resultText_0 R L t l (l.length : Int) (i : Int)), lt_f (by omega), List.drop_eq_nil_of_le (by omega)]
  simp
 | n + 1, i, t, hn, hi, ht => by
  have hlt : i < l.length := by omega
  have hv := h _ (getD_mem (d := (0 : Int)) hlt)
  have hd := digI_len6 hv
  have hv2 := hv.2
  rw [show lp_impl_resultText_0 R L t l (l.length : Int) (i : Int) = _ from round (by kernel_rfl) (q_impl_resultText_0 R L t l (l.length : Int) (i : Int)), lt_t hlt, nn, tn, blt_t hlt, p_itoa hv.1 (by omega), wrap_succ (by omega)]
  simp only [cond_true, Option.bind_some]
  rw [lenOK_t (by simp only [List.length_cons, List.length_nil]; omega), lenOK_t (by simp only [List.length_append, List.length_cons, List.length_nil]; omega)]
  simp only [cond_true]
  rw [i_text_loop hl h n (i + 1) _ (by omega) (by omega) (by simp only [List.length_append, List.length_cons, List.length_nil]; omega), drop_getD (d := (0 : Int)) hlt, List.flatMap_cons, List.append_assoc]
  rfl
theorem s_text_loop {r : D_Result} (hl : r.2.1.length ≤ 32) (h : ∀ v ∈ r.2.1, V6 v) : ∀ (n i : Nat) (t : List UInt8), r.2.1.length - i = n → i ≤ r.2.1.length → t.length ≤ 8 + 7 * i →
  lp_spec_l10Text_0 R L r t (i : Int) = some (t ++ (r.2.1.drop i).flatMap fun v => 32 :: digI v, ())
 | 0, i, t, hn, hi, ht => by
  rw [show lp_spec_l10Text_0 R L r t (i : Int) = _ from round (by kernel_rfl) (q_spec_l10Text_0 R L r t (i : Int)), lt_f (by omega), List.drop_eq_nil_of_le (by omega)]
  simp
 | n + 1, i, t, hn, hi, ht => by
  have hlt : i < r.2.1.length := by omega
  have hv := h _ (getD_mem (d := (0 : Int)) hlt)
  have hd := digI_len6 hv
  have hv2 := hv.2
  rw [show lp_spec_l10Text_0 R L r t (i : Int) = _ from round (by kernel_rfl) (q_spec_l10Text_0 R L r t (i : Int)), lt_t hlt, nn, tn, blt_t hlt, p_digits hv.1 (by omega), wrap_succ (by omega)]
  simp only [cond_true, Option.bind_some]
  rw [lenOK_t (by simp only [List.length_cons, List.length_nil]; omega), lenOK_t (by simp only [List.length_append, List.length_cons, List.length_nil]; omega)]
  simp only [cond_true]
  rw [s_text_loop hl h n (i + 1) _ (by omega) (by omega) (by simp only [List.length_append, List.length_cons, List.length_nil]; omega), drop_getD (d := (0 : Int)) hlt, List.flatMap_cons, List.append_assoc]
  rfl
theorem p_isValue_cv (n : Int) : callVB EE R (.mk 35 .nil) [⟨.int .i64, n⟩] = some (inB n 0 999999) := by
 rw [cv_impl_isValue, p_impl_isValue]; rfl
theorem v6_all {l : List Int} (h : ∀ v ∈ l, V6 v) : (l.all fun n => inB n 0 999999) = true := List.all_eq_true.2 fun v hv => by
 have := h v hv
 unfold inB; simp only [Bool.and_eq_true, decide_eq_true_eq]; exact this
theorem i_isResult {r : D_Result} (h : RW r) : c_impl_isResult R r = some (true, ()) := by
 have hl := h.ln
 rw [show c_impl_isResult R r = _ from call (q_impl_isResult R L r), show c_impl_isCode R r.1 = _ from call (q_impl_isCode R L r.1), p_impl_within, h.cd.in, dT (show ((r.2.1.length : Nat) : Int) ≤ 32 by omega)]
 simp only [Option.bind_some, cond_true]
 rw [show c_impl_areAll_int_ R r.2.1 (Go.Rf.FnVal.mk (35 : Nat) (Go.Rf.FCaps.nil)) = _ from all_impl_areAll_int_ r.2.1 (.mk 35 .nil) (fun n => inB n 0 999999) (by omega) (fun s _ => p_isValue_cv s), v6_all h.rg]
 simp only [Option.bind_some, cond_true, eqI_iff]
 by_cases h0 : r.1 = 0
 ·rw [dT h0]; rfl
 ·rw [dF h0, h.no h0]; rfl
theorem s_res_loop {r : D_Result} (hl : r.2.1.length ≤ 32) (h : ∀ v ∈ r.2.1, V6 v) : ∀ (n i : Nat), r.2.1.length - i = n → i ≤ r.2.1.length → lp_spec_l10ResultOK_0 R L r r false (i : Int) = some (true, ())
 | 0, i, hn, hi => by
  rw [show lp_spec_l10ResultOK_0 R L r r false (i : Int) = _ from round (by kernel_rfl) (q_spec_l10ResultOK_0 R L r r false (i : Int)), lt_f (by omega)]; rfl
 | n + 1, i, hn, hi => by
  have hlt : i < r.2.1.length := by omega
  have hv := h _ (getD_mem (d := (0 : Int)) hlt)
  rw [show lp_spec_l10ResultOK_0 R L r r false (i : Int) = _ from round (by kernel_rfl) (q_spec_l10ResultOK_0 R L r r false (i : Int)), lt_t hlt, nn, tn, blt_t hlt, p_spec_l01In, wrap_succ (by omega), show inB (r.2.1.getD i 0) 0 999999 = true by unfold inB; simp only [Bool.and_eq_true, decide_eq_true_eq]; exact hv]
  exact s_res_loop hl h n (i + 1) (by omega) (by omega)
theorem s_isResult {r : D_Result} (h : RW r) : c_spec_l10ResultOK R r = some (true, ()) := by
 have hl := h.ln
 rw [show c_spec_l10ResultOK R r = _ from call (q_spec_l10ResultOK R L r), p_spec_l01In, h.cd.in, dF (show ¬ (32 : Int) < ((r.2.1.length : Nat) : Int) by omega)]
 simp only [Option.bind_some, Bool.not_true, cond_false, eqI_iff]
 have hh := s_res_loop hl h.rg _ 0 rfl (Nat.zero_le _)
 have hh : lp_spec_l10ResultOK_0 R L r r false 0 = some (true, ()) := hh
 by_cases h0 : r.1 = 0
 ·rw [dT h0]; exact hh
 ·rw [dF h0]
  simp only [Bool.not_false, cond_true]
  rw [dF (show ¬ (0 : Int) < ((r.2.1.length : Nat) : Int) by rw [h.no h0]; decide)]
  exact hh
theorem i_ResultText {r : D_Result} (h : RW r) : c_impl_ResultText R r = some (resT r, (0, ())) := by
 rw [show c_impl_ResultText R r = _ from call (q_impl_ResultText R L r), i_isResult h]
 simp only [Option.bind_some, Bool.not_true, cond_false]
 rw [show c_impl_resultText R r = _ from call (q_impl_resultText R L r), i_word h.cd.in]
 simp only [Option.bind_some]
 have := i_text_loop h.ln h.rg _ 0 (codeW r.1) rfl (Nat.zero_le _) (by have := codeW_len h.cd.in; omega)
 have this : lp_impl_resultText_0 R L (codeW r.1) r.2.1 ((r.2.1.length : Nat) : Int) 0 = _ := this
 rw [this]; rfl
theorem s_ResultText {r : D_Result} (h : RW r) : c_spec_ResultText R r = some (resT r, (0, ())) := by
 rw [show c_spec_ResultText R r = _ from call (q_spec_ResultText R L r), s_isResult h]
 simp only [Option.bind_some, Bool.not_true, cond_false]
 rw [show c_spec_l10Text R r = _ from call (q_spec_l10Text R L r), s_word h.cd.in]
 simp only [Option.bind_some]
 have := s_text_loop h.ln h.rg _ 0 (codeW r.1) rfl (Nat.zero_le _) (by have := codeW_len h.cd.in; omega)
 have this : lp_spec_l10Text_0 R L r (codeW r.1) 0 = _ := this
 rw [this]; rfl
theorem resT_len {r : D_Result} (h : RW r) : (resT r).length ≤ 1000 := by
 have h1 := codeW_len h.cd.in
 have h2 := flat_v h.rg
 have h3 := h.ln
 unfold resT
 rw [List.length_append]; omega
theorem i_words (t : List UInt8) (h : t.length ≤ 1048576) : c_impl_wordsOf R t = some (wordsF t, ()) := by
 refine (run_x (f := 28) (h := worH) rfl _).trans ?_
 show cond (Nat.ble t.length 1048576) (some (wordsF t, ())) none = _
 rw [ble_t h]; rfl
theorem i_number {v : Int} (h : V6 v) : c_impl_readNumber R (digI v) = some (v, (true, ())) := by
 refine (run_x (f := 54) (h := numH) rfl _).trans ?_
 show (atoi (digI v)).bind (fun n => cond (Nat.ble (digI v).length 18 && decide (0 ≤ n) && decide (Go.Lib.itoa n = digI v)) (some (n, (true, ()))) none) = _
 have e : atoi (digI v) = some v := by
  have := atoi_dig (n := v.toNat) (by have := h.1; have := h.2; omega)
  rw [Int.toNat_of_nonneg h.1] at this
  exact this
 rw [e]
 simp only [Option.bind_some]
 rw [ble_t (show (digI v).length ≤ 18 by have := digI_len6 h; omega), dT h.1, itoa_dig h.1, dT rfl]; rfl
theorem dig_word {v : Int} (h : V6 v) : digI v ≠ [] ∧ (32 : UInt8) ∉ digI v := by
 refine ⟨fun e => ?_, fun hm => ?_⟩
 ·have := dig_pos v.toNat
  unfold digI at e
  rw [e] at this; exact absurd this (by decide)
 ·have := (digI_mem (v := v) (by have := h.2; omega) _ hm).1
  exact absurd this (by decide)
theorem codeTab_ne : ∀ w ∈ codeTab, w ≠ [] := by decide
theorem code_word {c : Int} (h : inB c 0 19 = true) : codeW c ≠ [] ∧ (32 : UInt8) ∉ codeW c :=
 ⟨codeTab_ne _ (codeW_in h), fun hm => absurd (codeTab_nosp _ (codeW_in h) _ hm) (by decide)⟩
theorem i_numbers {l : List Int} (hl : l.length ≤ 32) (h : ∀ v ∈ l, V6 v) : ∀ (n i : Nat), l.length - i = n → i ≤ l.length →
  lp_impl_readNumbers_0 R L (l.take i) (l.map digI) (((l.map digI).length : Nat) : Int) (i : Int) = some (l, (true, ()))
 | 0, i, hn, hi => by
  rw [show lp_impl_readNumbers_0 R L (l.take i) (l.map digI) (((l.map digI).length : Nat) : Int) (i : Int) = _ from round (by kernel_rfl) (q_impl_readNumbers_0 R L (l.take i) (l.map digI) (((l.map digI).length : Nat) : Int) (i : Int)), lt_f (by rw [List.length_map]; omega), List.take_of_length_le (by omega)]; rfl
 | n + 1, i, hn, hi => by
  have hlt : i < l.length := by omega
  have hlt2 : i < (l.map digI).length := by rw [List.length_map]; exact hlt
  have e : (l.map digI).getD i [] = digI (l.getD i 0) := by
   rw [List.getD_eq_getElem?_getD, List.getElem?_map, List.getElem?_eq_getElem hlt, List.getD_eq_getElem?_getD, List.getElem?_eq_getElem hlt]; rfl
  rw [show lp_impl_readNumbers_0 R L (l.take i) (l.map digI) (((l.map digI).length : Nat) : Int) (i : Int) = _ from round (by kernel_rfl) (q_impl_readNumbers_0 R L (l.take i) (l.map digI) (((l.map digI).length : Nat) : Int) (i : Int)), lt_t hlt2, nn, tn, blt_t hlt2, e, i_number (h _ (getD_mem (d := (0 : Int)) hlt)), wrap_succ (by omega)]
  simp only [cond_true, Option.bind_some, Bool.not_true, cond_false]
  rw [lenOK_t (by rw [List.length_take]; simp only [List.length_cons, List.length_nil]; omega)]
  simp only [cond_true]
  have e2 : l.take i ++ [l.getD i 0] = l.take (i + 1) := by
   rw [List.take_succ_eq_append_getElem hlt, List.getD_eq_getElem?_getD, List.getElem?_eq_getElem hlt]; rfl
  rw [show l.take i ++ (l.getD i 0) :: ([] : List Int) = l.take (i + 1) from e2]
  exact i_numbers hl h n (i + 1) (by omega) (by omega)
theorem i_index : ∀ (n i k : Nat), k - i = n → i ≤ k → k < 20 → lp_slices_Index___string_string__0 R L codeTab (codeTab.getD k []) 20 (i : Int) = some ((k : Int), ())
 | 0, i, k, hn, hi, hk => by
  have : i = k := by omega
  subst this
  rw [show lp_slices_Index___string_string__0 R L codeTab (codeTab.getD i []) 20 (i : Int) = _ from round (by kernel_rfl) (q_slices_Index___string_string__0 R L codeTab (codeTab.getD i []) 20 (i : Int)), dT (show (i : Int) < 20 by omega), nn, tn, blt_t (show i < codeTab.length by show i < 20; exact hk), eqS_iff, dT rfl]; rfl
 | n + 1, i, k, hn, hi, hk => by
  have hne : ¬ codeTab.getD k [] = codeTab.getD i [] := fun e => by
   have := congrArg Fin.val (codeTab_inj ⟨k, hk⟩ ⟨i, by omega⟩ e)
   simp only at this
   omega
  rw [show lp_slices_Index___string_string__0 R L codeTab (codeTab.getD k []) 20 (i : Int) = _ from round (by kernel_rfl) (q_slices_Index___string_string__0 R L codeTab (codeTab.getD k []) 20 (i : Int)), dT (show (i : Int) < 20 by omega), nn, tn, blt_t (show i < codeTab.length by show i < 20; omega), eqS_iff, dF hne, wrap_succ (by omega)]
  exact i_index n (i + 1) k (by omega) (by omega) hk
theorem i_CodeOf {c : Int} (h : inB c 0 19 = true) : c_impl_CodeOf R (codeW c) = some (c, ()) := by
 have hb := inB_bounds h
 obtain ⟨k, rfl⟩ := Int.eq_ofNat_of_zero_le hb.1
 have hw : c_impl_codeWords R = some (codeTab, ()) := call (q_impl_codeWords R L)
 rw [show c_impl_CodeOf R (codeW (k : Int)) = _ from call (q_impl_CodeOf R L (codeW (k : Int))), hw]
 simp only [Option.bind_some]
 rw [show c_slices_Index___string_string_ R codeTab (codeW (k : Int)) = _ from call (q_slices_Index___string_string_ R L codeTab (codeW (k : Int)))]
 have := i_index k 0 k (by omega) (by omega) (by omega)
 have this : lp_slices_Index___string_string__0 R L codeTab (codeW (k : Int)) ((codeTab.length : Nat) : Int) 0 = some ((k : Int), ()) := this
 rw [this]; rfl
theorem i_short (t : List UInt8) (h : t.length ≤ 1000) : c_impl_areShort R [t] = some (true, ()) := by
 rw [show c_impl_areShort R [t] = _ from call (q_impl_areShort R L [t]), show c_impl_areAll_string_ R [t] (Go.Rf.FnVal.mk (50 : Nat) (Go.Rf.FCaps.nil)) = _ from all_impl_areAll_string_ [t] (.mk 50 .nil) (fun _ => true) (by simp) (fun s hs => by
  rw [List.mem_singleton.1 hs, cv_impl_areShort_1, show c_impl_areShort_1 R t = _ from call (q_impl_areShort_1 R L t), dT (show ((t.length : Nat) : Int) ≤ 65536 by omega)]; rfl)]
 rfl
theorem i_ReadResult {r : D_Result} (h : RW r) : c_impl_ReadResult R (resT r) = some (r, (0, ())) := by
 have hw : wordsF (resT r) = codeW r.1 :: r.2.1.map digI := by
  have := words_of (codeW r.1) (r.2.1.map digI) (code_word h.cd.in) (fun x hx => by
   obtain ⟨v, hv, rfl⟩ := List.mem_map.1 hx
   exact dig_word (h.rg v hv))
  rw [List.flatMap_map] at this
  exact this
 have hl := resT_len h
 rw [show c_impl_ReadResult R (resT r) = _ from call (q_impl_ReadResult R L (resT r)), i_short _ hl, i_words _ (by omega), hw]
 simp only [Option.bind_some, Bool.not_true, cond_false, eqI_iff]
 rw [dF (show ¬ (((codeW r.1 :: r.2.1.map digI).length : Nat) : Int) = 0 by rw [List.length_cons]; omega), ble_t (Nat.le_refl _), ble_t (show Int.toNat 1 ≤ _ by rw [List.length_cons]; show 1 ≤ _; omega), blt_t (show Int.toNat 0 < _ by rw [List.length_cons]; show 0 < _; omega)]
 simp only [cond_true, cond_false]
 rw [List.take_length, show List.drop (Int.toNat 1) (codeW r.1 :: r.2.1.map digI) = r.2.1.map digI from rfl, show (codeW r.1 :: r.2.1.map digI).getD (Int.toNat 0) [] = codeW r.1 from rfl, i_CodeOf h.cd.in]
 have e : c_impl_readNumbers R (r.2.1.map digI) = some (r.2.1, (true, ())) := by
  rw [show c_impl_readNumbers R (r.2.1.map digI) = _ from call (q_impl_readNumbers R L (r.2.1.map digI))]
  exact i_numbers h.ln h.rg _ 0 rfl (Nat.zero_le _)
 rw [e]
 simp only [Option.bind_some, Bool.not_true, cond_false]
 rw [i_isResult (r := (r.1, (r.2.1, ()))) h]
 rfl
end Go.Rf.S

end
section
namespace Go.Rf.S
set_option maxRecDepth 100000
set_option linter.unusedVariables false
set_option linter.unusedSimpArgs false
theorem same_ints (l : List Int) (h : l.length ≤ 1099511627776) : c_laws_sameInts R l l = some (true, ()) := by
 have hh : ∀ (n i : Nat), l.length - i = n → i ≤ l.length → lp_laws_sameInts_0 R L l l false (i : Int) = some (true, ()) := by
  intro n
  induction n with
  | zero =>
   intro i hn hi
   rw [show lp_laws_sameInts_0 R L l l false (i : Int) = _ from round (by kernel_rfl) (q_laws_sameInts_0 R L l l false (i : Int)), lt_f (by omega)]; rfl
  | succ n ih =>
   intro i hn hi
   rw [show lp_laws_sameInts_0 R L l l false (i : Int) = _ from round (by kernel_rfl) (q_laws_sameInts_0 R L l l false (i : Int)), lt_t (by omega), nn, tn, blt_t (by omega), eqI_iff, dT rfl, wrap_succ (by omega)]
   exact ih (i + 1) (by omega) (by omega)
 rw [show c_laws_sameInts R l l = _ from call (q_laws_sameInts R L l l), eqI_iff, dT rfl]
 exact hh _ 0 rfl (Nat.zero_le _)
theorem same_ents (l : List D_Entry) (h : l.length ≤ 1099511627776) : c_laws_sameEntries R l l = some (true, ()) := by
 have hh : ∀ (n i : Nat), l.length - i = n → i ≤ l.length → lp_laws_sameEntries_0 R L l l false (i : Int) = some (true, ()) := by
  intro n
  induction n with
  | zero =>
   intro i hn hi
   rw [show lp_laws_sameEntries_0 R L l l false (i : Int) = _ from round (by kernel_rfl) (q_laws_sameEntries_0 R L l l false (i : Int)), lt_f (by omega)]; rfl
  | succ n ih =>
   intro i hn hi
   rw [show lp_laws_sameEntries_0 R L l l false (i : Int) = _ from round (by kernel_rfl) (q_laws_sameEntries_0 R L l l false (i : Int)), lt_t (by omega), nn, tn, blt_t (by omega), eqI_iff, eqI_iff, dT rfl, dT rfl, wrap_succ (by omega)]
   exact ih (i + 1) (by omega) (by omega)
 rw [show c_laws_sameEntries R l l = _ from call (q_laws_sameEntries R L l l), eqI_iff, dT rfl]
 exact hh _ 0 rfl (Nat.zero_le _)
theorem fnd_no {m : List D_Entry} {key : Int} (h : ∀ e ∈ m, e.1 ≠ key) : fnd key m = false := by
 cases hf : fnd key m with
 | false => rfl
 | true =>
  obtain ⟨h1, h2⟩ := fnd_t hf
  exact absurd h2 (h _ (getD_mem h1))
abbrev tA : D_Txn := ([(2, (9000, (1, ()))), (4, (9001, (1, ())))], ())
theorem tA_ok : txnOK tA = true := by decide
theorem txn_A {m : List D_Entry} (hm : MI m) (hk : K14 m) : txnM m tA = (m, (((if m.length = 11 then 7 else 14), ([], ())), ())) := by
 have f1 : fnd 9000 m = false := fnd_no fun e he => by have := hk e he; omega
 have f2 : fnd 9001 (putM m 9000 1) = false := fnd_no fun e he => by
  unfold putM at he
  rcases List.mem_append.1 he with he | he
  ·have := hk e (List.mem_of_mem_take he); omega
  ·rcases List.mem_cons.1 he with rfl | he
   ·decide
   ·have := hk e (List.mem_of_mem_drop he); omega
 have hf : fullM m 9000 = decide (m.length = 11) := by unfold fullM; rw [f1]; rfl
 have d1 : doM m (2, (9000, (1, ()))) = cond (decide (m.length = 11)) (m, ([], (7, ()))) (putM m 9000 1, ([], (0, ()))) := by
  show cond (fullM m 9000) _ _ = _
  rw [hf]; rfl
 show txnGo m ((2, (9000, (1, ()))) :: [(4, (9001, (1, ())))]) m [] = _
 unfold txnGo
 rw [d1]
 by_cases h : m.length = 11
 ·rw [if_pos h, decide_eq_true h]; rfl
 ·rw [if_neg h, decide_eq_false h]
  show txnGo m [(4, (9001, (1, ())))] (putM m 9000 1) [] = _
  have d2 : doM (putM m 9000 1) (4, (9001, (1, ()))) = (putM m 9000 1, ([], (14, ()))) := by
   show (putM m 9000 1, (([] : List Int), (cond (fnd 9001 (putM m 9000 1) && decide (valM (putM m 9000 1) 9001 = 1)) (0 : Int) 14, ()))) = _
   rw [f2]; rfl
  unfold txnGo
  rw [d2]; rfl
theorem law_Abort (x y : List Int) (hx : Fine (.sl (.int .u8)) x) (hy : Fine (.sl (.int .u8)) y) : c_laws_FnAbort R x y = some (true, ()) := by
 rw [show c_laws_FnAbort R x y = _ from call (q_laws_FnAbort R L x y)]
 by_cases h1 : 1048576 < x.length
 ·rw [dT (show (1048576 : Int) < (x.length : Int) by omega)]; rfl
 ·by_cases h2 : 1048576 < y.length
  ·rw [dF (show ¬ (1048576 : Int) < (x.length : Int) by omega), dT (show (1048576 : Int) < (y.length : Int) by omega)]; rfl
  ·rw [dF (show ¬ (1048576 : Int) < (x.length : Int) by omega), dF (show ¬ (1048576 : Int) < (y.length : Int) by omega)]
   obtain ⟨m, em, hm, hk⟩ := ents_of (bytes_fine hx (by omega))
   obtain ⟨l, el, hl⟩ := batch_of (bytes_fine hy (by omega))
   have hlen := hm.len
   rw [em, el]
   simp only [Option.bind_some, cond_false]
   have hl0 : 0 < l.length := by have := hl.1.1; omega
   rw [blt_t (show Int.toNat 0 < l.length from hl0)]
   obtain ⟨t, ht⟩ : ∃ t, t = l.getD (Int.toNat 0) ([], ()) := ⟨_, rfl⟩
   have htk : TxK t := by rw [ht]; exact hl.2 _ (getD_mem hl0)
   rw [← ht, i_MapTxn hm htk.ok]
   simp only [Option.bind_some, cond_true]
   rw [s_MapTxn hm htk.ok, i_MapTxn hm tA_ok, txn_A hm hk]
   simp only [Option.bind_some]
   obtain ⟨hr, hab⟩ := txnM_rw hm htk.b
   have hml := (txnM_mi hm htk.b).len
   have hrl := hr.ln
   rw [i_ResultText hr, s_ResultText hr]
   simp only [Option.bind_some]
   rw [i_ReadResult hr]
   simp only [Option.bind_some]
   rw [same_ents _ (by omega), same_ints _ (by omega), same_ents m (by omega)]
   simp only [Option.bind_some, eqI_iff, eqS_iff]
   simp only [decide_true, Bool.not_true, cond_false, cond_true]
   by_cases h0 : (txnM m t).2.1.1 = 0
   ·by_cases h11 : m.length = 11
    ·rw [if_pos h11, h0, dF (show ¬ (7 : Int) = 14 by decide), dT (show (7 : Int) = 7 from rfl), dT (show ((m.length : Nat) : Int) = 11 by omega)]; rfl
    ·rw [if_neg h11, h0, dT (show (14 : Int) = 14 from rfl), dF (show ¬ ((m.length : Nat) : Int) = 11 by omega)]; rfl
   ·have e1 := hab h0
    have e2 := hr.no h0
    rw [e1, e2, same_ents m (by omega), dF h0]
    by_cases h11 : m.length = 11
    ·rw [if_pos h11, dF (show ¬ (7 : Int) = 14 by decide), dT (show (7 : Int) = 7 from rfl), dT (show ((m.length : Nat) : Int) = 11 by omega)]; rfl
    ·rw [if_neg h11, dT (show (14 : Int) = 14 from rfl), dF (show ¬ ((m.length : Nat) : Int) = 11 by omega)]; rfl
end Go.Rf.S

end
section
namespace Go.Proofs
open Go.Shelf Go.RowKit
def Tryz.laysItoa_ren : Go.Shelf.Ren := ⟨fun | 171 => 46 | 243 => 70 | 246 => 82 | 283 => 90 | 284 => 91 | 285 => 92 | 286 => 93 | 129 => 107 | 317 => 106 | 318 => 108 | 319 => 109 | 320 => 110 | 337 => 120 | 338 => 121 | n => n, fun | 3 => 3 | 9 => 9 | 2 => 2 | 4 => 4 | 171 => 112 | 0 => 0 | 53 => 113 | 37 => 22 | 5 => 5 | 173 => 116 | 212 => 129 | 51 => 130 | 20 => 20 | 213 => 131 | 46 => 110 | 232 => 152 | 233 => 153 | n => n, fun | 17 => 0 | 18 => 6 | 19 => 7 | n => n⟩
theorem Tryz.laysItoa : Go.Proofs.LaysM.n171 Tryz.prog Tryz.laysItoa_ren := {
 mixed := by kernel_rfl
 f129 := Tryz.func107.trans (congrArg some (by kernel_rfl))
 f171 := Tryz.func46.trans (congrArg some (by kernel_rfl))
 f243 := Tryz.func70.trans (congrArg some (by kernel_rfl))
 f246 := Tryz.func82.trans (congrArg some (by kernel_rfl))
 f283 := Tryz.func90.trans (congrArg some (by kernel_rfl))
 f284 := Tryz.func91.trans (congrArg some (by kernel_rfl))
 f285 := Tryz.func92.trans (congrArg some (by kernel_rfl))
 f286 := Tryz.func93.trans (congrArg some (by kernel_rfl))
 f317 := Tryz.func106.trans (congrArg some (by kernel_rfl))
 f318 := Tryz.func108.trans (congrArg some (by kernel_rfl))
 f319 := Tryz.func109.trans (congrArg some (by kernel_rfl))
 f320 := Tryz.func110.trans (congrArg some (by kernel_rfl))
 f337 := Tryz.func120.trans (congrArg some (by kernel_rfl))
 f338 := Tryz.func121.trans (congrArg some (by kernel_rfl))
 t0 := Tryz.underlying0
 a0 := Tryz.isAgg0
 z0 := Tryz.sizeOf0
 v0 := Tryz.zeroValue0
 t2 := Tryz.underlying2
 a2 := Tryz.isAgg2
 z2 := Tryz.sizeOf2
 v2 := Tryz.zeroValue2
 t3 := Tryz.underlying3
 a3 := Tryz.isAgg3
 z3 := Tryz.sizeOf3
 v3 := Tryz.zeroValue3
 t4 := Tryz.underlying4
 a4 := Tryz.isAgg4
 z4 := Tryz.sizeOf4
 v4 := Tryz.zeroValue4
 t5 := Tryz.underlying5
 a5 := Tryz.isAgg5
 z5 := Tryz.sizeOf5
 v5 := Tryz.zeroValue5
 t9 := Tryz.underlying9
 a9 := Tryz.isAgg9
 z9 := Tryz.sizeOf9
 v9 := Tryz.zeroValue9
 t20 := Tryz.underlying20
 a20 := Tryz.isAgg20
 z20 := Tryz.sizeOf20
 v20 := Tryz.zeroValue20
 t37 := Tryz.underlying22
 a37 := Tryz.isAgg22
 z37 := Tryz.sizeOf22
 v37 := Tryz.zeroValue22
 t46 := Tryz.underlying110
 a46 := Tryz.isAgg110
 z46 := Tryz.sizeOf110
 v46 := Tryz.zeroValue110
 t51 := Tryz.underlying130
 a51 := Tryz.isAgg130
 z51 := Tryz.sizeOf130
 v51 := Tryz.zeroValue130
 t53 := Tryz.underlying113
 a53 := Tryz.isAgg113
 z53 := Tryz.sizeOf113
 v53 := Tryz.zeroValue113
 t171 := Tryz.underlying112
 a171 := Tryz.isAgg112
 z171 := Tryz.sizeOf112
 v171 := Tryz.zeroValue112
 t173 := Tryz.underlying116
 a173 := Tryz.isAgg116
 z173 := Tryz.sizeOf116
 v173 := Tryz.zeroValue116
 t212 := Tryz.underlying129
 a212 := Tryz.isAgg129
 z212 := Tryz.sizeOf129
 v212 := Tryz.zeroValue129
 t213 := Tryz.underlying131
 a213 := Tryz.isAgg131
 z213 := Tryz.sizeOf131
 t232 := Tryz.underlying152
 a232 := Tryz.isAgg152
 z232 := Tryz.sizeOf152
 v232 := Tryz.zeroValue152
 t233 := Tryz.underlying153
 a233 := Tryz.isAgg153
 z233 := Tryz.sizeOf153
 v233 := Tryz.zeroValue153
 g17 := by kernel_rfl
 g18 := by kernel_rfl
 g19 := by kernel_rfl
 i0 := by kernel_rfl
 i2 := by kernel_rfl
 i3 := by kernel_rfl
 i4 := by kernel_rfl
 i5 := by kernel_rfl
 i9 := by kernel_rfl
 i20 := by kernel_rfl
 i37 := by kernel_rfl
 i46 := by kernel_rfl
 i51 := by kernel_rfl
 i53 := by kernel_rfl
 i171 := by kernel_rfl
 i173 := by kernel_rfl
 i212 := by kernel_rfl
 i232 := by kernel_rfl
 i233 := by kernel_rfl
 m17 := by kernel_rfl
 m18 := by kernel_rfl
 m19 := by kernel_rfl }
def Tryz.laysSplit_ren : Go.Shelf.Ren := ⟨fun | 146 => 52 | 221 => 74 | 268 => 83 | 138 => 84 | 143 => 85 | 195 => 94 | 197 => 95 | 218 => 96 | 219 => 97 | 260 => 111 | 217 => 112 | 225 => 113 | 224 => 114 | 267 => 115 | 266 => 122 | 314 => 123 | n => n, fun | 9 => 9 | 31 => 58 | 3 => 3 | 4 => 4 | 0 => 0 | 105 => 118 | 21 => 21 | 5 => 5 | 46 => 110 | 119 => 140 | 139 => 143 | 138 => 142 | 146 => 144 | 51 => 130 | n => n, fun | 1 => 1 | 3 => 4 | 4 => 5 | n => n⟩
theorem Tryz.laysSplit : Go.Proofs.LaysM.n146 Tryz.prog Tryz.laysSplit_ren := {
 mixed := by kernel_rfl
 f138 := Tryz.func84.trans (congrArg some (by kernel_rfl))
 f143 := Tryz.func85.trans (congrArg some (by kernel_rfl))
 f146 := Tryz.func52.trans (congrArg some (by kernel_rfl))
 f195 := Tryz.func94.trans (congrArg some (by kernel_rfl))
 f197 := Tryz.func95.trans (congrArg some (by kernel_rfl))
 f217 := Tryz.func112.trans (congrArg some (by kernel_rfl))
 f218 := Tryz.func96.trans (congrArg some (by kernel_rfl))
 f219 := Tryz.func97.trans (congrArg some (by kernel_rfl))
 f221 := Tryz.func74.trans (congrArg some (by kernel_rfl))
 f224 := Tryz.func114.trans (congrArg some (by kernel_rfl))
 f225 := Tryz.func113.trans (congrArg some (by kernel_rfl))
 f260 := Tryz.func111.trans (congrArg some (by kernel_rfl))
 f266 := Tryz.func122.trans (congrArg some (by kernel_rfl))
 f267 := Tryz.func115.trans (congrArg some (by kernel_rfl))
 f268 := Tryz.func83.trans (congrArg some (by kernel_rfl))
 f314 := Tryz.func123.trans (congrArg some (by kernel_rfl))
 t0 := Tryz.underlying0
 a0 := Tryz.isAgg0
 z0 := Tryz.sizeOf0
 v0 := Tryz.zeroValue0
 t3 := Tryz.underlying3
 a3 := Tryz.isAgg3
 z3 := Tryz.sizeOf3
 v3 := Tryz.zeroValue3
 t4 := Tryz.underlying4
 a4 := Tryz.isAgg4
 z4 := Tryz.sizeOf4
 v4 := Tryz.zeroValue4
 t5 := Tryz.underlying5
 a5 := Tryz.isAgg5
 z5 := Tryz.sizeOf5
 v5 := Tryz.zeroValue5
 t9 := Tryz.underlying9
 a9 := Tryz.isAgg9
 z9 := Tryz.sizeOf9
 v9 := Tryz.zeroValue9
 t21 := Tryz.underlying21
 a21 := Tryz.isAgg21
 z21 := Tryz.sizeOf21
 v21 := Tryz.zeroValue21
 t31 := Tryz.underlying58
 a31 := Tryz.isAgg58
 z31 := Tryz.sizeOf58
 v31 := Tryz.zeroValue58
 t46 := Tryz.underlying110
 a46 := Tryz.isAgg110
 z46 := Tryz.sizeOf110
 v46 := Tryz.zeroValue110
 t51 := Tryz.underlying130
 a51 := Tryz.isAgg130
 z51 := Tryz.sizeOf130
 v51 := Tryz.zeroValue130
 t105 := Tryz.underlying118
 a105 := Tryz.isAgg118
 z105 := Tryz.sizeOf118
 v105 := Tryz.zeroValue118
 t119 := Tryz.underlying140
 a119 := Tryz.isAgg140
 z119 := Tryz.sizeOf140
 t138 := Tryz.underlying142
 a138 := Tryz.isAgg142
 z138 := Tryz.sizeOf142
 v138 := Tryz.zeroValue142
 t139 := Tryz.underlying143
 a139 := Tryz.isAgg143
 z139 := Tryz.sizeOf143
 v139 := Tryz.zeroValue143
 t146 := Tryz.underlying144
 a146 := Tryz.isAgg144
 z146 := Tryz.sizeOf144
 v146 := Tryz.zeroValue144
 g1 := by kernel_rfl
 g3 := by kernel_rfl
 g4 := by kernel_rfl
 i0 := by kernel_rfl
 i3 := by kernel_rfl
 i4 := by kernel_rfl
 i5 := by kernel_rfl
 i9 := by kernel_rfl
 i21 := by kernel_rfl
 i31 := by kernel_rfl
 i46 := by kernel_rfl
 i51 := by kernel_rfl
 i105 := by kernel_rfl
 i138 := by kernel_rfl
 i139 := by kernel_rfl
 i146 := by kernel_rfl
 m1 := by kernel_rfl
 s1_3 := fun w h => Go.Proofs.cell_of_shapedOpen_int (zero := #[.int .i64 0]) (t := 3) h (of_decide_eq_true (by kernel_rfl)) (by kernel_rfl) rfl (by kernel_rfl) (by kernel_rfl) Tryz.underlying3
 m3 := by kernel_rfl
 m4 := by kernel_rfl }
def Tryz.laysAtoi_ren : Go.Shelf.Ren := ⟨fun | 172 => 76 | 244 => 87 | 245 => 88 | 247 => 99 | 279 => 100 | 280 => 101 | 281 => 102 | 282 => 103 | 287 => 116 | 316 => 117 | 171 => 46 | 205 => 118 | 321 => 124 | 322 => 125 | 243 => 70 | 246 => 82 | 283 => 90 | 284 => 91 | 285 => 92 | 286 => 93 | 129 => 107 | 317 => 106 | 318 => 108 | 319 => 109 | 320 => 110 | 337 => 120 | 338 => 121 | n => n, fun | 9 => 9 | 3 => 3 | 75 => 97 | 76 => 98 | 4 => 4 | 5 => 5 | 167 => 122 | 37 => 22 | 0 => 0 | 85 => 123 | 2 => 2 | 168 => 125 | 53 => 113 | 175 => 133 | 46 => 110 | 210 => 137 | 127 => 147 | 145 => 150 | 143 => 148 | 21 => 21 | 171 => 112 | 173 => 116 | 212 => 129 | 51 => 130 | 20 => 20 | 213 => 131 | 232 => 152 | 233 => 153 | 80 => 154 | n => n, fun | 15 => 2 | 16 => 3 | 17 => 0 | 18 => 6 | 19 => 7 | n => n⟩
theorem Tryz.laysAtoi : Go.Proofs.Lays.n172 Tryz.prog Tryz.laysAtoi_ren := {
 mixed := by kernel_rfl
 f129 := Tryz.func107.trans (congrArg some (by kernel_rfl))
 f171 := Tryz.func46.trans (congrArg some (by kernel_rfl))
 f172 := Tryz.func76.trans (congrArg some (by kernel_rfl))
 f205 := Tryz.func118.trans (congrArg some (by kernel_rfl))
 f243 := Tryz.func70.trans (congrArg some (by kernel_rfl))
 f244 := Tryz.func87.trans (congrArg some (by kernel_rfl))
 f245 := Tryz.func88.trans (congrArg some (by kernel_rfl))
 f246 := Tryz.func82.trans (congrArg some (by kernel_rfl))
 f247 := Tryz.func99.trans (congrArg some (by kernel_rfl))
 f279 := Tryz.func100.trans (congrArg some (by kernel_rfl))
 f280 := Tryz.func101.trans (congrArg some (by kernel_rfl))
 f281 := Tryz.func102.trans (congrArg some (by kernel_rfl))
 f282 := Tryz.func103.trans (congrArg some (by kernel_rfl))
 f283 := Tryz.func90.trans (congrArg some (by kernel_rfl))
 f284 := Tryz.func91.trans (congrArg some (by kernel_rfl))
 f285 := Tryz.func92.trans (congrArg some (by kernel_rfl))
 f286 := Tryz.func93.trans (congrArg some (by kernel_rfl))
 f287 := Tryz.func116.trans (congrArg some (by kernel_rfl))
 f316 := Tryz.func117.trans (congrArg some (by kernel_rfl))
 f317 := Tryz.func106.trans (congrArg some (by kernel_rfl))
 f318 := Tryz.func108.trans (congrArg some (by kernel_rfl))
 f319 := Tryz.func109.trans (congrArg some (by kernel_rfl))
 f320 := Tryz.func110.trans (congrArg some (by kernel_rfl))
 f321 := Tryz.func124.trans (congrArg some (by kernel_rfl))
 f322 := Tryz.func125.trans (congrArg some (by kernel_rfl))
 f337 := Tryz.func120.trans (congrArg some (by kernel_rfl))
 f338 := Tryz.func121.trans (congrArg some (by kernel_rfl))
 t0 := Tryz.underlying0
 a0 := Tryz.isAgg0
 z0 := Tryz.sizeOf0
 v0 := Tryz.zeroValue0
 t2 := Tryz.underlying2
 a2 := Tryz.isAgg2
 z2 := Tryz.sizeOf2
 v2 := Tryz.zeroValue2
 t3 := Tryz.underlying3
 a3 := Tryz.isAgg3
 z3 := Tryz.sizeOf3
 v3 := Tryz.zeroValue3
 t4 := Tryz.underlying4
 a4 := Tryz.isAgg4
 z4 := Tryz.sizeOf4
 v4 := Tryz.zeroValue4
 t5 := Tryz.underlying5
 a5 := Tryz.isAgg5
 z5 := Tryz.sizeOf5
 v5 := Tryz.zeroValue5
 t9 := Tryz.underlying9
 a9 := Tryz.isAgg9
 z9 := Tryz.sizeOf9
 v9 := Tryz.zeroValue9
 t20 := Tryz.underlying20
 a20 := Tryz.isAgg20
 z20 := Tryz.sizeOf20
 v20 := Tryz.zeroValue20
 t21 := Tryz.underlying21
 a21 := Tryz.isAgg21
 z21 := Tryz.sizeOf21
 v21 := Tryz.zeroValue21
 t37 := Tryz.underlying22
 a37 := Tryz.isAgg22
 z37 := Tryz.sizeOf22
 v37 := Tryz.zeroValue22
 t46 := Tryz.underlying110
 a46 := Tryz.isAgg110
 z46 := Tryz.sizeOf110
 v46 := Tryz.zeroValue110
 t51 := Tryz.underlying130
 a51 := Tryz.isAgg130
 z51 := Tryz.sizeOf130
 v51 := Tryz.zeroValue130
 t53 := Tryz.underlying113
 a53 := Tryz.isAgg113
 z53 := Tryz.sizeOf113
 v53 := Tryz.zeroValue113
 t75 := Tryz.underlying97
 a75 := Tryz.isAgg97
 z75 := Tryz.sizeOf97
 v75 := Tryz.zeroValue97
 t76 := Tryz.underlying98
 a76 := Tryz.isAgg98
 z76 := Tryz.sizeOf98
 v76 := Tryz.zeroValue98
 t85 := Tryz.underlying123
 a85 := Tryz.isAgg123
 z85 := Tryz.sizeOf123
 v85 := Tryz.zeroValue123
 t127 := Tryz.underlying147
 a127 := Tryz.isAgg147
 z127 := Tryz.sizeOf147
 v127 := Tryz.zeroValue147
 t143 := Tryz.underlying148
 a143 := Tryz.isAgg148
 z143 := Tryz.sizeOf148
 v143 := Tryz.zeroValue148
 t145 := Tryz.underlying150
 a145 := Tryz.isAgg150
 z145 := Tryz.sizeOf150
 v145 := Tryz.zeroValue150
 t167 := Tryz.underlying122
 a167 := Tryz.isAgg122
 z167 := Tryz.sizeOf122
 v167 := Tryz.zeroValue122
 t168 := Tryz.underlying125
 a168 := Tryz.isAgg125
 z168 := Tryz.sizeOf125
 v168 := Tryz.zeroValue125
 t171 := Tryz.underlying112
 a171 := Tryz.isAgg112
 z171 := Tryz.sizeOf112
 v171 := Tryz.zeroValue112
 t173 := Tryz.underlying116
 a173 := Tryz.isAgg116
 z173 := Tryz.sizeOf116
 v173 := Tryz.zeroValue116
 t175 := Tryz.underlying133
 a175 := Tryz.isAgg133
 z175 := Tryz.sizeOf133
 v175 := Tryz.zeroValue133
 t210 := Tryz.underlying137
 a210 := Tryz.isAgg137
 z210 := Tryz.sizeOf137
 v210 := Tryz.zeroValue137
 t212 := Tryz.underlying129
 a212 := Tryz.isAgg129
 z212 := Tryz.sizeOf129
 v212 := Tryz.zeroValue129
 t213 := Tryz.underlying131
 a213 := Tryz.isAgg131
 z213 := Tryz.sizeOf131
 t232 := Tryz.underlying152
 a232 := Tryz.isAgg152
 z232 := Tryz.sizeOf152
 v232 := Tryz.zeroValue152
 t233 := Tryz.underlying153
 a233 := Tryz.isAgg153
 z233 := Tryz.sizeOf153
 v233 := Tryz.zeroValue153
 g15 := by kernel_rfl
 g16 := by kernel_rfl
 g17 := by kernel_rfl
 g18 := by kernel_rfl
 g19 := by kernel_rfl }
def Tryz.laysTrim_ren : Go.Shelf.Ren := ⟨fun | 101 => 75 | 208 => 86 | 206 => 98 | n => n, fun | 9 => 9 | 4 => 4 | 3 => 3 | n => n, fun | n => n⟩
theorem Tryz.laysTrim : Go.Proofs.Lays.n101 Tryz.prog Tryz.laysTrim_ren := {
 mixed := by kernel_rfl
 f101 := Tryz.func75.trans (congrArg some (by kernel_rfl))
 f206 := Tryz.func98.trans (congrArg some (by kernel_rfl))
 f208 := Tryz.func86.trans (congrArg some (by kernel_rfl))
 t3 := Tryz.underlying3
 a3 := Tryz.isAgg3
 z3 := Tryz.sizeOf3
 v3 := Tryz.zeroValue3
 t4 := Tryz.underlying4
 a4 := Tryz.isAgg4
 z4 := Tryz.sizeOf4
 v4 := Tryz.zeroValue4
 t9 := Tryz.underlying9
 a9 := Tryz.isAgg9
 z9 := Tryz.sizeOf9
 v9 := Tryz.zeroValue9 }
end Go.Proofs
namespace Go.Rf
set_option linter.unusedSectionVars false
set_option linter.unusedVariables false
set_option linter.unusedSimpArgs false
open Go.Shelf Go.RowKit Go.Lib Go.Proofs Go.Sort
def rDl : Ren := ⟨fun | 6 => 73 | 10 => 51 | n => n, fun | 22 => 58 | 23 => 9 | 25 => 79 | n => n, fun n => n⟩
theorem layDl : SlLaysH.n10 Tryz.prog rDl where
 mixed := by kernel_rfl
 f6 := ⟨Tryz.f73.name, by kernel_rfl, Tryz.func73.trans (congrArg some (by kernel_rfl))⟩
 f10 := ⟨Tryz.f51.name, by kernel_rfl, Tryz.func51.trans (congrArg some (by kernel_rfl))⟩
 t0 := Tryz.underlying0
 a0 := Tryz.isAgg0
 z0 := Tryz.sizeOf0
 v0 := Tryz.zeroValue0
 t3 := Tryz.underlying3
 a3 := Tryz.isAgg3
 z3 := Tryz.sizeOf3
 v3 := Tryz.zeroValue3
 t4 := Tryz.underlying4
 a4 := Tryz.isAgg4
 z4 := Tryz.sizeOf4
 v4 := Tryz.zeroValue4
 t22 := Tryz.underlying58
 a22 := Tryz.isAgg58
 z22 := Tryz.sizeOf58
 v22 := Tryz.zeroValue58
 a23 := Tryz.isAgg9
 z23 := Tryz.sizeOf9
 t25 := Tryz.underlying79
 a25 := Tryz.isAgg79
 z25 := Tryz.sizeOf79
 v25 := Tryz.zeroValue79
theorem none_gives (x : ByteArray) (W : World) : FnGives Tryz.prog 53 #[] #[.string x] (.bool x.toList.isEmpty) W := by
 show Calls Tryz.prog 53 #[.string x] W _
 go_enter Tryz.func53, Tryz.ntmps53
 go_wp2
 all_goals (go_ret; exact ⟨by first | rfl | simp_all, 0, rfl⟩)
abbrev sep1 : ByteArray := ⟨#[32]⟩
def cuts (t : List UInt8) : List ByteArray := splitB sep1 0 (countB ⟨⟨t⟩⟩ sep1) ⟨⟨t⟩⟩
def keptW (t : List UInt8) : List ByteArray := (cuts t).filter fun x => !x.toList.isEmpty
theorem words_run (t : List UInt8) (ht : t.length ≤ 1048576) (m : Int) (w : World) (hm : w.cell? ⟨Tryz.laysSplit_ren.g 1, 0, none⟩ = some (.int .i64 m)) :
  Calls Tryz.prog 28 #[.string ⟨⟨t⟩⟩] w fun e w' => e = .returned (.slice (some ⟨w.heap.size, 0, none⟩) (keptW t).length (cuts t).length) ∧
   ∃ q, w' = putRow Value.string (Sort.ahead (w.alloc (.cells ((cuts t).map Value.string).toArray 9)) q) w.heap.size 0 (keptW t ++ List.replicate ((cuts t).length - (keptW t).length) ByteArray.empty).toArray := by
 have hlen : (cuts t).length = countB ⟨⟨t⟩⟩ sep1 + 1 := splitB_all sep1 (by decide) 0 _ _ rfl
 have hsp : Calls Tryz.prog 52 #[.string ⟨⟨t⟩⟩, .string sep1] w fun e w' => e = .returned (.slice (some ⟨w.heap.size, 0, none⟩) (cuts t).length (cuts t).length) ∧ w' = w.alloc (.cells ((cuts t).map Value.string).toArray 9) := by
  rw [hlen]
  exact Any.strings_Split { Tryz.laysSplit with } Tryz.laysSplit.i9 ⟨⟨t⟩⟩ sep1 m w (by show t.length < _; omega) hm (by decide)
 have eg : ∀ args w, (callFunc 53 args).run Tryz.prog w = .ok (.enter 53 args) w := enters_of Tryz.func53 (by kernel_rfl) rfl
 have hH : Holds Value.string (w.alloc (.cells ((cuts t).map Value.string).toArray 9)) w.heap.size 0 (cuts t).toArray := fun j hj => by
  have hj : j < (cuts t).length := by simpa using hj
  refine ⟨?_, World.frozen?_alloc_new w _ _ _⟩
  have := cell_blk (T := ⟨[]⟩) (w := w.alloc (.cells ((cuts t).map Value.string).toArray 9)) (b := w.heap.size) (o := 0 + j) (cs := ((cuts t).map Value.string).toArray) ⟨9, (0, 0), al_at (T := ⟨[]⟩) w _⟩ (v := .string (cuts t)[j]) (by rw [Nat.zero_add, List.getElem?_map, List.getElem?_eq_getElem hj]; rfl)
  rw [this, getElem!_pos _ j (by simpa using hj)]; simp
 have hd := AnyE.slices_DeleteFunc layDl Value.string (fun _ => rfl) (fun x => x.toList.isEmpty) 53 #[] eg ByteArray.empty Tryz.zeroValue9 w.heap.size 0 (cuts t).length (cuts t).toArray (w.alloc (.cells ((cuts t).map Value.string).toArray 9))
  (fun W x _ => none_gives x W) (fun n os dk x _ => none_gives x _) hH (by
   have := countB_le sep1 (by decide) _ ⟨⟨t⟩⟩ (Nat.le_refl _)
   have h2 : (ByteArray.mk ⟨t⟩).size = t.length := rfl
   simp only [List.size_toArray]; omega) (by simp)
 change Calls Tryz.prog 51 _ _ _ at hd
 simp only [List.size_toArray] at hd
 rw [show ((cuts t).toArray.toList.filter fun x => !x.toList.isEmpty) = keptW t from rfl] at hd
 generalize keptW t = K at hd ⊢
 generalize cuts t = C at hsp hd ⊢
 clear hH hlen hm
 go_enter Tryz.func28, Tryz.ntmps28
 go_wp2_with (first | (go_at_call 52; refine hsp.mono ?_; rintro e w' ⟨rfl, rfl⟩) | (go_at_call 51; refine hd.mono ?_; rintro e w' ⟨rfl, q, rfl⟩))
 go_ret
 exact ⟨rfl, q, rfl⟩
theorem num_run (t : List UInt8) (n : Int) (ht : t.length ≤ 18) (hn : Lib.atoi t = some n) (h0 : 0 ≤ n) (h1 : n ≤ 1000000000000000000) (hi : Lib.itoa n = t) (w : World)
  (htab : ∀ W, Below w.heap.size w W → Lib.TabIs Tryz.prog W "internal/strconv.uint64pow10" .u64 Lib.pow10Tab) :
  Calls Tryz.prog 54 #[.string ⟨⟨t⟩⟩] w fun e w' => e = .returned (.tuple #[.int .i64 n, .bool true]) ∧ Below w.heap.size w w' := by
 have htr : Calls Tryz.prog 75 #[.string ⟨⟨t⟩⟩, .string ⟨#[45]⟩] w fun e w' => ∃ d : ByteArray, e = .returned (.string d) ∧ d.size ≤ 18 ∧ w' = w := by
  refine (Any.strings_TrimPrefix Tryz.laysTrim ⟨⟨t⟩⟩ ⟨#[45]⟩ w).mono ?_
  rintro e w' ⟨rfl, rfl⟩
  refine ⟨_, rfl, ?_, rfl⟩
  show (trimPrefix t [45]).toArray.size ≤ 18
  rw [List.size_toArray]
  unfold trimPrefix
  split
  ·rw [List.length_drop]; omega
  ·exact ht
 have hat : Calls Tryz.prog 76 #[.string ⟨⟨t⟩⟩] w fun e w' => e = .returned (.tuple #[.int .i64 n, .nilIface]) ∧ Below w.heap.size w w' := by
  refine (Any.strconv_Atoi Tryz.laysAtoi ⟨⟨t⟩⟩ n ht hn w).mono ?_
  rintro e w' ⟨rfl, q, rfl⟩
  exact ⟨rfl, Lib.bytesWorld_below _ _ _⟩
 have hit : ∀ W, Below w.heap.size w W → Calls Tryz.prog 46 #[.int .i64 n] W fun e w' => e = .returned (.string ⟨⟨t⟩⟩) ∧ Below w.heap.size w w' := fun W hW => by
  refine (Any.strconv_Itoa Tryz.laysItoa n (by omega) (by omega) W (htab W hW)).mono ?_
  rintro e w' ⟨rfl, k, os, rfl⟩
  exact ⟨by rw [hi], hW.trans (Lib.below_grow _ _ hW.size _ _)⟩
 clear htab
 go_enter Tryz.func54, Tryz.ntmps54
 go_wp2_with (first | (go_at_call 75; refine htr.mono ?_; rintro e w' ⟨d, rfl, hd, rfl⟩) | (go_at_call 76; refine hat.mono ?_; rintro e w' ⟨rfl, hB⟩) | (go_at_call 46; refine (hit _ hB).mono ?_; rintro e w' ⟨rfl, hB2⟩))
 go_ret2
 exact ⟨rfl, hB2⟩
end Go.Rf

end
section
namespace Go.Rf
set_option linter.unusedSectionVars false
set_option linter.unusedVariables false
set_option linter.unusedSimpArgs false
variable [T : Laid]
open Go.Shelf Go.RowKit Go.Lib Go.Proofs Go.Sort
theorem put_chgW {α : Type} [Inhabited α] {enc : α → Value} {w : World} {b o : Nat} {d : Array α} {cs : Array Value} {e : TypeId} {fz : Nat × Nat} (hb : w.heap[b]? = some (.cells cs e fz)) :
  (putRow enc w b o d).heap[b]? = some (.cells (putCells enc o d cs) e fz) ∧ (∀ b', b' ≠ b → (putRow enc w b o d).heap[b']? = w.heap[b']?) ∧ (putRow enc w b o d).heap.size = w.heap.size ∧ SameOut w (putRow enc w b o d) := by
 unfold putRow mapBlock
 refine ⟨?_, fun b' h => ?_, ?_, ⟨rfl, rfl, rfl⟩⟩
 ·simp only [Array.getElem?_modify, if_true, hb]; rfl
 ·simp only [Array.getElem?_modify]; rw [if_neg (Ne.symm h)]
 ·simp
theorem cuts_data (t : List UInt8) : (cuts t).map (·.data.toList) = spl 32 t := by
 unfold cuts
 rw [splitB_data]
 have e : countB ⟨⟨t⟩⟩ sep1 = t.count 32 := by
  rw [show countB ⟨⟨t⟩⟩ sep1 = count t [32] from rfl, count_one]
 rw [e]
 exact spl_eq 32 t
theorem kept_data (t : List UInt8) : (keptW t).map (·.data.toList) = wordsF t := by
 unfold keptW wordsF
 rw [← cuts_data t, List.filter_map]
 congr 1
 refine List.filter_congr fun x _ => ?_
 show (!x.toList.isEmpty) = !x.data.toList.isEmpty
 rw [ByteArray.toList_eq]
section
variable {E : Env} {w w' : World} {S : Nat → Prop} {β : Key → Option Nat} {keep : List Nat} {mv : List (Nat × Nat)}
theorem words_fn (hE : E.P = Tryz.prog) (m : Int) (hT : (1, #[Value.int .i64 m]) ∈ T.tabs) (t : List UInt8) (ht : t.length ≤ 1048576) :
  FnOKc E ⟨[.ro .str], 1, .pair (.sl .str) .unit, .pr (.own .sh) .sh, keep, mv⟩ 28 [⟨.str, t⟩] (wordsF t, ()) := by
 intro w S β cs hs ha
 match cs, ha with
 | [c1], ha =>
  simp only [ArgsAt] at ha
  obtain ⟨_, hv, _⟩ := ha
  simp only [Rd] at hv
  subst hv
  rw [hE]
  refine .inl ⟨Tryz.f28, Tryz.func28, by kernel_rfl, by kernel_rfl, ?_⟩
  show Calls Tryz.prog 28 #[.string ⟨⟨t⟩⟩] w _
  have hm : w.cell? ⟨Tryz.laysSplit_ren.g 1, 0, none⟩ = some (.int .i64 m) := cell_blk (hs.tab _ hT).2 rfl
  refine (words_run t ht m w hm).mono ?_
  rintro e w' ⟨rfl, q, rfl⟩
  have hk := kept_data t
  have hkl : (keptW t).length = (wordsF t).length := by rw [← hk, List.length_map]
  have hkc : (keptW t).length ≤ (cuts t).length := List.length_filter_le _ _
  obtain ⟨D, hD⟩ : ∃ D, D = (keptW t ++ List.replicate ((cuts t).length - (keptW t).length) ByteArray.empty).toArray := ⟨_, rfl⟩
  have hDs : D.size = (cuts t).length := by rw [hD]; simp only [List.size_toArray, List.length_append, List.length_replicate]; omega
  rw [← hD]
  have hb0 : (Sort.ahead (w.alloc (.cells ((cuts t).map Value.string).toArray 9)) q).heap[w.heap.size]? = some (.cells ((cuts t).map Value.string).toArray 9 (0, 0)) := al_at w _
  obtain ⟨p1, p2, p3, p4⟩ := put_chgW (enc := Value.string) (o := 0) (d := D) hb0
  have ps : (putCells Value.string 0 D ((cuts t).map Value.string).toArray).size = (cuts t).length := by unfold putCells; simp
  have pg : ∀ j (h : j < (keptW t).length), (putCells Value.string 0 D ((cuts t).map Value.string).toArray)[j]? = some (.string (keptW t)[j]) := fun j h => by
   unfold putCells
   rw [Array.getElem?_mapIdx, Array.getElem?_eq_getElem (by simp; omega)]
   simp only [Option.map_some]
   rw [if_pos ⟨Nat.zero_le _, by omega⟩, Nat.sub_zero, getElem!_pos _ j (by omega)]
   congr 2
   simp only [hD, List.getElem_toArray]
   rw [List.getElem_append_left h]
  have hwl : (putCells Value.string 0 D ((cuts t).map Value.string).toArray).toList.length = (cuts t).length := by rw [Array.length_toList, ps]
  rw [hkl]
  refine ret_new (τ := .str) (cx := win (putCells Value.string 0 D ((cuts t).map Value.string).toArray).toList 0 ((wordsF t).length * 1)) hs p1 (fun b hb => ?_) ?_ ⟨p4.os, p4.tape, p4.output⟩ (Nat.le_trans (Nat.le_of_eq hkl.symm) hkc) (by rw [ps]; show _ * 1 ≤ _; omega) ?_ rfl (fun _ => by simp [IoAt])
  ·rw [p2 b (by omega)]
   show (w.alloc _).heap[b]? = _
   exact al_past hb _
  ·rw [p3]
   show (w.alloc _).heap.size = _
   exact al_size w _
  ·refine .of (by rw [win_len (by rw [hwl, Nat.zero_add, Nat.mul_one]; exact Nat.le_trans (Nat.le_of_eq hkl.symm) hkc)]; rfl) fun j v hv => ?_
   have hj : j < (wordsF t).length := (List.getElem?_eq_some_iff.1 hv).1
   have hv' : (wordsF t)[j] = v := (List.getElem?_eq_some_iff.1 hv).2
   have hj' : j < (keptW t).length := by omega
   have e1 : (keptW t)[j].data.toList = v := by
    rw [← hv']
    simp only [← hk, List.getElem_map]
   show Rd S _ .str v (win (win _ 0 ((wordsF t).length * 1)) (j * 1) 1)
   simp only [Rd]
   apply List.ext_getElem?
   intro i
   rw [win_get]
   by_cases hi : i < 1
   ·have : i = 0 := by omega
    subst this
    rw [if_pos hi, win_get, if_pos (by omega), Array.getElem?_toList, show 0 + (j * 1 + 0) = j by omega, pg j hj', ← e1]; rfl
   ·rw [if_neg hi]
    exact (List.getElem?_eq_none (by simp; omega)).symm
 | [], ha => simp [ArgsAt] at ha
 | _ :: _ :: _, ha => simp [ArgsAt] at ha
theorem num_fn (hE : E.P = Tryz.prog) (hT : (0, (pow10Tab.map fun z => Value.int .u64 z).toArray) ∈ T.tabs) (t : List UInt8) (n : Int) (ht : t.length ≤ 18) (hn : atoi t = some n) (h0 : 0 ≤ n) (hi : itoa n = t) :
  FnOKc E ⟨[.ro .str], 2, .pair (.int .i64) (.pair .bool .unit), .sh, keep, mv⟩ 54 [⟨.str, t⟩] (n, (true, ())) := by
 intro w S β cs hs ha
 match cs, ha with
 | [c1], ha =>
  simp only [ArgsAt] at ha
  obtain ⟨_, hv, _⟩ := ha
  simp only [Rd] at hv
  subst hv
  rw [hE]
  refine .inl ⟨Tryz.f54, Tryz.func54, by kernel_rfl, by kernel_rfl, ?_⟩
  show Calls Tryz.prog 54 #[.string ⟨⟨t⟩⟩] w _
  have hbd := atoi_bound hn ht
  refine (num_run t n ht hn h0 (by omega) hi w fun W hW => ?_).mono ?_
  ·obtain ⟨hS, e, fz, hb⟩ := hs.tab _ hT
   have hb' : W.heap[0]? = some (.cells (pow10Tab.map fun z => Value.int .u64 z).toArray e fz) := (hW.block 0 (hs.liveS 0 hS)).trans hb
   unfold TabIs World.var?
   rw [show Tryz.prog.globalNamed "internal/strconv.uint64pow10" = some 0 by kernel_rfl]
   simp only [Option.bind_some, hb']
  ·rintro e w' ⟨rfl, hB⟩
   obtain ⟨h1, h2⟩ := below_step hs hB
   refine ⟨S, β, [[.int .i64 n], [.bool true]], h1, h2, ?_, rfl, by simp [IoAt]⟩
   simp only [ResAt]
   refine ⟨VRel_sh.2 ?_, VRel_sh.2 ?_, trivial⟩ <;> simp [Rd]
 | [], ha => simp [ArgsAt] at ha
 | _ :: _ :: _, ha => simp [ArgsAt] at ha
end
end Go.Rf

end
section
namespace Go.Rf
open Go.Shelf Go.RowKit Go.Lib Go.Proofs
def rD : Ren := ⟨fun _ => 62, fun | 22 => 23 | 23 => 54 | n => n, fun n => n⟩
theorem layD : SlLaysE0.n45 Tryz.prog rD where
 mixed := by kernel_rfl
 f45 := ⟨Tryz.f62.name, by kernel_rfl, Tryz.func62.trans (congrArg some (by kernel_rfl))⟩
 t0 := Tryz.underlying0
 a0 := Tryz.isAgg0
 z0 := Tryz.sizeOf0
 v0 := Tryz.zeroValue0
 t3 := Tryz.underlying3
 a3 := Tryz.isAgg3
 z3 := Tryz.sizeOf3
 v3 := Tryz.zeroValue3
 t4 := Tryz.underlying4
 a4 := Tryz.isAgg4
 z4 := Tryz.sizeOf4
 v4 := Tryz.zeroValue4
 t22 := Tryz.underlying23
 a22 := Tryz.isAgg23
 z22 := Tryz.sizeOf23
 v22 := Tryz.zeroValue23
def rI : Ren := ⟨fun | 22 => 89 | 29 => 104 | 30 => 105 | 36 => 119 | n => n, fun | 24 => 23 | 9 => 54 | n => n, fun n => n⟩
theorem layI : InsL Tryz.prog rI (Tryz.prog.info? 54).get! ((Tryz.prog.info? 54).get!.zero.get!) 2 where
 mixed := by kernel_rfl
 f22 := ⟨Tryz.f89.name, by kernel_rfl, Tryz.func89.trans (congrArg some (by kernel_rfl))⟩
 t0 := Tryz.underlying0
 a0 := Tryz.isAgg0
 z0 := Tryz.sizeOf0
 v0 := Tryz.zeroValue0
 t3 := Tryz.underlying3
 a3 := Tryz.isAgg3
 z3 := Tryz.sizeOf3
 v3 := Tryz.zeroValue3
 t4 := Tryz.underlying4
 a4 := Tryz.isAgg4
 z4 := Tryz.sizeOf4
 v4 := Tryz.zeroValue4
 t24 := Tryz.underlying23
 a24 := Tryz.isAgg23
 z24 := Tryz.sizeOf23
 v24 := Tryz.zeroValue23
 z9 := Tryz.sizeOf54
 info := by kernel_rfl
 size := by kernel_rfl
 zero := by kernel_rfl
 zs := by kernel_rfl
 bytes := of_decide_eq_true (by kernel_rfl)
 pos := by decide
theorem ovI : OvL Tryz.prog rI := ⟨_, Tryz.func104, by kernel_rfl, by kernel_rfl, by kernel_rfl, by kernel_rfl⟩
end Go.Rf
namespace Go.Rf.S
open Go.Proofs Go.Lib
set_option maxRecDepth 100000
set_option linter.unusedVariables false
set_option linter.unusedSimpArgs false
@[reducible] def laidM (m : Int) : Laid := ⟨[(0, (pow10Tab.map fun z => Value.int .u64 z).toArray), (1, #[Value.int .i64 m])]⟩
theorem worH_some {ds : List Dyn} {x : (Ty.pair (.sl .str) .unit).D} (h : worH ds = some x) : ∃ t : List UInt8, ds = [⟨.str, t⟩] ∧ t.length ≤ 1048576 ∧ x = (wordsF t, ()) := by
 unfold worH at h
 split at h
 ·rename_i a
  obtain ⟨t, h1, h⟩ := Option.bind_eq_some_iff.1 h
  rw [strOf_some h1]
  cases hb : Nat.ble t.length 1048576 with
  | false => rw [hb] at h; cases h
  | true => rw [hb] at h; exact ⟨t, rfl, by simpa [Nat.ble_eq] using hb, (Option.some.inj h).symm⟩
 ·cases h
theorem numH_some {ds : List Dyn} {x : (Ty.pair (.int .i64) (.pair .bool .unit)).D} (h : numH ds = some x) : ∃ (t : List UInt8) (n : Int), ds = [⟨.str, t⟩] ∧ t.length ≤ 18 ∧ atoi t = some n ∧ 0 ≤ n ∧ itoa n = t ∧ x = (n, (true, ())) := by
 unfold numH at h
 split at h
 ·rename_i a
  obtain ⟨t, h1, h⟩ := Option.bind_eq_some_iff.1 h
  obtain ⟨n, h2, h⟩ := Option.bind_eq_some_iff.1 h
  rw [strOf_some h1]
  cases hb : Nat.ble t.length 18 && decide (0 ≤ n) && decide (itoa n = t) with
  | false => rw [hb] at h; cases h
  | true =>
   rw [hb] at h
   simp only [Bool.and_eq_true, decide_eq_true_eq, Nat.ble_eq] at hb
   exact ⟨t, n, rfl, hb.1.1, h2, hb.1.2, hb.2, (Option.some.inj h).symm⟩
 ·cases h
theorem X_ok (m : Int) : ∀ f h, X f = some h → ∀ ds x, h ds = some x → @FnOK (laidM m) EE f ds x := by
 letI : Laid := laidM m
 intro f h hX ds x hx
 unfold X at hX
 split at hX
 ·cases hX
  obtain ⟨t, rfl, h1, rfl⟩ := worH_some hx
  exact @words_fn (laidM m) EE _ _ rfl m (by show _ ∈ [_, _]; simp) t h1
 ·cases hX
  obtain ⟨t, n, rfl, h1, h2, h3, h4, rfl⟩ := numH_some hx
  exact @num_fn (laidM m) EE _ _ rfl (by show _ ∈ [_, _]; simp) t n h1 h2 h3 h4
 ·cases hX
  obtain ⟨n, rfl, hn, rfl⟩ := itoaH_some hx
  exact @itoa_fn (laidM m) EE Tryz.laysItoa_ren _ _ _ _ 0 Tryz.laysItoa rfl Tryz.func46 (by kernel_rfl) (by kernel_rfl) (by kernel_rfl) (by show _ ∈ [_, _]; simp) n hn.1 hn.2
 ·cases hX
  obtain ⟨xs, i, j, rfl, hij, hj, rfl⟩ := delH_some hx
  exact delete_fn (T := laidM m) (E := EE) (τ := T_Entry) layD rfl Tryz.func62 (by kernel_rfl) (by kernel_rfl) (i0 := (Tryz.prog.info? 54).get!) (by kernel_rfl) Tryz.zeroValue54 (by kernel_rfl) (by kernel_rfl) (by decide) Tryz.sizeOf54 rfl xs i j hij hj
 ·cases hX
  obtain ⟨xs, vs, i, rfl, hi, hm, hb, rfl⟩ := insH_some hx
  exact insert_fn (T := laidM m) (E := EE) (τ := T_Entry) layI ovI rfl Tryz.func89 (by kernel_rfl) (by kernel_rfl) rfl rfl xs vs i hi hm hb
 ·cases hX
theorem run_same (m : Int) : @run (laidM m) EE X = R := rfl
end Go.Rf.S

end
