import Derived.Test.YtkiejckaaipdkaaGreatDoorWli8
set_option linter.unusedVariables false
set_option linter.unusedSimpArgs false
namespace Go.Rf.S
set_option maxRecDepth 100000
set_option linter.unusedVariables false
set_option linter.unusedSimpArgs false

theorem ble_t {a b : Nat} (h : a ≤ b) : Nat.ble a b = true := by rw [Nat.ble_eq]; exact h
theorem dig_dec : ∀ (n : Nat), Go.Lib.decDigits n = dig n := fun n => by
  induction n using Nat.strongRecOn with
  | _ n ih =>
    rw [Go.Lib.decDigits, dig]
    by_cases h : n < 10
    · rw [dif_pos h, if_pos h]
    · rw [dif_neg h, if_neg h, ih (n / 10) (by omega)]
theorem p_itoa {v : Int} (h0 : 0 ≤ v) (h1 : v < 1000000000000000000) : c_strconv_Itoa R v = some (digI v, ()) := by
  refine (run_x (f := 79) (h := itoaH) rfl _).trans ?_
  show cond (decide (-9223372036854775808 ≤ v) && decide (v ≤ 9223372036854775807)) (some (Go.Lib.itoa v, ())) none = _
  rw [decide_eq_true (by omega), decide_eq_true (by omega)]
  unfold Go.Lib.itoa digI
  rw [if_neg (by omega), dig_dec]; rfl
theorem join_glue (sep : List UInt8) : ∀ (xs : List (List UInt8)), Go.Lib.join xs sep = glue sep xs
  | [] => rfl
  | x :: xs => Go.Lib.join_cons x xs sep
theorem p_join (xs : List (List UInt8)) (sep : List UInt8) (h1 : xs.length ≤ 1099511627776) (h2 : (glue sep xs).length ≤ 1099511627776) : c_strings_Join R xs sep = some (glue sep xs, ()) := by
  refine (run_x (f := 128) (h := joinH) rfl _).trans ?_
  show cond (Nat.ble xs.length 1099511627776 && Nat.ble (Go.Lib.join xs sep).length 1099511627776) (some (Go.Lib.join xs sep, ())) none = _
  rw [join_glue, ble_t h1, ble_t h2]; rfl
theorem p_impl_opWords : c_impl_opWords R = some (opTab, ()) := call (q_impl_opWords R L)
theorem p_impl_opText (o : D_Op) (h : OpB o) : c_impl_opText R o = some (opText o, ()) := by
  have hq : c_impl_opText R o = _ := call (q_impl_opText R L o)
  have hk := h.k
  have hkey := h.key
  have hv := h.v
  have e : o.1 = ((o.1.toNat : Nat) : Int) := by omega
  have hw := opTab_len (opW o.1) (opW_in hk)
  have l1 := digI_len (v := o.2.1) (by omega)
  have l2 := digI_len (v := o.2.2.1) (by omega)
  rw [hq, p_impl_opWords, p_itoa (v := o.2.1) (by omega) (by omega), p_itoa (v := o.2.2.1) (by omega) (by omega), p_impl_isBare]
  simp only [Option.bind_some]
  rw [show nonneg o.1 = true by rw [e]; exact nn _, blt_t (show o.1.toNat < opTab.length from (by show o.1.toNat < 7; omega)), show opTab.getD o.1.toNat [] = opW o.1 from rfl]
  rw [lenOK_t (by simp only [List.length_append, List.length_cons, List.length_nil]; omega), lenOK_t (by simp only [List.length_append, List.length_cons, List.length_nil]; omega), lenOK_t (by simp only [List.length_append, List.length_cons, List.length_nil]; omega), lenOK_t (by simp only [List.length_append, List.length_cons, List.length_nil]; omega)]
  simp only [cond_true]
  unfold opText bareB
  cases (decide (o.1 = 1) || decide (o.1 = 3)) <;> simp
theorem bt_1 (l : List D_Txn) (hb : BatB l) (i : Nat) (hlt : i < l.length) (v3 : List (List UInt8)) (h3 : v3.length ≤ i) : ∀ (n k : Nat), (l.getD i ([], ())).1.length - k = n → k ≤ (l.getD i ([], ())).1.length →
    lp_impl_batchText_1 R L v3 (((l.getD i ([], ())).1.take k).map opText) l (l.length : Nat) i (l.getD i ([], ())).1 ((l.getD i ([], ())).1.length : Nat) k = lp_impl_batchText_0 R L (v3 ++ [txnText (l.getD i ([], ()))]) l (l.length : Nat) ((i + 1 : Nat) : Int)
  | 0, k, hn, hk => by
    have hq : lp_impl_batchText_1 R L v3 (((l.getD i ([], ())).1.take k).map opText) l (l.length : Nat) i (l.getD i ([], ())).1 ((l.getD i ([], ())).1.length : Nat) k = _ := round (by kernel_rfl) (q_impl_batchText_1 R L v3 _ l _ i _ _ k)
    have ht := hb.t _ (getD_mem (d := ([], ())) hlt)
    have hlb := hb.l
    have hx := txnText_len ht
    have htl := ht.l
    rw [hq, lt_f (by omega), List.take_of_length_le (by omega), p_join _ [59, 32] (by rw [List.length_map]; omega) (Nat.le_trans (show (glue [59, 32] ((l.getD i ([], ())).1.map opText)).length ≤ 300 from hx) (by omega))]
    simp only [cond_false, Option.bind_some]
    rw [lenOK_t (by simp only [List.length_cons, List.length_nil]; omega), wrap_succ (i := i) (by omega)]
    rfl
  | n + 1, k, hn, hk => by
    have hlk : k < (l.getD i ([], ())).1.length := by omega
    have hq : lp_impl_batchText_1 R L v3 (((l.getD i ([], ())).1.take k).map opText) l (l.length : Nat) i (l.getD i ([], ())).1 ((l.getD i ([], ())).1.length : Nat) k = _ := round (by kernel_rfl) (q_impl_batchText_1 R L v3 _ l _ i _ _ k)
    have ht := hb.t _ (getD_mem (d := ([], ())) hlt)
    have htl := ht.l
    have ih := bt_1 l hb i hlt v3 h3 n (k + 1) (by omega) (by omega)
    rw [hq, lt_t hlk, nn, tn, blt_t hlk, wrap_succ (by omega), p_impl_opText _ (ht.o _ (getD_mem (d := (0, (0, (0, ())))) hlk))]
    simp only [cond_true, Option.bind_some]
    rw [lenOK_t (by simp only [List.length_map, List.length_take, List.length_cons, List.length_nil]; omega)]
    rw [take_snoc (d := (0, (0, (0, ())))) hlk, List.map_append] at ih
    exact ih
theorem bt_0 (l : List D_Txn) (hb : BatB l) : ∀ (n i : Nat), l.length - i = n → i ≤ l.length → lp_impl_batchText_0 R L ((l.take i).map txnText) l (l.length : Nat) i = some (batText l, ())
  | 0, i, hn, hi => by
    have hq : lp_impl_batchText_0 R L ((l.take i).map txnText) l (l.length : Nat) i = _ := round (by kernel_rfl) (q_impl_batchText_0 R L _ l _ i)
    have hlb := hb.l
    have hg := glue_len (sep := ([32] ++ (124 : UInt8) :: [32])) (B := 300) (xs := l.map txnText) (fun x hx => by
      obtain ⟨t, ht, rfl⟩ := List.mem_map.1 hx
      exact txnText_len (hb.t t ht))
    rw [List.length_map] at hg
    have h2 : l.length * (300 + ([32] ++ (124 : UInt8) :: [32]).length) ≤ 2 * 303 := Nat.mul_le_mul (by omega) (by simp)
    rw [hq, lt_f (by omega), List.take_of_length_le (by omega), p_join _ [32, 124, 32] (by rw [List.length_map]; omega) (Nat.le_trans hg (by omega))]
    rfl
  | n + 1, i, hn, hi => by
    have hlt : i < l.length := by omega
    have hq : lp_impl_batchText_0 R L ((l.take i).map txnText) l (l.length : Nat) i = _ := round (by kernel_rfl) (q_impl_batchText_0 R L _ l _ i)
    have e := bt_1 l hb i hlt ((l.take i).map txnText) (by simp; omega) _ 0 rfl (Nat.zero_le _)
    have ih := bt_0 l hb n (i + 1) (by omega) (by omega)
    rw [take_snoc (d := ([], ())) hlt, List.map_append] at ih
    rw [hq, lt_t hlt, nn, tn, blt_t hlt]
    exact e.trans ih
theorem p_impl_batchText (l : List D_Txn) (hb : BatB l) : c_impl_batchText R l = some (batText l, ()) := by
  have hq : c_impl_batchText R l = _ := call (q_impl_batchText R L l)
  rw [hq]
  exact bt_0 l hb _ 0 rfl (Nat.zero_le _)

/-! lines of a world -/
def lineE (e : D_Entry) : List UInt8 := [107, 101, 121, 32] ++ digI e.1 ++ [32, 118, 97, 108, 117, 101, 32] ++ digI e.2.1
def lineQ (l : List D_Txn) : List UInt8 := [119, 97, 105, 116, 115, 32] ++ batText l
def lineG (b : Bool) : List UInt8 := [97, 103, 114, 101, 101, 32] ++ cond b [121, 101, 115] [110, 111]
def linesW (w : D_World) : List (List UInt8) := w.2.2.1.map lineE ++ w.2.2.2.1.map lineQ ++ [lineG w.2.2.2.2.2.1]
structure WldB (w : D_World) : Prop where
  ml : w.2.2.1.length ≤ 11
  m : ∀ e ∈ w.2.2.1, (1 ≤ e.1 ∧ e.1 ≤ 9999) ∧ (0 ≤ e.2.1 ∧ e.2.1 ≤ 999999)
  ql : w.2.2.2.1.length ≤ 4
  q : ∀ l ∈ w.2.2.2.1, BatB l
theorem batText_len {l : List D_Txn} (hb : BatB l) : (batText l).length ≤ 606 := by
  have hg := glue_len (sep := ([32] ++ (124 : UInt8) :: [32])) (B := 300) (xs := l.map txnText) (fun x hx => by
    obtain ⟨t, ht, rfl⟩ := List.mem_map.1 hx
    exact txnText_len (hb.t t ht))
  rw [List.length_map] at hg
  have hlb := hb.l
  have h2 : l.length * (300 + ([32] ++ (124 : UInt8) :: [32]).length) ≤ 2 * 303 := Nat.mul_le_mul (by omega) (by simp)
  exact Nat.le_trans hg h2
theorem sp_1 (w : D_World) (hw : WldB w) (i0 : Int) : ∀ (n i : Nat), w.2.2.2.1.length - i = n → i ≤ w.2.2.2.1.length → lp_spec_l15World_1 R L w w [] (w.2.2.1.map lineE ++ (w.2.2.2.1.take i).map lineQ) i0 i = some (linesW w, ())
  | 0, i, hn, hi => by
    have hq : lp_spec_l15World_1 R L w w [] (w.2.2.1.map lineE ++ (w.2.2.2.1.take i).map lineQ) i0 i = _ := round (by kernel_rfl) (q_spec_l15World_1 R L w w [] _ i0 i)
    have hb : c_spec_l01Bit R w.2.2.2.2.2.1 = _ := call (q_spec_l01Bit R L w.2.2.2.2.2.1)
    have := hw.ml
    have := hw.ql
    rw [hq, hb, lt_f (by omega), List.take_of_length_le (by omega)]
    unfold linesW lineG
    cases w.2.2.2.2.2.1
    · simp only [cond_true, cond_false, Option.bind_some]
      rw [lenOK_t (by decide), lenOK_t (by simp only [List.length_append, List.length_map, List.length_cons, List.length_nil]; omega)]
      rfl
    · simp only [cond_true, cond_false, Option.bind_some]
      rw [lenOK_t (by decide), lenOK_t (by simp only [List.length_append, List.length_map, List.length_cons, List.length_nil]; omega)]
      rfl
  | n + 1, i, hn, hi => by
    have hlt : i < w.2.2.2.1.length := by omega
    have hq : lp_spec_l15World_1 R L w w [] (w.2.2.1.map lineE ++ (w.2.2.2.1.take i).map lineQ) i0 i = _ := round (by kernel_rfl) (q_spec_l15World_1 R L w w [] _ i0 i)
    have := hw.ml
    have := hw.ql
    have hb := hw.q _ (getD_mem (d := []) hlt)
    have hl := batText_len hb
    have ih := sp_1 w hw i0 n (i + 1) (by omega) (by omega)
    rw [hq, lt_t hlt, nn, tn, blt_t hlt, p_spec_l09Text _ hb, wrap_succ (by omega)]
    simp only [cond_true, Option.bind_some]
    rw [lenOK_t (by simp only [List.length_cons, List.length_nil]; omega), lenOK_t (by simp only [List.length_append, List.length_map, List.length_take, List.length_cons, List.length_nil]; omega)]
    rw [take_snoc (d := []) hlt, List.map_append, ← List.append_assoc] at ih
    exact ih
theorem sp_0 (w : D_World) (hw : WldB w) : ∀ (n i : Nat), w.2.2.1.length - i = n → i ≤ w.2.2.1.length → lp_spec_l15World_0 R L w w [] ((w.2.2.1.take i).map lineE) i = some (linesW w, ())
  | 0, i, hn, hi => by
    have hq : lp_spec_l15World_0 R L w w [] ((w.2.2.1.take i).map lineE) i = _ := round (by kernel_rfl) (q_spec_l15World_0 R L w w [] _ i)
    rw [hq, lt_f (by omega), List.take_of_length_le (by omega)]
    have := sp_1 w hw i _ 0 rfl (Nat.zero_le _)
    rw [List.take_zero, List.map_nil, List.append_nil] at this
    exact this
  | n + 1, i, hn, hi => by
    have hlt : i < w.2.2.1.length := by omega
    have hq : lp_spec_l15World_0 R L w w [] ((w.2.2.1.take i).map lineE) i = _ := round (by kernel_rfl) (q_spec_l15World_0 R L w w [] _ i)
    have := hw.ml
    have hb := hw.m _ (getD_mem (d := (0, (0, ()))) hlt)
    have l1 := digI_len (v := (w.2.2.1.getD i (0, (0, ()))).1) (by omega)
    have l2 := digI_len (v := (w.2.2.1.getD i (0, (0, ()))).2.1) (by omega)
    have ih := sp_0 w hw n (i + 1) (by omega) (by omega)
    rw [hq, lt_t hlt, nn, tn, blt_t hlt, p_digits (v := (w.2.2.1.getD i (0, (0, ()))).1) (by omega) (by omega), p_digits (v := (w.2.2.1.getD i (0, (0, ()))).2.1) (by omega) (by omega), wrap_succ (by omega)]
    simp only [cond_true, Option.bind_some]
    rw [lenOK_t (by simp only [List.length_append, List.length_cons, List.length_nil]; omega), lenOK_t (by simp only [List.length_append, List.length_cons, List.length_nil]; omega), lenOK_t (by simp only [List.length_append, List.length_cons, List.length_nil]; omega), lenOK_t (by simp only [List.length_append, List.length_map, List.length_take, List.length_cons, List.length_nil]; omega)]
    rw [take_snoc (d := (0, (0, ()))) hlt, List.map_append] at ih
    exact ih
theorem p_spec_l15World (w : D_World) (hw : WldB w) : c_spec_l15World R w = some (linesW w, ()) := by
  have hq : c_spec_l15World R w = _ := call (q_spec_l15World R L w)
  rw [hq]
  exact sp_0 w hw _ 0 rfl (Nat.zero_le _)
theorem im_1 (w : D_World) (hw : WldB w) : ∀ (n i : Nat), w.2.2.2.1.length - i = n → i ≤ w.2.2.2.1.length → lp_impl_World_lines_1 R L w (w.2.2.1.map lineE ++ (w.2.2.2.1.take i).map lineQ) w.2.2.2.1 (w.2.2.2.1.length : Nat) i = some (linesW w, ())
  | 0, i, hn, hi => by
    have hq : lp_impl_World_lines_1 R L w (w.2.2.1.map lineE ++ (w.2.2.2.1.take i).map lineQ) w.2.2.2.1 (w.2.2.2.1.length : Nat) i = _ := round (by kernel_rfl) (q_impl_World_lines_1 R L w _ _ _ i)
    have := hw.ml
    have := hw.ql
    rw [hq, lt_f (by omega), List.take_of_length_le (by omega)]
    unfold linesW lineG
    cases w.2.2.2.2.2.1
    · simp only [cond_false]
      rw [lenOK_t (by simp only [List.length_append, List.length_map, List.length_cons, List.length_nil]; omega)]
      rfl
    · simp only [cond_true, cond_false]
      rw [lenOK_t (by simp only [List.length_append, List.length_map, List.length_cons, List.length_nil]; omega)]
      rfl
  | n + 1, i, hn, hi => by
    have hlt : i < w.2.2.2.1.length := by omega
    have hq : lp_impl_World_lines_1 R L w (w.2.2.1.map lineE ++ (w.2.2.2.1.take i).map lineQ) w.2.2.2.1 (w.2.2.2.1.length : Nat) i = _ := round (by kernel_rfl) (q_impl_World_lines_1 R L w _ _ _ i)
    have := hw.ml
    have := hw.ql
    have hb := hw.q _ (getD_mem (d := []) hlt)
    have hl := batText_len hb
    have ih := im_1 w hw n (i + 1) (by omega) (by omega)
    rw [hq, lt_t hlt, nn, tn, blt_t hlt, p_impl_batchText _ hb, wrap_succ (by omega)]
    simp only [cond_true, Option.bind_some]
    rw [lenOK_t (by simp only [List.length_cons, List.length_nil]; omega), lenOK_t (by simp only [List.length_append, List.length_map, List.length_take, List.length_cons, List.length_nil]; omega)]
    rw [take_snoc (d := []) hlt, List.map_append, ← List.append_assoc] at ih
    exact ih
theorem im_0 (w : D_World) (hw : WldB w) : ∀ (n i : Nat), w.2.2.1.length - i = n → i ≤ w.2.2.1.length → lp_impl_World_lines_0 R L w ((w.2.2.1.take i).map lineE) w.2.2.1 (w.2.2.1.length : Nat) i = some (linesW w, ())
  | 0, i, hn, hi => by
    have hq : lp_impl_World_lines_0 R L w ((w.2.2.1.take i).map lineE) w.2.2.1 (w.2.2.1.length : Nat) i = _ := round (by kernel_rfl) (q_impl_World_lines_0 R L w _ _ _ i)
    rw [hq, lt_f (by omega), List.take_of_length_le (by omega)]
    have := im_1 w hw _ 0 rfl (Nat.zero_le _)
    rw [List.take_zero, List.map_nil, List.append_nil] at this
    exact this
  | n + 1, i, hn, hi => by
    have hlt : i < w.2.2.1.length := by omega
    have hq : lp_impl_World_lines_0 R L w ((w.2.2.1.take i).map lineE) w.2.2.1 (w.2.2.1.length : Nat) i = _ := round (by kernel_rfl) (q_impl_World_lines_0 R L w _ _ _ i)
    have := hw.ml
    have hb := hw.m _ (getD_mem (d := (0, (0, ()))) hlt)
    have l1 := digI_len (v := (w.2.2.1.getD i (0, (0, ()))).1) (by omega)
    have l2 := digI_len (v := (w.2.2.1.getD i (0, (0, ()))).2.1) (by omega)
    have ih := im_0 w hw n (i + 1) (by omega) (by omega)
    rw [hq, lt_t hlt, nn, tn, blt_t hlt, p_itoa (v := (w.2.2.1.getD i (0, (0, ()))).1) (by omega) (by omega), p_itoa (v := (w.2.2.1.getD i (0, (0, ()))).2.1) (by omega) (by omega), wrap_succ (by omega)]
    simp only [cond_true, Option.bind_some]
    rw [lenOK_t (by simp only [List.length_append, List.length_cons, List.length_nil]; omega), lenOK_t (by simp only [List.length_append, List.length_cons, List.length_nil]; omega), lenOK_t (by simp only [List.length_append, List.length_cons, List.length_nil]; omega), lenOK_t (by simp only [List.length_append, List.length_map, List.length_take, List.length_cons, List.length_nil]; omega)]
    rw [take_snoc (d := (0, (0, ()))) hlt, List.map_append] at ih
    exact ih
theorem p_impl_lines (w : D_World) (hw : WldB w) : c_impl_World_lines R w = some (linesW w, ()) := by
  have hq : c_impl_World_lines R w = _ := call (q_impl_World_lines R L w)
  rw [hq]
  exact im_0 w hw _ 0 rfl (Nat.zero_le _)
end Go.Rf.S
