import Derived.Test.YtkiejckaaipdkaaMba7
set_option linter.unusedVariables false
set_option linter.unusedSimpArgs false
namespace Go.Rf.S
set_option maxRecDepth 100000
set_option linter.unusedVariables false
set_option linter.unusedSimpArgs false

theorem ble_t {a b : Nat} (h : a ≤ b) : Nat.ble a b = true := by rw [Nat.ble_eq]; exact h
theorem blt_f {a b : Nat} (h : b ≤ a) : Nat.blt a b = false := by
  cases e : Nat.blt a b with
  | false => rfl
  | true => rw [Nat.blt_eq] at e; omega

/-! put -/
def putM (m : List D_Entry) (key v : Int) : List D_Entry := m.take (lo key m) ++ (key, (v, ())) :: m.drop (cond (fnd key m) (lo key m + 1) (lo key m))
theorem putM_len {m : List D_Entry} {key v : Int} : (putM m key v).length ≤ m.length + 1 := by
  unfold putM
  have := lo_le (key := key) (m := m)
  cases fnd key m <;> simp <;> omega
theorem put_loop (m : List D_Entry) (key v : Int) (hm : MI m) : ∀ (n : Nat) (v6 : List D_Entry) (i : Nat), lo key m - i = n → i ≤ lo key m → lp_spec_l10Put_0 R L m key v v6 i = some (putM m key v, ())
  | 0, v6, i, hn, hi => by
    have hlen := hm.len
    have hll := lo_le (key := key) (m := m)
    have e : i = lo key m := by omega
    have hq : lp_spec_l10Put_0 R L m key v v6 i = _ := round (by kernel_rfl) (q_spec_l10Put_0 R L m key v v6 i)
    subst e
    rw [hq]
    by_cases hlt : lo key m < m.length
    · have hge := lo_at (key := key) hlt
      rw [lt_t hlt, nn, tn, blt_t hlt, decide_eq_false (p := (m.getD (lo key m) (0, (0, ()))).1 < key) (Int.not_lt.2 hge), ble_t (Nat.le_refl m.length), ble_t hll, wrap_succ (by omega), nn, tn, ble_t (show lo key m + 1 ≤ m.length by omega), eqI_iff]
      simp only [cond_true, cond_false]
      rw [lenOK_t (by simp; omega), lenOK_t (by simp; omega), lenOK_t (by simp; omega), lenOK_t (by simp; omega)]
      simp only [cond_true]
      unfold putM fnd
      rw [decide_eq_true hlt, Bool.true_and]
      by_cases he : (m.getD (lo key m) E0).1 = key
      · rw [decide_eq_true he]; simp
      · rw [decide_eq_false he]; simp
    · have hl2 : lo key m = m.length := by omega
      rw [lt_f (by omega), nn, tn, ble_t (Nat.le_refl m.length), ble_t hll]
      simp only [cond_true, cond_false]
      rw [lenOK_t (by simp; omega), lenOK_t (by simp; omega), lenOK_t (by simp; omega)]
      simp only [cond_true]
      unfold putM fnd
      rw [decide_eq_false hlt]; simp
  | n + 1, v6, i, hn, hi => by
    have hlen := hm.len
    have hll := lo_le (key := key) (m := m)
    have hlt : i < m.length := by omega
    have hq : lp_spec_l10Put_0 R L m key v v6 i = _ := round (by kernel_rfl) (q_spec_l10Put_0 R L m key v v6 i)
    rw [hq, lt_t hlt, nn, tn, blt_t hlt, decide_eq_true (p := (m.getD i (0, (0, ()))).1 < key) (lo_lt (key := key) (by omega)), wrap_succ (by omega)]
    exact put_loop m key v hm n v6 (i + 1) (by omega) (by omega)
theorem p_spec_l10Put (m : List D_Entry) (key v : Int) (hm : MI m) : c_spec_l10Put R m key v = some (putM m key v, ()) := by
  have hq : c_spec_l10Put R m key v = _ := call (q_spec_l10Put R L m key v)
  rw [hq]
  exact put_loop m key v hm _ _ 0 rfl (Nat.zero_le _)
theorem p_clone (m : List D_Entry) (hl : m.length ≤ 1099511627776) : c_slices_Clone___impl_Entry_impl_Entry_ R m = some (m, ()) := by
  have hq : c_slices_Clone___impl_Entry_impl_Entry_ R m = _ := call (q_slices_Clone___impl_Entry_impl_Entry_ R L m)
  rw [hq]
  cases m with
  | nil => exact agree_self _
  | cons e es =>
    rw [lenOK_t (by simpa using hl)]; rfl
theorem p_insert (m : List D_Entry) (i : Nat) (e : D_Entry) (hi : i ≤ m.length) (hl : m.length ≤ 1000) : c_slices_Insert___impl_Entry_impl_Entry_ R m i [e] = some (m.take i ++ e :: m.drop i, ()) := by
  refine (run_x (f := 71) (h := insH T_Entry) rfl _).trans ?_
  show cond (decide ((0 : Int) ≤ (i : Int)) && (decide ((i : Int) ≤ (m.length : Int)) && (Nat.blt 0 1 && Nat.ble (m.length + 1) 1099511627776))) (some ((m.take (i : Int).toNat ++ [e] ++ m.drop (i : Int).toNat : List D_Entry), ())) none = _
  rw [decide_eq_true (by omega), decide_eq_true (by omega), blt_t (by omega), ble_t (by omega), tn]
  simp
theorem p_delete (m : List D_Entry) (i : Nat) (hi : i < m.length) : c_slices_Delete___impl_Entry_impl_Entry_ R m i ((i + 1 : Nat) : Int) = some (m.take i ++ m.drop (i + 1), ()) := by
  refine (run_x (f := 64) (h := delH T_Entry) rfl _).trans ?_
  show cond (decide ((0 : Int) ≤ (i : Int)) && (decide ((i : Int) < ((i + 1 : Nat) : Int)) && decide (((i + 1 : Nat) : Int) ≤ (m.length : Int)))) (some ((m.take (i : Int).toNat ++ m.drop ((i + 1 : Nat) : Int).toNat : List D_Entry), ())) none = _
  rw [decide_eq_true (by omega), decide_eq_true (by omega), decide_eq_true (by omega), tn, tn]; rfl
def fullM (m : List D_Entry) (key : Int) : Bool := !fnd key m && decide (m.length = 11)
theorem p_impl_put (m : List D_Entry) (key v : Int) (hm : MI m) (hk : 1 ≤ key ∧ key ≤ 9999) : c_impl_put R m key v = some (cond (fullM m key) (m, (false, ())) (putM m key v, (true, ()))) := by
  have hlen := hm.len
  have hll := lo_le (key := key) (m := m)
  have hq : c_impl_put R m key v = _ := call (q_impl_put R L m key v)
  rw [hq, p_impl_find m key hm hk]
  simp only [Option.bind_some]
  rw [p_clone m (by omega)]
  simp only [Option.bind_some, nn, tn]
  unfold fullM putM
  cases hf : fnd key m with
  | true =>
    obtain ⟨h1, h2⟩ := fnd_t hf
    rw [blt_t h1]
    simp only [cond_true, Bool.not_true, Bool.false_and, cond_false]
    rw [show m.set (lo key m) ((m.getD (lo key m) (0, (0, ()))).1, (v, (m.getD (lo key m) (0, (0, ()))).2.2)) = m.take (lo key m) ++ (key, (v, ())) :: m.drop (lo key m + 1) by
      rw [List.set_eq_take_append_cons_drop, if_pos h1]
      congr 2
      exact Prod.ext h2 rfl]
  | false =>
    simp only [cond_false, Bool.not_false, Bool.true_and, eqI_iff]
    by_cases h : m.length = 11
    · rw [decide_eq_true (p := (m.length : Int) = 11) (by omega), decide_eq_true h]; rfl
    · rw [decide_eq_false (p := (m.length : Int) = 11) (by omega), decide_eq_false h]
      simp only [cond_false]
      rw [p_insert m _ _ hll (by omega)]; rfl

/-! scan -/
def scanF : List D_Entry → Nat → List Int
  | _, 0 => []
  | [], n + 1 => 0 :: 0 :: scanF [] n
  | e :: es, n + 1 => e.1 :: e.2.1 :: scanF es n
theorem scanF_len : ∀ {m : List D_Entry} {n : Nat}, (scanF m n).length = 2 * n
  | _, 0 => rfl
  | [], n + 1 => by simp only [scanF, List.length_cons, scanF_len]; omega
  | e :: es, n + 1 => by simp only [scanF, List.length_cons, scanF_len]; omega
theorem scan_impl (m : List D_Entry) (key : Int) (hl : m.length ≤ 11) : ∀ (n : Nat) (v6 : List Int) (i : Nat) (out : List Int), n ≤ 1000 → i + n ≤ 2000 → out.length + 2 * n ≤ 100000 →
    lp_impl_scan_0 R L m key n v6 i out = some (out ++ scanF (m.drop i) n, ())
  | 0, v6, i, out, hn, hi, ho => by
    have hq : lp_impl_scan_0 R L m key (0 : Nat) v6 i out = _ := round (by kernel_rfl) (q_impl_scan_0 R L m key (0 : Nat) v6 i out)
    rw [hq]
    show some (out, ()) = _
    unfold scanF; rw [List.append_nil]
  | n + 1, v6, i, out, hn, hi, ho => by
    have hq : lp_impl_scan_0 R L m key (n + 1 : Nat) v6 i out = _ := round (by kernel_rfl) (q_impl_scan_0 R L m key (n + 1 : Nat) v6 i out)
    rw [hq, decide_eq_true (p := (0 : Int) < ((n + 1 : Nat) : Int)) (by omega), show (((n + 1 : Nat) : Int) - 1) = (n : Int) by omega, wrap_id (n := (n : Int)) (by omega) (by omega), wrap_succ (by omega)]
    simp only [cond_true]
    by_cases hlt : i < m.length
    · rw [lt_t hlt, nn, tn, blt_t hlt, lenOK_t (by simp; omega)]
      simp only [cond_true]
      rw [scan_impl m key hl n v6 (i + 1) _ (by omega) (by omega) (by simp; omega), drop_getD (d := E0) hlt, List.append_assoc]; rfl
    · rw [lt_f (by omega)]
      simp only [cond_false]
      rw [lenOK_t (by simp; omega)]
      simp only [cond_true]
      rw [scan_impl m key hl n v6 (i + 1) _ (by omega) (by omega) (by simp; omega), List.drop_eq_nil_of_le (by omega), List.drop_eq_nil_of_le (by omega), List.append_assoc]; rfl
theorem p_impl_scan (m : List D_Entry) (key : Int) (n : Nat) (hm : MI m) (hk : 1 ≤ key ∧ key ≤ 9999) (hn : n ≤ 100) : c_impl_scan R m key n = some (scanF (m.drop (lo key m)) n, ()) := by
  have hq : c_impl_scan R m key n = _ := call (q_impl_scan R L m key n)
  have hll := lo_le (key := key) (m := m)
  have hlen := hm.len
  rw [hq, p_impl_find m key hm hk]
  simp only [Option.bind_some]
  rw [scan_impl m key hm.len n [] (lo key m) [] (by omega) (by omega) (by simp; omega)]; rfl
theorem pad_spec (m : List D_Entry) (o : D_Op) (b : Nat) (ho : o.2.2.1 = b) (hb : b ≤ 100) (v1 : D_Op) (v4 : List D_Entry) (v5 : List Int) (v6 v7 v8 v10 v23 : Int) : ∀ (n : Nat) (out : List Int), out.length + n = 2 * b →
    lp_spec_l10Do_1 R L m v1 o v4 v5 v6 v7 v8 out v10 v23 = some (m, (out ++ List.replicate n 0, (0, ())))
  | 0, out, hn => by
    have hq : lp_spec_l10Do_1 R L m v1 o v4 v5 v6 v7 v8 out v10 v23 = _ := round (by kernel_rfl) (q_spec_l10Do_1 R L m v1 o v4 v5 v6 v7 v8 out v10 v23)
    rw [hq, ho, wrap_id (by omega) (by omega), decide_eq_false (by omega)]
    simp
  | n + 1, out, hn => by
    have hq : lp_spec_l10Do_1 R L m v1 o v4 v5 v6 v7 v8 out v10 v23 = _ := round (by kernel_rfl) (q_spec_l10Do_1 R L m v1 o v4 v5 v6 v7 v8 out v10 v23)
    rw [hq, ho, wrap_id (by omega) (by omega), decide_eq_true (by omega), lenOK_t (by simp; omega)]
    simp only [cond_true]
    rw [pad_spec m o b ho hb v1 v4 v5 v6 v7 v8 v10 v23 n (out ++ [0]) (by simp; omega), List.append_assoc]; rfl
theorem scanF_nil : ∀ {n : Nat}, scanF [] n = List.replicate (2 * n) 0
  | 0 => rfl
  | n + 1 => by rw [show 2 * (n + 1) = 2 * n + 1 + 1 by omega, List.replicate_succ, List.replicate_succ, ← scanF_nil]; rfl
theorem scan_spec (m : List D_Entry) (o : D_Op) (b : Nat) (ho : o.2.2.1 = b) (hb : b ≤ 100) (hm : MI m) (v1 : D_Op) (v4 : List D_Entry) (v5 : List Int) (v6 v7 v8 v23 : Int) : ∀ (n i : Nat) (out : List Int) (k : Nat), m.length - i = n → i ≤ m.length → out.length + 2 * k = 2 * b → (i < lo o.2.1 m → out = []) →
    lp_spec_l10Do_0 R L m v1 o v4 v5 v6 v7 v8 out i v23 = some (m, (out ++ scanF (m.drop (max i (lo o.2.1 m))) k, (0, ())))
  | 0, i, out, k, hn, hi, hk, hout => by
    have hll := lo_le (key := o.2.1) (m := m)
    have hq : lp_spec_l10Do_0 R L m v1 o v4 v5 v6 v7 v8 out i v23 = _ := round (by kernel_rfl) (q_spec_l10Do_0 R L m v1 o v4 v5 v6 v7 v8 out i v23)
    rw [hq, lt_f (by omega)]
    simp only [cond_false]
    rw [pad_spec m o b ho hb v1 v4 v5 v6 v7 v8 i v23 (2 * k) out hk, List.drop_eq_nil_of_le (by omega), scanF_nil]
  | n + 1, i, out, k, hn, hi, hk, hout => by
    have hll := lo_le (key := o.2.1) (m := m)
    have hlt : i < m.length := by omega
    have hlen := hm.len
    have hq : lp_spec_l10Do_0 R L m v1 o v4 v5 v6 v7 v8 out i v23 = _ := round (by kernel_rfl) (q_spec_l10Do_0 R L m v1 o v4 v5 v6 v7 v8 out i v23)
    rw [hq, lt_t hlt, ho, wrap_id (n := 2 * (b : Int)) (by omega) (by omega), nn, tn, blt_t hlt, wrap_succ (by omega)]
    simp only [cond_true]
    cases k with
    | zero =>
      rw [decide_eq_false (by omega)]
      simp only [cond_false]
      rw [pad_spec m o b ho hb v1 v4 v5 v6 v7 v8 i v23 0 out (by omega)]
      simp [scanF]
    | succ k =>
      rw [decide_eq_true (p := (out.length : Int) < 2 * (b : Int)) (by omega)]
      simp only [cond_true]
      by_cases hlo : i < lo o.2.1 m
      · have := lo_lt (key := o.2.1) hlo
        rw [decide_eq_false (p := o.2.1 ≤ (m.getD i (0, (0, ()))).1) (Int.not_le.2 this)]
        simp only [cond_false]
        rw [scan_spec m o b ho hb hm v1 v4 v5 v6 v7 v8 v23 n (i + 1) out (k + 1) (by omega) (by omega) hk (fun _ => hout hlo), show max (i + 1) (lo o.2.1 m) = max i (lo o.2.1 m) by omega]
      · have := lo_ge (key := o.2.1) hm.srt (Nat.not_lt.1 hlo) hlt
        rw [decide_eq_true (p := o.2.1 ≤ (m.getD i (0, (0, ()))).1) this, lenOK_t (by simp; omega)]
        simp only [cond_true]
        rw [scan_spec m o b ho hb hm v1 v4 v5 v6 v7 v8 v23 n (i + 1) _ k (by omega) (by omega) (by simp; omega) (fun h => absurd h (by omega)), show max (i + 1) (lo o.2.1 m) = i + 1 by omega, show max i (lo o.2.1 m) = i by omega, drop_getD (d := E0) hlt, List.append_assoc]; rfl
end Go.Rf.S
