import Derived.Test.YtkiejckaaipdkaaDoorSli9
set_option linter.unusedVariables false
set_option linter.unusedSimpArgs false
namespace Go.Rf.S
set_option maxRecDepth 100000
set_option linter.unusedVariables false
set_option linter.unusedSimpArgs false

theorem ble_t {a b : Nat} (h : a ≤ b) : Nat.ble a b = true := by rw [Nat.ble_eq]; exact h
structure RegB (x : D_Register) : Prop where
  e : 0 ≤ x.1 ∧ x.1 ≤ 1000000
  s : 0 ≤ x.2.1 ∧ x.2.1 ≤ 1
  c : x.1 ≤ x.2.2.1 ∧ x.2.2.1 ≤ 1000000
  tip : x.2.2.2.2.2.1.length = 32
  root : x.2.2.2.2.2.2.1.length = 32
theorem regB {x : D_Register} (h : regOK x = true) : RegB x := by
  unfold regOK is32 at h
  simp only [Bool.and_eq_true, decide_eq_true_eq] at h
  obtain ⟨h1, h2, h3, h4, h5, h6, h7, _⟩ := h
  have h1 := inB_bounds h1
  have h2 := inB_bounds h2
  have h4 := inB_bounds h4
  exact ⟨h1, h2, by omega, h6, h7⟩
theorem dig_dec : ∀ (n : Nat), Go.Lib.decDigits n = dig n := fun n => by
  induction n using Nat.strongRecOn with
  | _ n ih =>
    rw [Go.Lib.decDigits, dig]
    by_cases h : n < 10
    · rw [dif_pos h, if_pos h]
    · rw [dif_neg h, if_neg h, ih (n / 10) (by omega)]
theorem p_itoa {v : Int} (h0 : 0 ≤ v) (h1 : v < 1000000000000000000) : c_strconv_Itoa R v = some (digI v, ()) := by
  refine (run_x (f := 36) (h := itoaH) rfl _).trans ?_
  show cond (decide (-9223372036854775808 ≤ v) && decide (v ≤ 9223372036854775807)) (some (Go.Lib.itoa v, ())) none = _
  rw [decide_eq_true (by omega), decide_eq_true (by omega)]
  unfold Go.Lib.itoa digI
  rw [if_neg (by omega), dig_dec]; rfl
theorem p_join (xs : List (List UInt8)) (sep : List UInt8) (h1 : xs.length ≤ 1099511627776) (h2 : (Go.Lib.join xs sep).length ≤ 1099511627776) : c_strings_Join R xs sep = some (Go.Lib.join xs sep, ()) := by
  refine (run_x (f := 38) (h := joinH) rfl _).trans ?_
  show cond (Nat.ble xs.length 1099511627776 && Nat.ble (Go.Lib.join xs sep).length 1099511627776) (some (Go.Lib.join xs sep, ())) none = _
  rw [ble_t h1, ble_t h2]; rfl
def stW (x : D_Store) : List UInt8 := cond x.2.2.2.2.1 [100, 101, 97, 100] (cond x.2.2.2.1 [117, 112] [100, 111, 119, 110])
def lineA (x : D_Store) : List UInt8 := stW x ++ [32, 101, 112, 111, 99, 104, 32] ++ digI x.2.1.1 ++ [32, 115, 105, 100, 101, 32] ++ digI x.2.1.2.1 ++ [32, 119, 97, 105, 116, 105, 110, 103, 32] ++ digI (x.2.1.2.2.1 - x.2.1.1)
def linesS (x : D_Store) : List (List UInt8) := [lineA x, [114, 111, 111, 116, 32] ++ hexO (x.2.1.2.2.2.2.2.2.1.take 4), [116, 105, 112, 32] ++ hexO (x.2.1.2.2.2.2.2.1.take 4)]
theorem p_spec_l15Store (x : D_Store) (h : RegB x.2.1) : c_spec_l15Store R x = some (linesS x, ()) := by
  have hq : c_spec_l15Store R x = _ := call (q_spec_l15Store R L x)
  have he := h.e
  have hs := h.s
  have hc := h.c
  have d1 := p_digits (v := x.2.1.1) (by omega) (by omega)
  have d2 := p_digits (v := x.2.1.2.1) (by omega) (by omega)
  have d3 := p_digits (v := x.2.1.2.2.1 - x.2.1.1) (by omega) (by omega)
  have l1 := digI_len (v := x.2.1.1) (by omega)
  have l2 := digI_len (v := x.2.1.2.1) (by omega)
  have l3 := digI_len (v := x.2.1.2.2.1 - x.2.1.1) (by omega)
  have x1 := p_spec_l01Hex (x.2.1.2.2.2.2.2.2.1.take 4) (by rw [List.length_take]; omega)
  have x2 := p_spec_l01Hex (x.2.1.2.2.2.2.2.1.take 4) (by rw [List.length_take]; omega)
  have y1 := hexO_len (x.2.1.2.2.2.2.2.2.1.take 4)
  have y2 := hexO_len (x.2.1.2.2.2.2.2.1.take 4)
  rw [List.length_take] at y1 y2
  have hr := h.root
  have ht := h.tip
  have t4 : Int.toNat (4 : Int) = 4 := rfl
  rw [hq, wrap_id (n := x.2.1.2.2.1 - x.2.1.1) (by omega) (by omega)]
  simp only [d1, d2, d3, Option.bind_some, t4, List.drop_zero, x1, x2]
  rw [ble_t (show 4 ≤ x.2.1.2.2.2.2.2.2.1.length by omega), ble_t (show 4 ≤ x.2.1.2.2.2.2.2.1.length by omega)]
  unfold linesS lineA stW
  cases x.2.2.2.2.1 <;> cases x.2.2.2.1 <;> (simp only [cond_true, cond_false]; repeat (rw [lenOK_t (by simp only [List.length_append, List.length_cons, List.length_nil]; omega)]; simp only [cond_true]))
theorem p_impl_lines (x : D_Store) (h : RegB x.2.1) : c_impl_Store_lines R x = some (linesS x, ()) := by
  have hq : c_impl_Store_lines R x = _ := call (q_impl_Store_lines R L x)
  have hw : c_impl_Store_stateWord R x = some (stW x, ()) := by
    have hq : c_impl_Store_stateWord R x = _ := call (q_impl_Store_stateWord R L x)
    rw [hq]; unfold stW
    cases x.2.2.2.2.1 <;> cases x.2.2.2.1 <;> rfl
  have he := h.e
  have hs := h.s
  have hc := h.c
  have hv : c_impl_Register_waiting R x.2.1 = some (x.2.1.2.2.1 - x.2.1.1, ()) := by
    have hq : c_impl_Register_waiting R x.2.1 = _ := call (q_impl_Register_waiting R L x.2.1)
    rw [hq, wrap_id (by omega) (by omega)]
  have d1 := p_itoa (v := x.2.1.1) (by omega) (by omega)
  have d2 := p_itoa (v := x.2.1.2.1) (by omega) (by omega)
  have d3 := p_itoa (v := x.2.1.2.2.1 - x.2.1.1) (by omega) (by omega)
  have l1 := digI_len (v := x.2.1.1) (by omega)
  have l2 := digI_len (v := x.2.1.2.1) (by omega)
  have l3 := digI_len (v := x.2.1.2.2.1 - x.2.1.1) (by omega)
  have x1 := p_impl_hexOf (x.2.1.2.2.2.2.2.2.1.take 4) (by rw [List.length_take]; omega)
  have x2 := p_impl_hexOf (x.2.1.2.2.2.2.2.1.take 4) (by rw [List.length_take]; omega)
  have y1 := hexO_len (x.2.1.2.2.2.2.2.2.1.take 4)
  have y2 := hexO_len (x.2.1.2.2.2.2.2.1.take 4)
  rw [List.length_take] at y1 y2
  have hr := h.root
  have ht := h.tip
  have t4 : Int.toNat (4 : Int) = 4 := rfl
  have ls : (stW x).length ≤ 4 := by unfold stW; cases x.2.2.2.2.1 <;> cases x.2.2.2.1 <;> decide
  have hj : Go.Lib.join [stW x, [101, 112, 111, 99, 104], digI x.2.1.1, [115, 105, 100, 101], digI x.2.1.2.1, [119, 97, 105, 116, 105, 110, 103], digI (x.2.1.2.2.1 - x.2.1.1)] [32] = lineA x := by
    unfold lineA Go.Lib.join
    simp [List.intercalate, List.intersperse]
  have jp := p_join [stW x, [101, 112, 111, 99, 104], digI x.2.1.1, [115, 105, 100, 101], digI x.2.1.2.1, [119, 97, 105, 116, 105, 110, 103], digI (x.2.1.2.2.1 - x.2.1.1)] [32] (by simp) (by
    rw [hj]; unfold lineA
    simp only [List.length_append, List.length_cons, List.length_nil]; omega)
  rw [hq]
  simp only [hw, hv, d1, d2, d3, Option.bind_some, t4, List.drop_zero, x1, x2]
  rw [ble_t (show 4 ≤ x.2.1.2.2.2.2.2.2.1.length by omega), ble_t (show 4 ≤ x.2.1.2.2.2.2.2.1.length by omega)]
  simp only [cond_true]
  rw [lenOK_t (by simp only [List.length_cons, List.length_nil]; omega), lenOK_t (by simp only [List.length_cons, List.length_nil]; omega), jp, hj]
  rfl
end Go.Rf.S
