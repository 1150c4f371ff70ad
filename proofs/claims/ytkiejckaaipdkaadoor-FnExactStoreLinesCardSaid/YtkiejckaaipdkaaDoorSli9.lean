import Derived.Test.YtkiejckaaipdkaaDoorSli8
set_option linter.unusedVariables false
set_option linter.unusedSimpArgs false
namespace Go.Rf.S
set_option maxRecDepth 100000
set_option linter.unusedVariables false
set_option linter.unusedSimpArgs false

/-! hex -/
def hexT : List UInt8 := [48, 49, 50, 51, 52, 53, 54, 55, 56, 57, 97, 98, 99, 100, 101, 102]
def hexA (c : Int) : Int := Int.fdiv c ((2 : Int) ^ (Min.min (Int.toNat (4 : Int)) (Go.IntKind.bits .u8)))
def hexB (c : Int) : Int := bitI .and .u8 c 15
def hexP (c : UInt8) : List Int := [((hexT.getD (hexA (c.toNat : Int)).toNat 0).toNat : Int), ((hexT.getD (hexB (c.toNat : Int)).toNat 0).toNat : Int)]
theorem hex_in : ∀ n : Fin 256, nonneg (hexA (n.val : Int)) = true ∧ Nat.blt (hexA (n.val : Int)).toNat 16 = true ∧ Nat.blt (hexB (n.val : Int)).toNat 16 = true := by decide +kernel
theorem hex_ok (c : UInt8) : nonneg (hexA (c.toNat : Int)) = true ∧ Nat.blt (hexA (c.toNat : Int)).toNat 16 = true ∧ Nat.blt (hexB (c.toNat : Int)).toNat 16 = true := hex_in ⟨c.toNat, c.toNat_lt⟩
def hexI (t : List UInt8) : List Int := (t.map hexP).flatten
def hexO (t : List UInt8) : List UInt8 := (hexI t).map fun n => UInt8.ofNat n.toNat
theorem hexI_len (t : List UInt8) : (hexI t).length = 2 * t.length := by
  unfold hexI
  induction t with
  | nil => rfl
  | cons c t ih => simp only [List.map_cons, List.flatten_cons, List.length_append, ih, hexP, List.length_cons, List.length_nil]; omega
theorem hexO_len (t : List UInt8) : (hexO t).length = 2 * t.length := by unfold hexO; rw [List.length_map, hexI_len]
theorem hexS_loop (t v2 : List UInt8) (ht : t.length ≤ 1000000) : ∀ (n i : Nat) (v3 : List Int), t.length - i = n → i ≤ t.length → v3.length = 2 * i → lp_spec_l01Hex_0 R L t v2 v3 i = some ((v3 ++ hexI (t.drop i)).map fun n => UInt8.ofNat n.toNat, ())
  | 0, i, v3, hn, hi, hv => by
    have hq : lp_spec_l01Hex_0 R L t v2 v3 i = _ := round (by kernel_rfl) (q_spec_l01Hex_0 R L t v2 v3 i)
    rw [hq, lt_f (by omega), List.drop_eq_nil_of_le (by omega)]
    show some (_, ()) = some ((v3 ++ []).map _, ())
    rw [List.append_nil]
  | n + 1, i, v3, hn, hi, hv => by
    have hlt : i < t.length := by omega
    have hq : lp_spec_l01Hex_0 R L t v2 v3 i = _ := round (by kernel_rfl) (q_spec_l01Hex_0 R L t v2 v3 i)
    obtain ⟨k1, k2, k3⟩ := hex_ok (t.getD i 0)
    have k1 : nonneg (Int.fdiv (((t.getD i 0).toNat : Nat) : Int) ((2 : Int) ^ (Min.min (Int.toNat (4 : Int)) (Go.IntKind.bits .u8)))) = true := k1
    have k2 : Nat.blt (Int.toNat (Int.fdiv (((t.getD i 0).toNat : Nat) : Int) ((2 : Int) ^ (Min.min (Int.toNat (4 : Int)) (Go.IntKind.bits .u8))))) 16 = true := k2
    have k3 : Nat.blt (Int.toNat (bitI .and .u8 (((t.getD i 0).toNat : Nat) : Int) 15)) 16 = true := k3
    have hr := hexS_loop t v2 ht n (i + 1) (v3 ++ hexP (t.getD i 0)) (by omega) (by omega) (by rw [List.length_append, hv]; rfl)
    rw [hq, lt_t hlt, nn, tn, blt_t hlt, k1]
    simp only [cond_true]
    refine Eq.trans (congrArg (fun z => cond z _ _) k2) ?_
    simp only [cond_true]
    refine Eq.trans (congrArg (fun z => cond z _ _) k3) ?_
    simp only [cond_true]
    refine Eq.trans (congrArg (fun z => cond z _ _) (lenOK_t (by simp only [List.length_cons, List.length_nil]; omega))) ?_
    simp only [cond_true]
    show lp_spec_l01Hex_0 R L t v2 (v3 ++ hexP (t.getD i 0)) _ = _
    rw [wrap_succ (by omega), hr, drop_getD (d := 0) hlt]
    show some ((_ : List Int).map _, ()) = some ((v3 ++ (hexP (t.getD i 0) ++ hexI (t.drop (i + 1)))).map _, ())
    rw [List.append_assoc]
theorem p_spec_l01Hex (t : List UInt8) (ht : t.length ≤ 1000000) : c_spec_l01Hex R t = some (hexO t, ()) := by
  have hq : c_spec_l01Hex R t = _ := call (q_spec_l01Hex R L t)
  rw [hq]
  exact hexS_loop t [] ht _ 0 [] rfl (Nat.zero_le _) rfl
theorem hexM_loop (t t0 v2 : List UInt8) (ht : t.length ≤ 1000000) : ∀ (n i : Nat) (v3 : List Int) (v5 : Int), t.length - i = n → i ≤ t.length → v3.length = 2 * i → lp_impl_hexOf_1 R L t0 v2 v3 v5 (t.map fun b : UInt8 => (b.toNat : Int)) t.length i = some ((v3 ++ hexI (t.drop i)).map fun n => UInt8.ofNat n.toNat, ())
  | 0, i, v3, v5, hn, hi, hv => by
    have hq : lp_impl_hexOf_1 R L t0 v2 v3 v5 (t.map fun b : UInt8 => (b.toNat : Int)) t.length i = _ := round (by kernel_rfl) (q_impl_hexOf_1 R L t0 v2 v3 v5 (t.map fun b : UInt8 => (b.toNat : Int)) t.length i)
    rw [hq, lt_f (by omega), List.drop_eq_nil_of_le (by omega)]
    show some (_, ()) = some ((v3 ++ []).map _, ())
    rw [List.append_nil]
  | n + 1, i, v3, v5, hn, hi, hv => by
    have hlt : i < t.length := by omega
    have hq : lp_impl_hexOf_1 R L t0 v2 v3 v5 (t.map fun b : UInt8 => (b.toNat : Int)) t.length i = _ := round (by kernel_rfl) (q_impl_hexOf_1 R L t0 v2 v3 v5 (t.map fun b : UInt8 => (b.toNat : Int)) t.length i)
    have hg : (t.map fun b : UInt8 => (b.toNat : Int)).getD i 0 = ((t.getD i 0).toNat : Int) := by
      rw [List.getD_eq_getElem?_getD, List.getD_eq_getElem?_getD, List.getElem?_map, List.getElem?_eq_getElem hlt]; rfl
    obtain ⟨k1, k2, k3⟩ := hex_ok (t.getD i 0)
    have k1 : nonneg (Int.fdiv (((t.getD i 0).toNat : Nat) : Int) ((2 : Int) ^ (Min.min (Int.toNat (4 : Int)) (Go.IntKind.bits .u8)))) = true := k1
    have hr := hexM_loop t t0 v2 ht n (i + 1) (v3 ++ hexP (t.getD i 0)) ((t.getD i 0).toNat : Int) (by omega) (by omega) (by rw [List.length_append, hv]; rfl)
    rw [hq, lt_t hlt, nn, tn, blt_t (n := (t.map fun b : UInt8 => (b.toNat : Int)).length) (by rw [List.length_map]; exact hlt), hg, k1]
    simp only [cond_true]
    refine Eq.trans (congrArg (fun z => cond z _ _) k2) ?_
    simp only [cond_true]
    refine Eq.trans (congrArg (fun z => cond z _ _) k3) ?_
    simp only [cond_true]
    refine Eq.trans (congrArg (fun z => cond z _ _) (lenOK_t (by simp only [List.length_cons, List.length_nil]; omega))) ?_
    simp only [cond_true]
    show lp_impl_hexOf_1 R L t0 v2 (v3 ++ hexP (t.getD i 0)) _ _ _ _ = _
    rw [wrap_succ (by omega), hr, drop_getD (d := 0) hlt]
    show some ((_ : List Int).map _, ()) = some ((v3 ++ (hexP (t.getD i 0) ++ hexI (t.drop (i + 1)))).map _, ())
    rw [List.append_assoc]
theorem p_impl_hexOf (t : List UInt8) (ht : t.length ≤ 1000000) : c_impl_hexOf R t = some (hexO t, ()) := by
  have hq : c_impl_hexOf R t = _ := call (q_impl_hexOf R L t)
  have hq0 : lp_impl_hexOf_0 R L t [] [] (t.map fun b : UInt8 => (b.toNat : Int)) t.length 0 = _ := round (by kernel_rfl) (q_impl_hexOf_0 R L t [] [] (t.map fun b : UInt8 => (b.toNat : Int)) t.length 0)
  have hq1 : lp_impl_hexOf_1 R L t [] [] 0 (t.map fun b : UInt8 => (b.toNat : Int)) t.length 0 = _ := round (by kernel_rfl) (q_impl_hexOf_1 R L t [] [] 0 (t.map fun b : UInt8 => (b.toNat : Int)) t.length 0)
  rw [hq, List.length_map, hq0.trans hq1.symm]
  exact hexM_loop t t [] ht _ 0 [] 0 rfl (Nat.zero_le _) rfl
end Go.Rf.S
