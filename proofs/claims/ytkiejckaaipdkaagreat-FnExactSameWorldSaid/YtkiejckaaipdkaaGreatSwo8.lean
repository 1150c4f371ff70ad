import Derived.Test.YtkiejckaaipdkaaGreatSwo7
set_option linter.unusedVariables false
set_option linter.unusedSimpArgs false
namespace Go.Rf.S
set_option maxRecDepth 100000
set_option linter.unusedVariables false
set_option linter.unusedSimpArgs false

/-! worlds that are alike -/
theorem gen_all2K {α γ : Type} (F : Int → Option (Bool × Unit)) (x : List α) (y : List γ) (d : α) (e : γ) (p : α → γ → Bool) (z : Bool)
    (stop : F (x.length : Nat) = some (z, ())) (step : ∀ (i : Nat), i < x.length → F i = cond (p (x.getD i d) (y.getD i e)) (F ((i + 1 : Nat) : Int)) (some (false, ()))) (hl : x.length = y.length) :
    ∀ (n i : Nat), x.length - i = n → i ≤ x.length → F i = some (all2 p (x.drop i) (y.drop i) && z, ())
  | 0, i, hn, hi => by
    have : i = x.length := by omega
    subst this
    rw [stop, List.drop_eq_nil_of_le (Nat.le_refl _), List.drop_eq_nil_of_le (by omega)]
    rfl
  | n + 1, i, hn, hi => by
    rw [step i (by omega), drop_getD (l := x) (d := d) (by omega), drop_getD (l := y) (d := e) (by omega), gen_all2K F x y d e p z stop step hl n (i + 1) (by omega) (by omega)]
    show _ = some (p (x.getD i d) (y.getD i e) && _ && z, ())
    cases p (x.getD i d) (y.getD i e) <;> simp
theorem eqC_and1 {α : Type} {a b : α × Unit} : eqC a b = eqC a.1 b.1 := by
  rw [← eqC_pair, eqC_unit, Bool.and_true]
theorem eqC_io (a b : D_Io) : (Bool.and (eqI a.1 b.1) (Bool.and (eqS a.2.1 b.2.1) true)) = eqC a b := by
  show (_ && (_ && true)) = _
  rw [eqC_I, eqC_S, Bool.and_true, ← eqC_and1 (a := a.2), eqC_pair]
theorem eqC_ent (a b : D_Entry) : (Bool.and (eqI a.1 b.1) (Bool.and (eqI a.2.1 b.2.1) true)) = eqC a b := by
  show (_ && (_ && true)) = _
  rw [eqC_I, eqC_I, Bool.and_true, ← eqC_and1 (a := a.2), eqC_pair]
theorem and_idem3 (a b : Bool) : (a && (b && (a && b))) = (a && b) := by cases a <;> cases b <;> rfl
theorem p_impl_SameDevice (a b : D_Device) (h1 : a.1.length ≤ 4611686018427387904) (h2 : a.2.1.length ≤ 4611686018427387904) : c_impl_SameDevice R a b = some (eqC a b, ()) := by
  have hq : c_impl_SameDevice R a b = _ := call (q_impl_SameDevice R L a b)
  rw [hq, eqs_slices_Equal___string_string_ _ _ h1, eqs_slices_Equal___impl_Io_impl_Io_ _ _ h2, ← eqC_pair (a := a), eqC_and1 (a := a.2)]
  simp only [Option.bind_some]
  cases eqC a.1 b.1 <;> rfl
theorem p_spec_SameDevice (a b : D_Device) (h1 : a.1.length ≤ 4611686018427387904) (h2 : a.2.1.length ≤ 4611686018427387904) : c_spec_SameDevice R a b = some (eqC a b, ()) := by
  have hq : c_spec_SameDevice R a b = _ := call (q_spec_SameDevice R L a b)
  rw [hq, eqI_len, eqI_len, ← eqC_pair (a := a), eqC_and1 (a := a.2)]
  by_cases e1 : a.1.length = b.1.length
  · rw [decide_eq_true e1]
    by_cases e2 : a.2.1.length = b.2.1.length
    · rw [decide_eq_true e2]
      simp only [Bool.not_true, cond_false]
      have s1 : ∀ v5 : Int, lp_spec_SameDevice_1 R L a b a b false v5 0 = some (eqC a.2.1 b.2.1, ()) := fun v5 => by
        have := gen_all2K (fun i => lp_spec_SameDevice_1 R L a b a b false v5 i) a.2.1 b.2.1 (0, ([], ())) (0, ([], ())) (fun x y => eqC x y) true (by
          have hq : lp_spec_SameDevice_1 R L a b a b false v5 (a.2.1.length : Nat) = _ := round (by kernel_rfl) (q_spec_SameDevice_1 R L a b a b false v5 (a.2.1.length : Nat))
          show lp_spec_SameDevice_1 R L a b a b false v5 (a.2.1.length : Nat) = _
          rw [hq, lt_f (Nat.le_refl _)]; rfl) (fun i hlt => by
          have hq : lp_spec_SameDevice_1 R L a b a b false v5 i = _ := round (by kernel_rfl) (q_spec_SameDevice_1 R L a b a b false v5 i)
          show lp_spec_SameDevice_1 R L a b a b false v5 i = _
          rw [hq, lt_t hlt, nn, tn, blt_t hlt, blt_t (n := b.2.1.length) (by omega), eqC_io, wrap_succ (by omega)]
          simp only [cond_true]
          exact cond_not _) e2 _ 0 rfl (Nat.zero_le _)
        rw [List.drop_zero, List.drop_zero, Bool.and_true, all2_eq (fun _ _ _ _ => rfl)] at this
        exact this
      have := gen_all2K (fun i => lp_spec_SameDevice_0 R L a b a b false i) a.1 b.1 [] [] (fun x y => eqC x y) (eqC a.2.1 b.2.1) (by
        have hq : lp_spec_SameDevice_0 R L a b a b false (a.1.length : Nat) = _ := round (by kernel_rfl) (q_spec_SameDevice_0 R L a b a b false (a.1.length : Nat))
        show lp_spec_SameDevice_0 R L a b a b false (a.1.length : Nat) = _
        rw [hq, lt_f (Nat.le_refl _)]; exact s1 _) (fun i hlt => by
        have hq : lp_spec_SameDevice_0 R L a b a b false i = _ := round (by kernel_rfl) (q_spec_SameDevice_0 R L a b a b false i)
        show lp_spec_SameDevice_0 R L a b a b false i = _
        rw [hq, lt_t hlt, nn, tn, blt_t hlt, blt_t (n := b.1.length) (by omega), eqC_S, wrap_succ (by omega)]
        simp only [cond_true]
        exact cond_not _) e1 _ 0 rfl (Nat.zero_le _)
      rw [List.drop_zero, List.drop_zero, all2_eq (fun _ _ _ _ => rfl)] at this
      exact this
    · rw [decide_eq_false e2, eqC_len e2, Bool.and_false]; rfl
  · rw [decide_eq_false e1, eqC_len e1]; rfl
def sameStore (a b : D_Store) (d : Bool) : Bool := cond (eqS a.1 b.1) (cond (Bool.and (eqI a.2.1.1 b.2.1.1) (Bool.and (eqI a.2.1.2.1 b.2.1.2.1) (Bool.and (eqI a.2.1.2.2.1 b.2.1.2.2.1) (Bool.and (eqI a.2.1.2.2.2.1 b.2.1.2.2.2.1) (Bool.and (eqS a.2.1.2.2.2.2.1 b.2.1.2.2.2.2.1) (Bool.and (eqS a.2.1.2.2.2.2.2.1 b.2.1.2.2.2.2.2.1) (Bool.and (eqS a.2.1.2.2.2.2.2.2.1 b.2.1.2.2.2.2.2.2.1) true))))))) (cond (eqB a.2.2.2.1 b.2.2.2.1) (cond (eqB a.2.2.2.2.1 b.2.2.2.2.1) d false) false) false) false
theorem p_impl_SameStore (a b : D_Store) (h1 : a.2.2.1.1.length ≤ 4611686018427387904) (h2 : a.2.2.1.2.1.length ≤ 4611686018427387904) : c_impl_SameStore R a b = some (sameStore a b (eqC a.2.2.1 b.2.2.1), ()) := by
  have hq : c_impl_SameStore R a b = _ := call (q_impl_SameStore R L a b)
  rw [hq, p_impl_SameDevice _ _ h1 h2]
  unfold sameStore
  generalize eqS a.1 b.1 = b1
  generalize Bool.and (eqI a.2.1.1 b.2.1.1) _ = b2
  cases b1 <;> cases b2 <;> cases eqB a.2.2.2.1 b.2.2.2.1 <;> cases eqB a.2.2.2.2.1 b.2.2.2.2.1 <;> rfl
theorem p_spec_SameStore (a b : D_Store) (h1 : a.2.2.1.1.length ≤ 4611686018427387904) (h2 : a.2.2.1.2.1.length ≤ 4611686018427387904) : c_spec_SameStore R a b = some (sameStore a b (eqC a.2.2.1 b.2.2.1), ()) := by
  have hq : c_spec_SameStore R a b = _ := call (q_spec_SameStore R L a b)
  rw [hq, p_spec_SameDevice _ _ h1 h2]
  unfold sameStore
  generalize eqS a.1 b.1 = b1
  generalize Bool.and (eqI a.2.1.1 b.2.1.1) _ = b2
  cases b1 <;> cases b2 <;> cases eqB a.2.2.2.1 b.2.2.2.1 <;> cases eqB a.2.2.2.2.1 b.2.2.2.2.1 <;> rfl
theorem p_impl_alike_1 (a b : D_Txn) (h : a.1.length ≤ 4611686018427387904) : c_impl_alike_1 R a b = some (eqC a b, ()) := by
  have hq : c_impl_alike_1 R a b = _ := call (q_impl_alike_1 R L a b)
  rw [hq, eqs_slices_Equal___impl_Op_impl_Op_ _ _ h, eqC_and1]; rfl
theorem p_impl_alike (a b : List D_Txn) (h : a.length ≤ 4611686018427387904) (h2 : ∀ t ∈ a, t.1.length ≤ 4611686018427387904) : c_impl_alike R a b = some (eqC a b, ()) := by
  have hq : c_impl_alike R a b = _ := call (q_impl_alike R L a b)
  rw [hq, eqf_slices_EqualFunc___impl_Txn___impl_Txn_impl_Txn_impl_Txn_ a b _ (fun x y => eqC x y) h (fun x hx y hy => by rw [cv_impl_alike_1, p_impl_alike_1 _ _ (h2 x hx)]; rfl), all2_eq (fun _ _ _ _ => rfl)]; rfl
theorem p_impl_sameResults_1 (a b : D_Result) (h : a.2.1.length ≤ 4611686018427387904) : c_impl_sameResults_1 R a b = some (eqC a b, ()) := by
  have hq : c_impl_sameResults_1 R a b = _ := call (q_impl_sameResults_1 R L a b)
  rw [hq, eqs_slices_Equal___int_int_ _ _ h, ← eqC_pair, eqC_and1 (a := a.2), eqC_I]
  cases eqC a.1 b.1 <;> rfl
theorem p_impl_sameResults (a b : List D_Result) (h : a.length ≤ 4611686018427387904) (h2 : ∀ t ∈ a, t.2.1.length ≤ 4611686018427387904) : c_impl_sameResults R a b = some (eqC a b, ()) := by
  have hq : c_impl_sameResults R a b = _ := call (q_impl_sameResults R L a b)
  rw [hq, eqf_slices_EqualFunc___impl_Result___impl_Result_impl_Result_impl_Result_ a b _ (fun x y => eqC x y) h (fun x hx y hy => by rw [cv_impl_sameResults_1, p_impl_sameResults_1 _ _ (h2 x hx)]; rfl), all2_eq (fun _ _ _ _ => rfl)]; rfl
theorem p_spec_SameBatch (a b : List D_Txn) (ha : batchOK a = true) (hb : batchOK b = true) (sa : ∀ t ∈ a, t.1.length ≤ 4611686018427387904) (sb : ∀ t ∈ b, t.1.length ≤ 4611686018427387904) : c_spec_SameBatch R a b = some (eqC a b, ()) := by
  have hq : c_spec_SameBatch R a b = _ := call (q_spec_SameBatch R L a b)
  have la := (batB ha).l
  have lb := (batB hb).l
  rw [hq, decide_eq_false (by omega), decide_eq_false (by omega), p_spec_BatchOK _ sa, p_spec_BatchOK _ sb, ha, hb, p_spec_l09Text _ (batB ha), p_spec_l09Text _ (batB hb)]
  simp only [cond_false, cond_true, Option.bind_some]
  rw [eqC_S, eqC_congr ⟨fun h => batText_inj (batB ha) (batB hb) h, fun h => by rw [h]⟩]
noncomputable def sameW (a b : D_World) : Bool := sameStore a.1 b.1 (eqC a.1.2.2.1 b.1.2.2.1) && (eqC a.2.1 b.2.1 && (eqC a.2.2.1 b.2.2.1 && (eqC a.2.2.2.1 b.2.2.2.1 && (eqC a.2.2.2.2.1 b.2.2.2.2.1 && eqB a.2.2.2.2.2.1 b.2.2.2.2.2.1))))
theorem p_impl_SameWorld (a b : D_World) (ha : SmallW a) (hb : SmallW b) : c_impl_SameWorld R a b = some (worldOK a && (worldOK b && sameW a b), ()) := by
  have hq : c_impl_SameWorld R a b = _ := call (q_impl_SameWorld R L a b)
  rw [hq, p_impl_WorldOK a ha, p_impl_WorldOK b hb]
  simp only [Option.bind_some]
  cases h1 : worldOK a with
  | false => rfl
  | true =>
    cases h2 : worldOK b with
    | false => rfl
    | true =>
      have hw := h1
      unfold worldOK at hw
      simp only [Bool.and_eq_true] at hw
      obtain ⟨w1, ⟨w2, _⟩, _, _, w3, w4⟩ := hw
      have d1 : a.1.2.2.1.1.length ≤ 4611686018427387904 ∧ a.1.2.2.1.2.1.length ≤ 4611686018427387904 := by
        unfold storeOK devOK at w1
        simp only [Bool.and_eq_true, decide_eq_true_eq] at w1
        obtain ⟨_, _, ⟨e1, e2, _⟩, _⟩ := w1
        omega
      have d2 : a.2.1.1.length ≤ 4611686018427387904 ∧ a.2.1.2.1.length ≤ 4611686018427387904 := by
        unfold devOK at w2
        simp only [Bool.and_eq_true, decide_eq_true_eq] at w2
        obtain ⟨e1, e2, _⟩ := w2
        omega
      have hr := ressB w4
      rw [p_impl_SameStore _ _ d1.1 d1.2, p_impl_SameDevice _ _ d2.1 d2.2, eqs_slices_Equal___impl_Entry_impl_Entry_ _ _ ha.m, eqf_slices_EqualFunc_____impl_Txn_____impl_Txn___impl_Txn___impl_Txn_ a.2.2.2.1 b.2.2.2.1 _ (fun x y => eqC x y) ha.q (fun x hx y hy => by rw [cv_impl_alike, p_impl_alike _ _ (by have := (batB (List.all_eq_true.1 w3 x hx)).l; omega) (ha.b x hx)]; rfl), all2_eq (fun _ _ _ _ => rfl), p_impl_sameResults _ _ ha.r (fun t ht => by have := (hr.2 t ht).l; omega)]
      unfold sameW
      simp only [Option.bind_some]
      cases sameStore a.1 b.1 (eqC a.1.2.2.1 b.1.2.2.1) <;> cases eqC a.2.1 b.2.1 <;> cases eqC a.2.2.1 b.2.2.1 <;> cases eqC a.2.2.2.1 b.2.2.2.1 <;> cases eqC a.2.2.2.2.1 b.2.2.2.2.1 <;> rfl
theorem p_spec_SameWorld (a b : D_World) (ha : SmallW a) (hb : SmallW b) : c_spec_SameWorld R a b = some (worldOK a && (worldOK b && sameW a b), ()) := by
  have hq : c_spec_SameWorld R a b = _ := call (q_spec_SameWorld R L a b)
  rw [hq, p_spec_WorldOK a ha, p_spec_WorldOK b hb]
  simp only [Option.bind_some]
  cases h1 : worldOK a with
  | false => rfl
  | true =>
    cases h2 : worldOK b with
    | false => rfl
    | true =>
      have hw := h1
      unfold worldOK at hw
      simp only [Bool.and_eq_true] at hw
      obtain ⟨w1, ⟨w2, _⟩, _, _, w3, w4⟩ := hw
      have hv := h2
      unfold worldOK at hv
      simp only [Bool.and_eq_true] at hv
      obtain ⟨_, _, _, _, v3, v4⟩ := hv
      have d1 : a.1.2.2.1.1.length ≤ 4611686018427387904 ∧ a.1.2.2.1.2.1.length ≤ 4611686018427387904 := by
        unfold storeOK devOK at w1
        simp only [Bool.and_eq_true, decide_eq_true_eq] at w1
        obtain ⟨_, _, ⟨e1, e2, _⟩, _⟩ := w1
        omega
      have d2 : a.2.1.1.length ≤ 4611686018427387904 ∧ a.2.1.2.1.length ≤ 4611686018427387904 := by
        unfold devOK at w2
        simp only [Bool.and_eq_true, decide_eq_true_eq] at w2
        obtain ⟨e1, e2, _⟩ := w2
        omega
      have hm := ha.m
      have hqq := ha.q
      rw [p_spec_SameStore _ _ d1.1 d1.2, p_spec_SameDevice _ _ d2.1 d2.2, p_spec_l14Results _ _ w4 v4, eqI_len, eqI_len]
      unfold sameW
      simp only [Option.bind_some]
      cases sameStore a.1 b.1 (eqC a.1.2.2.1 b.1.2.2.1) with
      | false => rfl
      | true =>
        cases eqC a.2.1 b.2.1 with
        | false => rfl
        | true =>
          by_cases e1 : a.2.2.1.length = b.2.2.1.length
          · rw [decide_eq_true e1]
            by_cases e2 : a.2.2.2.1.length = b.2.2.2.1.length
            · rw [decide_eq_true e2]
              have s1 : ∀ v5 : Int, lp_spec_SameWorld_1 R L a b a b false v5 0 = some (eqC a.2.2.2.1 b.2.2.2.1, ()) := fun v5 => by
                have := gen_all2K (fun i => lp_spec_SameWorld_1 R L a b a b false v5 i) a.2.2.2.1 b.2.2.2.1 [] [] (fun x y => eqC x y) true (by
                  have hq : lp_spec_SameWorld_1 R L a b a b false v5 (a.2.2.2.1.length : Nat) = _ := round (by kernel_rfl) (q_spec_SameWorld_1 R L a b a b false v5 (a.2.2.2.1.length : Nat))
                  show lp_spec_SameWorld_1 R L a b a b false v5 (a.2.2.2.1.length : Nat) = _
                  rw [hq, lt_f (Nat.le_refl _)]; rfl) (fun i hlt => by
                  have hq : lp_spec_SameWorld_1 R L a b a b false v5 i = _ := round (by kernel_rfl) (q_spec_SameWorld_1 R L a b a b false v5 i)
                  show lp_spec_SameWorld_1 R L a b a b false v5 i = _
                  have m1 : a.2.2.2.1.getD i [] ∈ a.2.2.2.1 := getD_mem hlt
                  have m2 : b.2.2.2.1.getD i [] ∈ b.2.2.2.1 := getD_mem (by omega)
                  rw [hq, lt_t hlt, nn, tn, blt_t hlt, blt_t (n := b.2.2.2.1.length) (by omega), p_spec_SameBatch _ _ (List.all_eq_true.1 w3 _ m1) (List.all_eq_true.1 v3 _ m2) (ha.b _ m1) (hb.b _ m2), wrap_succ (by omega)]
                  simp only [cond_true, Option.bind_some]
                  exact cond_not _) e2 _ 0 rfl (Nat.zero_le _)
                rw [List.drop_zero, List.drop_zero, Bool.and_true, all2_eq (fun _ _ _ _ => rfl)] at this
                exact this
              have := gen_all2K (fun i => lp_spec_SameWorld_0 R L a b a b false i) a.2.2.1 b.2.2.1 (0, (0, ())) (0, (0, ())) (fun x y => eqC x y) (eqC a.2.2.2.1 b.2.2.2.1) (by
                have hq : lp_spec_SameWorld_0 R L a b a b false (a.2.2.1.length : Nat) = _ := round (by kernel_rfl) (q_spec_SameWorld_0 R L a b a b false (a.2.2.1.length : Nat))
                show lp_spec_SameWorld_0 R L a b a b false (a.2.2.1.length : Nat) = _
                rw [hq, lt_f (Nat.le_refl _)]; exact s1 _) (fun i hlt => by
                have hq : lp_spec_SameWorld_0 R L a b a b false i = _ := round (by kernel_rfl) (q_spec_SameWorld_0 R L a b a b false i)
                show lp_spec_SameWorld_0 R L a b a b false i = _
                rw [hq, lt_t hlt, nn, tn, blt_t hlt, blt_t (n := b.2.2.1.length) (by omega), eqC_ent, wrap_succ (by omega)]
                simp only [cond_true]
                exact cond_not _) e1 _ 0 rfl (Nat.zero_le _)
              rw [List.drop_zero, List.drop_zero, all2_eq (fun _ _ _ _ => rfl)] at this
              have this : lp_spec_SameWorld_0 R L a b a b false 0 = _ := this
              rw [this]
              cases eqC a.2.2.1 b.2.2.1 <;> cases eqC a.2.2.2.1 b.2.2.2.1 <;> cases eqC a.2.2.2.2.1 b.2.2.2.2.1 <;> cases eqB a.2.2.2.2.2.1 b.2.2.2.2.2.1 <;> rfl
            · rw [decide_eq_false e2, eqC_len e2]
              cases eqC a.2.2.1 b.2.2.1 <;> rfl
          · rw [decide_eq_false e1, eqC_len e1]; rfl

/-- The law. -/
theorem law_SameWorld (x y : D_World) (hx : Fine T_World x) (hy : Fine T_World y) : c_laws_FnExactSameWorld R x y = some (true, ()) := by
  have hq : c_laws_FnExactSameWorld R x y = _ := call (q_laws_FnExactSameWorld R L x y)
  rw [hq, sz_World x 1048576 (by omega) (by omega) hx]
  simp only [Option.bind_some]
  by_cases h : cnt T_World x ≤ 1048576
  · rw [szF_t (by omega), decide_eq_false (by omega)]
    simp only [cond_false]
    rw [sz_World y _ (by omega) (by omega) hy]
    simp only [Option.bind_some]
    by_cases h2 : (cnt T_World y : Int) ≤ 1048576 - (cnt T_World x : Int)
    · rw [szF_t h2, decide_eq_false (by omega)]
      have h2' : cnt T_World y ≤ 1048576 := by omega
      simp only [cond_false]
      rw [to_World x h, to_World y h2']
      simp only [Option.bind_some]
      rw [p_spec_SameWorld x y (smallW h) (smallW h2'), p_impl_SameWorld x y (smallW h) (smallW h2')]
      simp only [Option.bind_some, eqB, decide_true, Bool.not_true, cond_false]
      rw [eq_World x h, eq_World y h2']
      rfl
    · rw [szF_f (by omega)]; rfl
  · rw [szF_f (by omega)]; rfl
end Go.Rf.S
