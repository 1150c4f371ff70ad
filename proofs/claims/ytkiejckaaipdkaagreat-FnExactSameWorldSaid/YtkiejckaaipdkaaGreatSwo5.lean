import Derived.Test.YtkiejckaaipdkaaGreatSwo4
set_option linter.unusedVariables false
set_option linter.unusedSimpArgs false
namespace Go.Rf.S
set_option maxRecDepth 100000
set_option linter.unusedVariables false
set_option linter.unusedSimpArgs false

/-! a world -/
def waitW (w : D_World) : Bool := eqI (w.2.2.2.1.length : Int) (IntKind.wrap .i64 (w.1.2.1.2.2.1 - w.1.2.1.1))
def worldOK (w : D_World) : Bool := storeOK w.1 && ((devOK w.2.1 && none0 w.2.1) && (mapOK w.2.2.1 && (waitW w && (w.2.2.2.1.all batchOK && ressOK w.2.2.2.2.1))))
/-- what the sizes give -/
structure SmallW (w : D_World) : Prop where
  m : w.2.2.1.length ≤ 4611686018427387904
  q : w.2.2.2.1.length ≤ 4611686018427387904
  r : w.2.2.2.2.1.length ≤ 4611686018427387904
  b : ∀ l ∈ w.2.2.2.1, ∀ t ∈ l, t.1.length ≤ 4611686018427387904
theorem smallW {w : D_World} (h : cnt T_World w ≤ 1048576) : SmallW w := by
  have hc : cnt T_World w = (cnt T_Store w.1 + (cnt T_Device w.2.1 + (cnt (.sl T_Entry) w.2.2.1 + (cnt (.sl (.sl T_Txn)) w.2.2.2.1 + (cnt (.sl T_Result) w.2.2.2.2.1 + (0 + 0)))))) := rfl
  have h1 : cnt (.sl T_Entry) w.2.2.1 = w.2.2.1.length + (w.2.2.1.map (cnt T_Entry)).sum := rfl
  have h2 : cnt (.sl (.sl T_Txn)) w.2.2.2.1 = w.2.2.2.1.length + (w.2.2.2.1.map (cnt (.sl T_Txn))).sum := rfl
  have h3 : cnt (.sl T_Result) w.2.2.2.2.1 = w.2.2.2.2.1.length + (w.2.2.2.2.1.map (cnt T_Result)).sum := rfl
  refine ⟨by omega, by omega, by omega, fun l hl t ht => ?_⟩
  have e1 := sum_mem (f := cnt (.sl T_Txn)) hl
  have e2 : cnt (.sl T_Txn) l = l.length + (l.map (cnt T_Txn)).sum := rfl
  have e3 := sum_mem (f := cnt T_Txn) ht
  have e4 : cnt T_Txn t = cnt (.sl T_Op) t.1 + 0 := rfl
  have e5 : cnt (.sl T_Op) t.1 = t.1.length + (t.1.map (cnt T_Op)).sum := rfl
  omega
theorem p_spec_WorldOK (w : D_World) (h : SmallW w) : c_spec_WorldOK R w = some (worldOK w, ()) := by
  have hq : c_spec_WorldOK R w = _ := call (q_spec_WorldOK R L w)
  rw [hq, p_spec_StoreOK, p_spec_DeviceOK, p_spec_MapOK, p_spec_l12Results _ h.r, none0_gt]
  simp only [Option.bind_some]
  have hl := gen_all (fun i => lp_spec_WorldOK_0 R L w w false i) w.2.2.2.1 [] batchOK true (by
    have hq : lp_spec_WorldOK_0 R L w w false (w.2.2.2.1.length : Nat) = _ := round (by kernel_rfl) (q_spec_WorldOK_0 R L w w false (w.2.2.2.1.length : Nat))
    show lp_spec_WorldOK_0 R L w w false (w.2.2.2.1.length : Nat) = _
    rw [hq, lt_f (Nat.le_refl _)]; rfl) (fun i hlt => by
    have hq : lp_spec_WorldOK_0 R L w w false i = _ := round (by kernel_rfl) (q_spec_WorldOK_0 R L w w false i)
    have := h.q
    show lp_spec_WorldOK_0 R L w w false i = _
    rw [hq, lt_t hlt, nn, tn, blt_t hlt, p_spec_BatchOK _ (h.b _ (getD_mem hlt)), wrap_succ (by omega)]
    simp only [cond_true, Option.bind_some]
    cases batchOK (w.2.2.2.1.getD i []) <;> rfl) _ 0 rfl (by omega)
  rw [Bool.and_true] at hl
  have hl : lp_spec_WorldOK_0 R L w w false 0 = some (w.2.2.2.1.all batchOK, ()) := hl
  rw [hl]
  unfold worldOK
  show _ = some (_ && (_ && (_ && (waitW w && _))), ())
  have e : eqI (w.2.2.2.1.length : Int) (IntKind.wrap .i64 (w.1.2.1.2.2.1 - w.1.2.1.1)) = waitW w := rfl
  rw [e]
  generalize storeOK w.1 = b1
  generalize devOK w.2.1 = b2
  generalize none0 w.2.1 = b3
  generalize mapOK w.2.2.1 = b4
  generalize waitW w = b5
  generalize w.2.2.2.1.all batchOK = b6
  generalize ressOK w.2.2.2.2.1 = b7
  cases b1 <;> cases b2 <;> cases b3 <;> cases b4 <;> cases b5 <;> cases b6 <;> cases b7 <;> rfl
theorem p_impl_WorldOK (w : D_World) (h : SmallW w) : c_impl_WorldOK R w = some (worldOK w, ()) := by
  have hq : c_impl_WorldOK R w = _ := call (q_impl_WorldOK R L w)
  have hq2 : c_impl_Register_waiting R w.1.2.1 = _ := call (q_impl_Register_waiting R L w.1.2.1)
  rw [hq, p_impl_StoreOK, p_impl_isSure, p_impl_MapOK _ h.m, p_impl_areResults _ h.r, hq2, all_impl_areAll___impl_Txn_ w.2.2.2.1 _ batchOK h.q (fun s hs => by rw [cv_impl_BatchOK, p_impl_BatchOK _ (h.b s hs)]; rfl)]
  simp only [Option.bind_some]
  have e : eqI (w.2.2.2.1.length : Int) (IntKind.wrap .i64 (w.1.2.1.2.2.1 - w.1.2.1.1)) = waitW w := rfl
  rw [e]
  unfold worldOK
  generalize storeOK w.1 = b1
  generalize (devOK w.2.1 && none0 w.2.1) = b2
  generalize mapOK w.2.2.1 = b4
  generalize waitW w = b5
  generalize w.2.2.2.1.all batchOK = b6
  generalize ressOK w.2.2.2.2.1 = b7
  cases b1 <;> cases b2 <;> cases b4 <;> cases b5 <;> cases b6 <;> cases b7 <;> rfl

end Go.Rf.S
