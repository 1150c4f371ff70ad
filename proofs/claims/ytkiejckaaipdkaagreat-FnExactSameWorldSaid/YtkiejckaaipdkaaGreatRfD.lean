/- An interpreter of the code over plain data, proved right against the machine: part D. No condition. -/
import Derived.Test.YtkiejckaaipdkaaGreatRfC
import Derived.WalkKit
import Derived.ProofKit
import Derived.ShutString
import Derived.SizedLaws
import Derived.Test.YtkiejckaaipdkaaGreatRfA
set_option linter.unusedVariables false
set_option linter.unusedSimpArgs false
/- Rf, part Cm: rows: a law that returns true at all data. -/
namespace Go.Rf
open Go.ChangeShapes Go.WideShapes Go.ChangeAt Go.RowKit

def FineAll : List Dyn → Prop
  | [] => True
  | d :: ds => Fine d.t d.x ∧ FineAll ds

section
variable {P : Program} {w : World} {H : Type} {enc : TypeId × Value → H} {sp : Nat → Bool} {held : Bool}

theorem value_valOf {d : Nat} {t : TypeId} {τ : Ty} {v : Value} (ht : tyN P (d + 1) t = some τ) (hp : plainT τ = true) (hv : Value.okWide P w .any 0 t v ∨ ∃ b, Value.okWide P w .any b t v) : v = valOf τ v.cells.toList := by
  have hv : ∃ b, Value.okWide P w .any b t v := hv.elim (fun h => ⟨0, h⟩) id
  obtain ⟨b, hv⟩ := hv
  obtain ⟨i, u, hi, hu, hsz, hsh⟩ := tyN_inv ht
  unfold TyShape at hsh
  split at hsh
  · subst hsh; obtain ⟨n, rfl⟩ := okWide_int hu hv; rfl
  · subst hsh; obtain ⟨n, rfl⟩ := okWide_bool hu hv; rfl
  · subst hsh; obtain ⟨n, rfl⟩ := okWide_string hu hv; rfl
  · subst hsh; simp [plainT] at hp
  · obtain ⟨a, _, rfl⟩ := hsh; obtain ⟨_, _, _, rfl⟩ := okWide_slice hu hv; rfl
  · obtain ⟨a, _, rfl⟩ := hsh; simp [plainT] at hp
  · obtain ⟨a, _, rfl⟩ := hsh
    unfold Value.okWide at hv
    rw [hu] at hv
    obtain ⟨cs, rfl, _⟩ := hv
    simp [valOf, Ty.agg, Value.cells]
  · obtain ⟨cs, rfl, _⟩ := okWide_struct hu hv
    rcases chain_agg hsh with rfl | ⟨a, b, rfl⟩ <;> simp [valOf, Ty.agg, Value.cells]
  · exact hsh.elim

/-- The arguments of a call, as data. -/
theorem args_read : ∀ {ts : List TypeId} {vs : List Value} {ds : List (DataW H)} {ps : List MemPlace} {tys : List Ty} {b : Nat}, DataW.TrodAll enc P w 0 sp held ts vs ds ps → ts.map (tyN P 8) = tys.map some → tys.all plainT = true →
    (∀ (j : Nat) (t : TypeId) (v : Value), ts[j]? = some t → vs[j]? = some v → Value.okWide P w .any b t v) →
    ∃ dy cs, RdAll (fun b => b < w.heap.size) w dy cs ∧ argVals dy cs = vs ∧ dy.map Dyn.t = tys ∧ FineAll dy ∧ ds.length = ts.length
  | [], [], [], ps, tys, b, _, ht, _, _ => by
    cases tys with
    | nil => exact ⟨[], [], by simp [RdAll], by simp [argVals], rfl, trivial, rfl⟩
    | cons _ _ => simp at ht
  | t :: ts, v :: vs, d :: ds, ps, tys, b, h, ht, hp, hv => by
    cases tys with
    | nil => simp at ht
    | cons τ tys =>
      simp only [List.map_cons, List.cons.injEq] at ht
      simp only [List.all_cons, Bool.and_eq_true] at hp
      obtain ⟨p, q, ⟨fuel, h1⟩, h2, _⟩ := h
      obtain ⟨x, hx, hf⟩ := trod_Rd ht.1 hp.1 h1
      obtain ⟨dy, cs, q1, q2, q3, q4, q5⟩ := args_read h2 ht.2 hp.2 (fun j t' v' h1 h2 => hv (j + 1) t' v' (by simpa using h1) (by simpa using h2))
      refine ⟨⟨τ, x⟩ :: dy, v.cells.toList :: cs, ⟨hx, q1⟩, ?_, by simp [q3], ⟨hf, q4⟩, by simp [q5]⟩
      simp only [argVals, q2]
      rw [← value_valOf ht.1 hp.1 (.inr ⟨b, hv 0 t v rfl rfl⟩)]
  | [], _ :: _, _, _, _, _, h, _, _, _ => by simp [DataW.TrodAll] at h
  | [], [], _ :: _, _, _, _, h, _, _, _ => by simp [DataW.TrodAll] at h
  | _ :: _, [], _, _, _, _, h, _, _, _ => by simp [DataW.TrodAll] at h
  | _ :: _, _ :: _, [], _, _, _, h, _, _, _ => by simp [DataW.TrodAll] at h

theorem trodAll_below (hl : laidOutB P = true) {W W' : World} (hb : Below W.heap.size W W') : ∀ {ts : List TypeId} {vs : List Value} {ds : List (DataW H)} {ps : List MemPlace}, DataW.TrodAll enc P W 0 (fun _ => true) true ts vs ds ps →
    (∀ t ∈ ts, P.readableRec t = true ∧ t < P.types.size) → DataW.TrodAll enc P W' 0 (fun b => decide (b < W.heap.size)) true ts vs ds ps
  | [], [], [], ps, h, _ => h
  | t :: ts, v :: vs, d :: ds, ps, h, hr => by
    obtain ⟨p, q, h1, h2, rfl⟩ := h
    refine ⟨p, q, ?_, trodAll_below hl hb h2 fun t' h' => hr t' (by simp [h']), rfl⟩
    have ⟨fuel, h1'⟩ := h1
    exact Below.trod hl (hr t (by simp)).1 (hr t (by simp)).2 h1 hb (DataW.trod_lt fuel _ _ _ h1')
  | [], _ :: _, _, _, h, _ => by simp [DataW.TrodAll] at h
  | [], [], _ :: _, _, h, _ => by simp [DataW.TrodAll] at h
  | _ :: _, [], _, _, h, _ => by simp [DataW.TrodAll] at h
  | _ :: _, _ :: _, [], _, h, _ => by simp [DataW.TrodAll] at h
end

def isTrue : (t : Ty) → t.D → Bool
  | .pair .bool _, x => x.1
  | _, _ => false

theorem ros_of : ∀ {tys : List Ty} {dy : List Dyn}, dy.map Dyn.t = tys → rosOK (tys.map .ro) dy = true
  | [], [], _ => rfl
  | t :: tys, d :: dy, h => by
    simp only [List.map_cons, List.cons.injEq] at h
    simp only [List.map_cons, rosOK, h.1, decide_true, Bool.true_and]
    exact ros_of h.2
  | [], _ :: _, h => by simp at h
  | _ :: _, [], h => by simp at h

/-- A law's call. -/
theorem law_call {E : Env} {R : Run E} (hR : RunOK E R) {f : FuncId} {fn : Func} {W : World} {tys : List Ty} {dy : List Dyn} {cs : List (List Value)} (hfn : E.P.funcs[f]? = some fn) (hb : fn.body.isNone = false) {keep : List Nat} {mv : List (Nat × Nat)}
    (hcfg : E.cfg f = ⟨tys.map .ro, 1, .pair .bool .unit, .sh, keep, mv⟩) (hdy : dy.map Dyn.t = tys) (hrd : RdAll (fun b => b < W.heap.size) W dy cs) {x : (E.cfg f).rt.D} (hx : R f dy = some x) (ht : isTrue _ x = true) :
    Calls E.P f (argVals dy cs).toArray W fun e W' => e = .returned (.bool true) ∧ Below W.heap.size W W' := by
  have h := hR f dy x hx W (fun b => b < W.heap.size) (fun _ => none) cs ⟨fun _ _ _ h => by simp at h, fun _ _ h => by simp at h, fun _ _ h => by simp at h, fun _ h => h⟩ (ros_at (by rw [hcfg]; exact ros_of hdy) hrd)
  have post : ∀ v W', Ret (E.cfg f) x cs W (fun b => b < W.heap.size) (fun _ => none) v W' → v = .bool true ∧ Below W.heap.size W W' := by
    rintro v W' ⟨S', β', crs, h1, h2, h3, h4, h5⟩
    refine ⟨?_, ⟨h2.out.os, h2.out.tape, h2.out.output, h2.size, fun k hk => h2.old k hk (fun _ => by simp)⟩⟩
    have key : ∀ (c : FCfg) (x : c.rt.D), c = ⟨tys.map .ro, 1, .pair .bool .unit, .sh, keep, mv⟩ → isTrue _ x = true → ResAt S' β' W' c.nres 0 c.rt c.rf x crs → v = retVal (resVals c.nres c.rt crs) → v = .bool true := by
      intro c x hc ht h3 h4
      subst hc
      match crs, h3 with
      | [c], h3 =>
        simp only [ResAt] at h3
        have := h3.1
        simp only [Fl.l] at this
        rw [VRel_sh] at this
        simp only [Rd] at this
        subst this
        have ht : x.1 = true := ht
        rw [h4]
        show Value.bool x.1 = _
        rw [ht]
      | [], h3 => simp [ResAt] at h3
      | _ :: _ :: _, h3 => simp [ResAt] at h3
    exact key _ x hcfg ht h3 h4
  rcases h with ⟨fn', _, _, _, h⟩ | ⟨v, w', hrun, hret⟩
  · refine h.mono fun e W' he => ?_
    cases e with
    | returned v => obtain ⟨rfl, hb⟩ := post v W' he; exact ⟨rfl, hb⟩
    | panicked _ => exact he.elim
    | outgrown => exact he.elim
  · exfalso
    have hb' : fn.body ≠ none := fun e => by rw [e] at hb; simp at hb
    by_cases hnm : fn.name = "runtime.NumGoroutine"
    · have hr : (callFunc f (argVals dy cs).toArray).run E.P W = .ok .numGoroutine W := by
        simp only [callFunc, go_sem]
        simp [hfn, hnm]
      rw [hr] at hrun; simp at hrun
    · have hr : (callFunc f (argVals dy cs).toArray).run E.P W = .ok (.enter f (argVals dy cs).toArray) W := by
        simp only [callFunc, go_sem]
        simp [hfn, hnm, hb']
      rw [hr] at hrun; simp at hrun

/-- A row whose law returns true at all data. -/
theorem law_row {C : Checked} {cfg : FuncId → FCfg} {R : Run ⟨C.prog, cfg⟩} (hR : RunOK ⟨C.prog, cfg⟩ R) {f : FuncId} {fn : Func} {s : ChangeSpec} {tys : List Ty} {keep : List Nat} {mv : List (Nat × Nat)} {tb : TypeId} {n : Nat}
    (hcfg : cfg f = ⟨tys.map .ro, 1, .pair .bool .unit, .sh, keep, mv⟩) (hfn : C.prog.funcs[f]? = some fn) (hb : fn.body.isNone = false) (hty : fn.params.toList.map (tyN C.prog 8) = tys.map some) (hp : tys.all plainT = true)
    (hvars : s.vars = []) (hs : ∀ (H : Type) (ds : List (DataW H)), ds.length = n → s.fn H ds = { results := [.lit (.bool true)], args := ds }) (hn : fn.params.toList.length = n) (hrt : fn.resultTypes = #[tb]) (hut : C.prog.underlying tb = some .bool)
    (hl : laidOutB C.prog = true) (hr : ∀ t ∈ fn.params.toList, C.prog.readableRec t = true ∧ t < C.prog.types.size)
    (hx : ∀ dy : List Dyn, dy.map Dyn.t = tys → FineAll dy → ∃ x, R f dy = some x ∧ isTrue _ x = true)
    {H : Type} (enc : TypeId × Value → H) (W : World) (base : Nat) (args : Array Value) (ds gs : List (DataW H)) (before : List MemPlace)
    (hval : ∀ (j : Nat) t v, fn.params[j]? = some t → args[j]? = some v → Value.okWide C.prog W .any base t v)
    (hW : DataW.Whole enc C.prog fn.params.toList s.vars false W args.toList ds gs before) :
    Calls C.prog f args W fun e W' => ∃ v, e = .returned v ∧ s.post enc C.prog fn false true false false W args v W' := by
  have hW' := hW
  obtain ⟨p, q, hA, hV, rfl, hfz, hnd⟩ := hW
  rw [hvars] at hV
  obtain ⟨rfl, rfl⟩ := trodVars_none hV
  obtain ⟨dy, cs, h1, h2, h3, h4, h5⟩ := args_read (b := base) hA hty hp (fun j t v hj hv => hval j t v (by simpa using hj) (by simpa using hv))
  obtain ⟨x, hx1, hx2⟩ := hx dy h3 h4
  have hc := law_call hR hfn hb hcfg h3 h1 hx1 hx2
  have hargs : (argVals dy cs).toArray = args := by rw [h2]
  rw [hargs] at hc
  refine hc.mono fun e W' ⟨he, bel⟩ => ?_
  refine ⟨_, he, ds, [], _, [], p, [], hW', ?_, ?_, ?_, bel.frame _, fun h => by cases h⟩
  · rw [hs H (ds ++ []) (by simp [h5, hn]), hrt]
    exact trodAll_mk1 (shut_bool hut _)
  · rw [hs H (ds ++ []) (by simp [h5, hn])]
    simp only [List.append_nil]
    exact trodAll_below hl bel hA hr
  · rw [hvars, hs H (ds ++ []) (by simp [h5, hn])]
    rfl
end Go.Rf

/- Rf, part Cn: equations of loops. -/
namespace Go.Rf

/-- Configurations by number. -/
def lookC : List (Nat × FCfg) → FuncId → FCfg
  | [], _ => ⟨[], 0, .unit, .sh, [], []⟩
  | (n, c) :: l, f => cond (Nat.beq n f) c (lookC l f)

def namesB (P : Program) : Bool := P.funcs.toList.all fun fn => !(fn.name == "runtime.NumGoroutine")
theorem namesOK_of {P : Program} (h : namesB P = true) : NamesOK P := fun f fn hf => by
  have := List.all_eq_true.1 h fn (by
    obtain ⟨hi, e⟩ := Array.getElem?_eq_some_iff.1 hf
    rw [← e]; exact Array.mem_toList_iff.2 (Array.getElem_mem hi))
  simpa using this

/-- Calls of function values, by what they answer. -/
def callVB (E : Env) (R : Run E) (v : FnVal) (ds : List Dyn) : Option Bool := callV E R v ds .bool
def callVI (E : Env) (R : Run E) (v : FnVal) (ds : List Dyn) : Option Int := callV E R v ds (.int .i64)

def okPath : Code → List Nat → Bool
  | .loop _, [] => true
  | .seq a _, 0 :: p => okPath a p
  | .seq _ b, 1 :: p => okPath b p
  | .cond _ a _, 0 :: p => okPath a p
  | .cond _ _ b, 1 :: p => okPath b p
  | .block _ b, 0 :: p => okPath b p
  | .loop b, 0 :: p => okPath b p
  | _, _ => false

section
variable {E : Env} {X : (f : FuncId) → Option (List Dyn → Option (E.cfg f).rt.D)} {ρ : Type} {f : FuncId}

theorem opsK_then {R : Run E} {ρ' : Type} {mv : List Nat} {all : List Oper} {draw : Bool} {κ1 : List Slot → Option ρ} {κ2 : ρ → Option ρ'} : ∀ {os : List Oper} {i : Nat} {l : List Slot} {acc : List Rec},
    opsK E R mv all draw os i l acc (fun l => (κ1 l).bind κ2) = (opsK E R mv all draw os i l acc κ1).bind κ2
  | [], i, l, acc => by
    unfold opsK
    split
    · split <;> rfl
    · rfl
  | o :: os, i, l, acc => by
    have hgo : ∀ {gs : List Nat} {l : List Slot}, opK E R (mv.any (Nat.beq i ·)) (viewOf l (fpOf o l)) o (fun us => opsK E R mv all draw os (i + 1) (upsL l us) (acc ++ [(⟨gs ++ fpOf o l, us.map Up.slot⟩ : Rec)]) (fun l => (κ1 l).bind κ2)) =
        (opK E R (mv.any (Nat.beq i ·)) (viewOf l (fpOf o l)) o (fun us => opsK E R mv all draw os (i + 1) (upsL l us) (acc ++ [(⟨gs ++ fpOf o l, us.map Up.slot⟩ : Rec)]) κ1)).bind κ2 := fun {gs l} => by
      have e1 := opK_bind (E := E) (R := R) (mv := mv.any (Nat.beq i ·)) (g := viewOf l (fpOf o l)) (o := o) (κ := fun us => opsK E R mv all draw os (i + 1) (upsL l us) (acc ++ [(⟨gs ++ fpOf o l, us.map Up.slot⟩ : Rec)]) κ1)
      rw [opK_bind, e1, Option.bind_assoc]
      congr
      funext us
      exact opsK_then
    have hskip : ∀ {gs : List Nat} {l : List Slot}, (match o.dst with
        | some d => opsK E R mv all draw os (i + 1) (upL l (.put d .und)) (acc ++ [(⟨gs, [d]⟩ : Rec)]) (fun l => (κ1 l).bind κ2)
        | none => opsK E R mv all draw os (i + 1) l (acc ++ [(⟨gs, []⟩ : Rec)]) (fun l => (κ1 l).bind κ2)) =
        (match o.dst with
        | some d => opsK E R mv all draw os (i + 1) (upL l (.put d .und)) (acc ++ [(⟨gs, [d]⟩ : Rec)]) κ1
        | none => opsK E R mv all draw os (i + 1) l (acc ++ [(⟨gs, []⟩ : Rec)]) κ1).bind κ2 := fun {gs l} => by
      cases hd : o.dst with
      | some d => exact opsK_then
      | none => exact opsK_then
    unfold opsK
    simp only
    split
    · exact hgo
    · split
      · rfl
      · split
        · rename_i t hv
          cases t with
          | true =>
            simp only [cond_true]
            split
            · exact hgo
            · exact hskip
          | false =>
            simp only [cond_false]
            split
            · exact hskip
            · exact hgo
        · exact hskip
        · rfl

theorem evB_then {R : Run E} {L : Loops} {ρ' : Type} {κ2 : ρ → Option ρ'} : ∀ {c : Code} {σ : List SV} {κ1 : Out → Option ρ}, evB E R L f c σ (fun o => (κ1 o).bind κ2) = (evB E R L f c σ κ1).bind κ2
  | .skip, _, _ => rfl
  | .exit _, _, _ => rfl
  | .ret, _, _ => rfl
  | .region id ops draw, σ, κ1 => by
    simp only [evB]
    exact opsK_then (κ1 := fun l => κ1 ⟨.nm, scrub (E.cfg f).keep l l 0⟩)
  | .seq a b, σ, κ1 => by
    simp only [evB]
    rw [← evB_then (c := a)]
    congr
    funext o
    obtain ⟨e, σ'⟩ := o
    cases e with
    | nm => exact evB_then
    | ex id => rfl
    | ret => rfl
  | .block id b, σ, κ1 => by
    simp only [evB]
    rw [← evB_then (c := b)]
    congr
    funext o
    obtain ⟨e, σ'⟩ := o
    cases e with
    | ex j => simp only [kblock]; split <;> rfl
    | nm => rfl
    | ret => rfl
  | .loop b, σ, κ1 => by
    simp only [evB, loopK]
    rw [Option.bind_assoc]
  | .cond c a b, σ, κ1 => by
    simp only [evB]
    split
    · split
      · rename_i x hx
        cases x with
        | true => simp only [cond_true]; exact evB_then
        | false => simp only [cond_false]; exact evB_then
      · rfl
    · rename_i x
      cases x with
      | true => simp only [cond_true]; exact evB_then
      | false => simp only [cond_false]; exact evB_then
    · rfl
  | .rangeFunc _ _ _ _, _, _ | .scope _, _, _ | .label _, _, _ | .goto _, _, _ | .refuse _, _, _ => rfl

theorem loopK_round {b : Code} {σ : List SV} {κ : Out → Option ρ} : loopK (lps X) f b σ κ = evB E (run X) (lps X) f b σ (kloop (lps X) f b κ) := by
  unfold loopK
  rw [lps_eq, nextL_eq, ← evB_then]
  congr
  funext o
  obtain ⟨e, σ'⟩ := o
  cases e <;> rfl

theorem from_loop_go : ∀ {c : Code} {p : List Nat} {σ : List SV} {κ : Out → Option ρ}, okPath c p = true →
    evB E (run X) (lps X) f (sub c p) σ (kontAt E (run X) (lps X) f c p κ) = evB E (run X) (lps X) f (sub c (p ++ [0])) σ (kontAt E (run X) (lps X) f c (p ++ [0]) κ)
  | .loop b, [], σ, κ, _ => by
    simp only [sub, List.nil_append, kontAt, evB]
    exact loopK_round
  | .seq a _, 0 :: p, σ, κ, h => by simp only [okPath] at h; simp only [sub, kontAt, List.cons_append]; exact from_loop_go h
  | .seq _ b, 1 :: p, σ, κ, h => by simp only [okPath] at h; simp only [sub, kontAt, List.cons_append]; exact from_loop_go h
  | .cond _ a _, 0 :: p, σ, κ, h => by simp only [okPath] at h; simp only [sub, kontAt, List.cons_append]; exact from_loop_go h
  | .cond _ _ b, 1 :: p, σ, κ, h => by simp only [okPath] at h; simp only [sub, kontAt, List.cons_append]; exact from_loop_go h
  | .block _ b, 0 :: p, σ, κ, h => by simp only [okPath] at h; simp only [sub, kontAt, List.cons_append]; exact from_loop_go h
  | .loop b, 0 :: p, σ, κ, h => by simp only [okPath] at h; simp only [sub, kontAt, List.cons_append]; exact from_loop_go h
  | .skip, _, _, _, h | .region _ _ _, _, _, _, h | .exit _, _, _, _, h | .ret, _, _, _, h | .rangeFunc _ _ _ _, _, _, _, h | .scope _, _, _, _, h | .label _, _, _, _, h | .goto _, _, _, _, h | .refuse _, _, _, _, h => by simp [okPath] at h
  | .seq _ _, [], _, _, h | .cond _ _ _, [], _, _, h | .block _ _, [], _, _, h => by simp [okPath] at h
  | .seq _ _, (_ + 2) :: _, _, _, h | .cond _ _ _, (_ + 2) :: _, _, _, h | .block _ _, (_ + 1) :: _, _, _, h | .loop _, (_ + 1) :: _, _, _, h => by simp [okPath] at h

/-- A round of a loop. -/
theorem from_loop {fn : Func} {p : List Nat} {σ : List SV} (h : okPath (codeOf fn) p = true) : from_ E (run X) (lps X) f fn p σ = from_ E (run X) (lps X) f fn (p ++ [0]) σ := from_loop_go h
end
end Go.Rf

/- Rf, part Pa: words for plain laws. -/
namespace Go.Rf

theorem nn (i : Nat) : nonneg (i : Int) = true := by simp [nonneg]
theorem tn (i : Nat) : Int.toNat (i : Int) = i := Int.toNat_natCast i
theorem blt_t {i n : Nat} (h : i < n) : Nat.blt i n = true := by simpa [Nat.blt_eq] using h
theorem lt_t {i n : Nat} (h : i < n) : decide ((i : Int) < (n : Int)) = true := by simpa using h
theorem lt_f {i n : Nat} (h : n ≤ i) : decide ((i : Int) < (n : Int)) = false := by simpa using h
theorem wrap_id {n : Int} (h1 : -9223372036854775808 ≤ n) (h2 : n ≤ 9223372036854775807) : IntKind.wrap .i64 n = n := by
  have e : ∀ m : Int, (if (IntKind.i64.signed && decide (m ≥ (2 ^ (IntKind.i64.bits - 1) : Int))) = true then m - (2 ^ IntKind.i64.bits : Int) else m) = if (9223372036854775808 : Int) ≤ m then m - 18446744073709551616 else m := fun m => by
    by_cases h : (9223372036854775808 : Int) ≤ m
    · rw [if_pos h, if_pos]
      · rfl
      · show (true && decide (m ≥ (9223372036854775808 : Int))) = true
        simpa using h
    · rw [if_neg h, if_neg]
      show ¬ (true && decide (m ≥ (9223372036854775808 : Int))) = true
      simpa using h
  unfold IntKind.wrap
  refine (e _).trans ?_
  show (if (9223372036854775808 : Int) ≤ n % 18446744073709551616 then n % 18446744073709551616 - 18446744073709551616 else n % 18446744073709551616) = n
  split <;> omega
theorem wrap_succ {i : Nat} (h : i < 9223372036854775807) : IntKind.wrap .i64 ((i : Int) + 1) = ((i + 1 : Nat) : Int) := by
  rw [wrap_id (by omega) (by omega)]; omega
theorem eqI_iff {a b : Int} : eqI a b = decide (a = b) := rfl
theorem eqS_iff {a b : List UInt8} : eqS a b = decide (a = b) := rfl
theorem leI_self (a : Int) : leI a a = true := by simp [leI]
theorem lenOK_t {n : Nat} (h : n ≤ 1099511627776) : lenOK n = true := by simpa [lenOK, Nat.ble_eq] using h
theorem getD_mem {α : Type} {l : List α} {i : Nat} {d : α} (h : i < l.length) : l.getD i d ∈ l := by
  rw [List.getD_eq_getElem?_getD, List.getElem?_eq_getElem h]; exact List.getElem_mem h
theorem drop_getD {α : Type} {l : List α} {i : Nat} {d : α} (h : i < l.length) : l.drop i = l.getD i d :: l.drop (i + 1) := by
  rw [List.getD_eq_getElem?_getD, List.getElem?_eq_getElem h, List.drop_eq_getElem_cons h]; rfl
theorem fine_mem {t : Ty} {x : List t.D} (h : Fine (.sl t) x) : ∀ s ∈ x, Fine t s := fun s hs => by
  obtain ⟨i, hi, e⟩ := List.mem_iff_getElem.1 hs
  refine h.2 i s ?_
  show x[i]? = some s
  rw [List.getElem?_eq_getElem hi, e]
theorem getD_eq {α : Type} {l : List α} {i : Nat} {d : α} {x : α} (h : l[i]? = some x) : l.getD i d = x := by
  rw [List.getD_eq_getElem?_getD, h]; rfl
/-- A list that is written up from its start. -/
theorem written {α : Type} {a b : List α} {i : Nat} (hl : b.length = a.length) (h : ∀ j, j < i → b[j]? = a[j]?) (hi : a.length ≤ i) : b = a := by
  apply List.ext_getElem?
  intro j
  rcases Nat.lt_or_ge j i with hj | hj
  · exact h j hj
  · rw [List.getElem?_eq_none (by omega), List.getElem?_eq_none (by omega)]
theorem written_next {α : Type} {a b : List α} {i : Nat} {d : α} (hl : b.length = a.length) (hi : i < a.length) (h : ∀ j, j < i → b[j]? = a[j]?) : ∀ j, j < i + 1 → (b.set i (a.getD i d))[j]? = a[j]? := fun j hj => by
  rw [List.getElem?_set]
  by_cases e : i = j
  · subst e
    rw [if_pos rfl, if_pos (by omega), List.getD_eq_getElem?_getD, List.getElem?_eq_getElem hi]; rfl
  · rw [if_neg e]; exact h j (by omega)
end Go.Rf

/- Rf, part Pb: sizes, marks and what is held, by type. -/
namespace Go.Rf

def cnt : (t : Ty) → t.D → Nat
  | .str, x => List.length x
  | .sl t, x => List.length x + (List.map (cnt t) x).sum
  | .pair a b, x => cnt a x.1 + cnt b x.2
  | _, _ => 0
def szF (c : Nat) (l : Int) : Int := if (c : Int) ≤ l then l - c else -1
theorem szF_t {c : Nat} {l : Int} (h : (c : Int) ≤ l) : szF c l = l - c := if_pos h
theorem szF_f {c : Nat} {l : Int} (h : l < (c : Int)) : szF c l = -1 := if_neg (by omega)

theorem gen_sz {α : Type} (F : Int → Int → Option (Int × Unit)) (v : List α) (d : α) (f : α → Nat)
    (stop : ∀ l, F l (v.length : Nat) = some (l, ()))
    (step : ∀ (l : Int) (i : Nat), i < v.length → 0 ≤ l → l ≤ 1048576 → F l i = if (f (v.getD i d) : Int) ≤ l then F (l - f (v.getD i d)) ((i + 1 : Nat) : Int) else some (-1, ())) :
    ∀ (n i : Nat) (l : Int), v.length - i = n → i ≤ v.length → 0 ≤ l → l ≤ 1048576 → F l i = some (szF (((v.drop i).map f).sum) l, ())
  | 0, i, l, hn, hi, h0, h1 => by
    have : i = v.length := by omega
    subst this
    rw [stop, List.drop_eq_nil_of_le (Nat.le_refl _)]
    simp [szF, h0]
  | n + 1, i, l, hn, hi, h0, h1 => by
    have hlt : i < v.length := by omega
    rw [step l i hlt h0 h1, drop_getD (d := d) hlt, List.map_cons, List.sum_cons]
    generalize f (v.getD i d) = c
    by_cases h : (c : Int) ≤ l
    · rw [if_pos h, gen_sz F v d f stop step n (i + 1) (l - c) (by omega) (by omega) (by omega) (by omega)]
      generalize ((v.drop (i + 1)).map f).sum = e
      unfold szF
      by_cases h2 : (e : Int) ≤ l - c
      · rw [if_pos h2, if_pos (by omega)]; congr 2; omega
      · rw [if_neg h2, if_neg (by omega)]
    · rw [if_neg h, szF_f (by omega)]

theorem gen_to {α : Type} (F : List α → Int → Option (List α × Unit)) (v : List α) (d : α)
    (stop : ∀ w, w.length = v.length → F w (v.length : Nat) = some (w, ()))
    (step : ∀ (w : List α) (i : Nat), i < v.length → w.length = v.length → F w i = F (w.set i (v.getD i d)) ((i + 1 : Nat) : Int)) :
    ∀ (n i : Nat) (w : List α), v.length - i = n → i ≤ v.length → w.length = v.length → (∀ j, j < i → w[j]? = v[j]?) → F w i = some (v, ())
  | 0, i, w, hn, hi, hl, hw => by
    have : i = v.length := by omega
    subst this
    rw [stop w hl, written hl hw (Nat.le_refl _)]
  | n + 1, i, w, hn, hi, hl, hw => by
    have hlt : i < v.length := by omega
    rw [step w i hlt hl]
    exact gen_to F v d stop step n (i + 1) _ (by omega) (by omega) (by simpa using hl) (written_next hl hlt hw)

theorem gen_eq {α : Type} (F : Int → Option (Bool × Unit)) (v : List α)
    (stop : F (v.length : Nat) = some (true, ()))
    (step : ∀ (i : Nat), i < v.length → F i = F ((i + 1 : Nat) : Int)) :
    ∀ (n i : Nat), v.length - i = n → i ≤ v.length → F i = some (true, ())
  | 0, i, hn, hi => by
    have : i = v.length := by omega
    subst this
    exact stop
  | n + 1, i, hn, hi => by
    rw [step i (by omega)]
    exact gen_eq F v stop step n (i + 1) (by omega) (by omega)

/-! marks -/
def mapM {α : Type} (f : α → Nat → α × Nat) : List α → Nat → List α × Nat
  | [], k => ([], k)
  | x :: xs, k => ((f x k).1 :: (mapM f xs (f x k).2).1, (mapM f xs (f x k).2).2)
def mk_ (mt : Nat → List UInt8) : Bool → (t : Ty) → t.D → Nat → t.D × Nat
  | true, .int _, _, k => ((k : Int), k + 1)
  | true, .str, _, k => (mt k, k + 1)
  | _, .sl t, x, k => mapM (mk_ mt true t) x k
  | c, .pair a b, x, k => (((mk_ mt c a x.1 k).1, (mk_ mt c b x.2 (mk_ mt c a x.1 k).2).1), (mk_ mt c b x.2 (mk_ mt c a x.1 k).2).2)
  | _, _, x, k => (x, k)
def nmk : Bool → (t : Ty) → t.D → Nat
  | true, .int _, _ => 1
  | true, .str, _ => 1
  | _, .sl t, x => (List.map (nmk true t) x).sum
  | c, .pair a b, x => nmk c a x.1 + nmk c b x.2
  | _, _, _ => 0
theorem mapM_snd {α : Type} {f : α → Nat → α × Nat} {m : α → Nat} (h : ∀ x k, (f x k).2 = k + m x) : ∀ (l : List α) (k : Nat), (mapM f l k).2 = k + (l.map m).sum
  | [], k => rfl
  | x :: xs, k => by
    show (mapM f xs (f x k).2).2 = _
    rw [mapM_snd h xs, h, List.map_cons, List.sum_cons]; omega
theorem mk_snd (mt : Nat → List UInt8) : ∀ (c : Bool) (t : Ty) (x : t.D) (k : Nat), (mk_ mt c t x k).2 = k + nmk c t x
  | true, .int _, _, _ => rfl
  | true, .str, _, _ => rfl
  | true, .sl t, x, k => mapM_snd (mk_snd mt true t) x k
  | false, .sl t, x, k => mapM_snd (mk_snd mt true t) x k
  | c, .pair a b, x, k => by
    have e : (mk_ mt c (.pair a b) x k).2 = (mk_ mt c b x.2 (mk_ mt c a x.1 k).2).2 := by cases c <;> rfl
    have e' : nmk c (.pair a b) x = nmk c a x.1 + nmk c b x.2 := by cases c <;> rfl
    rw [e, e', mk_snd mt c b, mk_snd mt c a]; omega
  | true, .bool, _, _ => rfl
  | true, .fn, _, _ => rfl
  | true, .unit, _, _ => rfl
  | true, .ptr _, _, _ => rfl
  | true, .arr _ _, _, _ => rfl
  | false, .int _, _, _ => rfl
  | false, .str, _, _ => rfl
  | false, .bool, _, _ => rfl
  | false, .fn, _, _ => rfl
  | false, .unit, _, _ => rfl
  | false, .ptr _, _, _ => rfl
  | false, .arr _ _, _, _ => rfl

/-- Values that hold marks from one on. -/
def hl_ {α : Type} (f : α → Nat → Option Nat) : List α → Nat → Option Nat
  | [], k => some k
  | x :: xs, k => (f x k).bind fun k => hl_ f xs k
def hd_ (mt : Nat → List UInt8) : Bool → (t : Ty) → t.D → Nat → Option Nat
  | true, .int _, x, k => cond (eqI x (k : Int)) (some (k + 1)) none
  | true, .str, x, k => cond (eqS x (mt k)) (some (k + 1)) none
  | _, .sl t, x, k => hl_ (hd_ mt true t) x k
  | c, .pair a b, x, k => (hd_ mt c a x.1 k).bind fun k => hd_ mt c b x.2 k
  | _, _, _, k => some k
theorem hl_map {α : Type} {f : α → Nat → α × Nat} {g : α → Nat → Option Nat} (h : ∀ x k, g (f x k).1 k = some (f x k).2) : ∀ (l : List α) (k : Nat), hl_ g (mapM f l k).1 k = some (mapM f l k).2
  | [], k => rfl
  | x :: xs, k => by
    show (g (f x k).1 k).bind _ = _
    rw [h x k]
    exact hl_map h xs _
theorem hd_mk (mt : Nat → List UInt8) : ∀ (c : Bool) (t : Ty) (x : t.D) (k : Nat), hd_ mt c t (mk_ mt c t x k).1 k = some (mk_ mt c t x k).2
  | true, .int _, _, k => by
    show cond (eqI (k : Int) (k : Int)) (some (k + 1)) none = some (k + 1)
    simp [eqI]
  | true, .str, _, k => by
    show cond (eqS (mt k) (mt k)) (some (k + 1)) none = some (k + 1)
    simp [eqS]
  | true, .sl t, x, k => hl_map (hd_mk mt true t) x k
  | false, .sl t, x, k => hl_map (hd_mk mt true t) x k
  | c, .pair a b, x, k => by
    have e : hd_ mt c (.pair a b) (mk_ mt c (.pair a b) x k).1 k = (hd_ mt c a (mk_ mt c a x.1 k).1 k).bind fun k' => hd_ mt c b (mk_ mt c b x.2 (mk_ mt c a x.1 k).2).1 k' := by cases c <;> rfl
    rw [e, hd_mk mt c a]
    show hd_ mt c b _ _ = _
    rw [hd_mk mt c b]
    cases c <;> rfl
  | true, .bool, _, _ => rfl
  | true, .fn, _, _ => rfl
  | true, .unit, _, _ => rfl
  | true, .ptr _, _, _ => rfl
  | true, .arr _ _, _, _ => rfl
  | false, .int _, _, _ => rfl
  | false, .str, _, _ => rfl
  | false, .bool, _, _ => rfl
  | false, .fn, _, _ => rfl
  | false, .unit, _, _ => rfl
  | false, .ptr _, _, _ => rfl
  | false, .arr _ _, _, _ => rfl

theorem set_take {α : Type} {l : List α} {i : Nat} {a : α} (h : i < l.length) : (l.set i a).take (i + 1) = l.take i ++ [a] := by
  rw [List.take_add_one, List.take_set_of_le (Nat.le_refl _), List.getElem?_set]
  simp [h]
theorem gen_mark {α : Type} (F : List α → Int → Int → Option (Int × (List α × Unit))) (len : Nat) (d : α) (g : α → Nat → α × Nat) (m : α → Nat) (B : Nat) (hg : ∀ x k, (g x k).2 = k + m x) (Q : α → Prop)
    (stop : ∀ (w : List α) (k : Int), w.length = len → F w k (len : Nat) = some (k, (w, ())))
    (step : ∀ (w : List α) (k i : Nat), w.length = len → i < len → k + m (w.getD i d) ≤ B → Q (w.getD i d) → F w k i = F (w.set i (g (w.getD i d) k).1) ((g (w.getD i d) k).2 : Nat) ((i + 1 : Nat) : Int)) :
    ∀ (n i : Nat) (w : List α) (k : Nat), len - i = n → i ≤ len → w.length = len → k + ((w.drop i).map m).sum ≤ B → (∀ y ∈ w.drop i, Q y) →
      F w k i = some ((((mapM g (w.drop i) k).2 : Nat) : Int), (w.take i ++ (mapM g (w.drop i) k).1, ()))
  | 0, i, w, k, hn, hi, hl, hb, hQ => by
    have : i = len := by omega
    subst this
    rw [stop w k hl, List.drop_eq_nil_of_le (by omega), List.take_of_length_le (by omega)]
    simp [mapM]
  | n + 1, i, w, k, hn, hi, hl, hb, hQ => by
    have hlt : i < w.length := by omega
    rw [drop_getD (d := d) hlt] at hQ
    rw [drop_getD (d := d) hlt, List.map_cons, List.sum_cons] at hb
    rw [step w k i hl (by omega) (by omega) (hQ _ (List.mem_cons_self ..))]
    have e : (w.set i (g (w.getD i d) k).1).drop (i + 1) = w.drop (i + 1) := by
      rw [List.drop_set_of_lt (by omega)]
    rw [gen_mark F len d g m B hg Q stop step n (i + 1) _ _ (by omega) (by omega) (by simpa using hl) (by rw [e, hg]; omega) (by rw [e]; exact fun y hy => hQ y (List.mem_cons_of_mem _ hy)), e, drop_getD (d := d) hlt, set_take hlt]
    simp [mapM]
theorem gen_held {α : Type} (F : Int → Int → Option (Int × Unit)) (v : List α) (d : α) (g : α → Nat → Option Nat) (m : α → Nat) (B : Nat) (hg : ∀ x k k', g x k = some k' → k' = k + m x)
    (stop : ∀ k, F k (v.length : Nat) = some (k, ()))
    (step : ∀ (k i k' : Nat), i < v.length → g (v.getD i d) k = some k' → k' ≤ B → F k i = F k' ((i + 1 : Nat) : Int)) :
    ∀ (n i k k' : Nat), v.length - i = n → i ≤ v.length → k' ≤ B → hl_ g (v.drop i) k = some k' → F k i = some ((k' : Int), ())
  | 0, i, k, k', hn, hi, hb, hh => by
    have : i = v.length := by omega
    subst this
    rw [List.drop_eq_nil_of_le (by omega)] at hh
    rw [stop]
    cases hh; rfl
  | n + 1, i, k, k', hn, hi, hb, hh => by
    have hlt : i < v.length := by omega
    rw [drop_getD (d := d) hlt] at hh
    obtain ⟨k1, h1, h2⟩ := Option.bind_eq_some_iff.1 hh
    have hle : k1 ≤ k' := by
      clear hh h1 hn stop step hb hlt hi
      generalize v.drop (i + 1) = l at h2
      induction l generalizing k1 with
      | nil => cases h2; exact Nat.le_refl _
      | cons x xs ih =>
        obtain ⟨k2, h3, h4⟩ := Option.bind_eq_some_iff.1 h2
        have := hg _ _ _ h3
        have := ih k2 h4
        omega
    rw [step k i k1 hlt h1 (by omega)]
    exact gen_held F v d g m B hg stop step n (i + 1) k1 k' (by omega) (by omega) hb h2
theorem hl_len {α : Type} {g : α → Nat → Option Nat} {m : α → Nat} (h : ∀ x k k', g x k = some k' → k' = k + m x) : ∀ (l : List α) (k k' : Nat), hl_ g l k = some k' → k' = k + (l.map m).sum
  | [], k, k', e => by cases e; rfl
  | x :: xs, k, k', e => by
    obtain ⟨k1, h1, h2⟩ := Option.bind_eq_some_iff.1 e
    have := h _ _ _ h1
    have := hl_len h xs k1 k' h2
    rw [List.map_cons, List.sum_cons]; omega
theorem hd_len (mt : Nat → List UInt8) : ∀ (c : Bool) (t : Ty) (x : t.D) (k k' : Nat), hd_ mt c t x k = some k' → k' = k + nmk c t x
  | true, .int _, x, k, k', h => by
    have h : cond (eqI x (k : Int)) (some (k + 1)) none = some k' := h
    show k' = k + 1
    cases hc : eqI x (k : Int) <;> rw [hc] at h <;> cases h
    rfl
  | true, .str, x, k, k', h => by
    have h : cond (eqS x (mt k)) (some (k + 1)) none = some k' := h
    show k' = k + 1
    cases hc : eqS x (mt k) <;> rw [hc] at h <;> cases h
    rfl
  | true, .sl t, x, k, k', h => hl_len (hd_len mt true t) x k k' h
  | false, .sl t, x, k, k', h => hl_len (hd_len mt true t) x k k' h
  | c, .pair a b, x, k, k', h => by
    have e : hd_ mt c (.pair a b) x k = (hd_ mt c a x.1 k).bind fun k => hd_ mt c b x.2 k := by cases c <;> rfl
    have e' : nmk c (.pair a b) x = nmk c a x.1 + nmk c b x.2 := by cases c <;> rfl
    rw [e] at h
    obtain ⟨k1, h1, h2⟩ := Option.bind_eq_some_iff.1 h
    have := hd_len mt c a _ _ _ h1
    have := hd_len mt c b _ _ _ h2
    omega
  | true, .bool, _, _, _, h => by cases h; rfl
  | true, .fn, _, _, _, h => by cases h; rfl
  | true, .unit, _, _, _, h => by cases h; rfl
  | true, .ptr _, _, _, _, h => by cases h; rfl
  | true, .arr _ _, _, _, _, h => by cases h; rfl
  | false, .int _, _, _, _, h => by cases h; rfl
  | false, .str, _, _, _, h => by cases h; rfl
  | false, .bool, _, _, _, h => by cases h; rfl
  | false, .fn, _, _, _, h => by cases h; rfl
  | false, .unit, _, _, _, h => by cases h; rfl
  | false, .ptr _, _, _, _, h => by cases h; rfl
  | false, .arr _ _, _, _, _, h => by cases h; rfl

/-- how many marks at most -/
def fields : Ty → Nat
  | .int _ => 1
  | .str => 1
  | .pair a b => fields a + fields b
  | _ => 0
def wide : Ty → Nat
  | .sl t => max (fields t) (wide t)
  | .pair a b => max (wide a) (wide b)
  | _ => 0
theorem sum_le {α : Type} {f g : α → Nat} {B C : Nat} : ∀ (l : List α), (∀ x, f x ≤ C + B * g x) → C ≤ B → (l.map f).sum ≤ B * (l.length + (l.map g).sum)
  | [], _, _ => by simp
  | x :: xs, h, hc => by
    have h1 := h x
    have h2 := sum_le xs h hc
    simp only [List.map_cons, List.sum_cons, List.length_cons]
    have : B * (xs.length + 1 + (g x + (xs.map g).sum)) = B + B * g x + B * (xs.length + (xs.map g).sum) := by
      simp only [Nat.mul_add]; omega
    omega
theorem nmk_le (B : Nat) : ∀ (c : Bool) (t : Ty) (x : t.D), wide t ≤ B → nmk c t x ≤ (if c then fields t else 0) + B * cnt t x
  | true, .int _, _, _ => by show 1 ≤ 1 + _; omega
  | true, .str, _, _ => by show 1 ≤ 1 + _; omega
  | true, .sl t, x, h => by
    have h : max (fields t) (wide t) ≤ B := h
    have := sum_le (f := nmk true t) (g := cnt t) x (fun y => nmk_le B true t y (by omega)) (B := B) (C := fields t) (by omega)
    show (List.map (nmk true t) x).sum ≤ 0 + B * (List.length x + (List.map (cnt t) x).sum)
    omega
  | false, .sl t, x, h => by
    have h : max (fields t) (wide t) ≤ B := h
    have := sum_le (f := nmk true t) (g := cnt t) x (fun y => nmk_le B true t y (by omega)) (B := B) (C := fields t) (by omega)
    show (List.map (nmk true t) x).sum ≤ 0 + B * (List.length x + (List.map (cnt t) x).sum)
    omega
  | c, .pair a b, x, h => by
    have h : max (wide a) (wide b) ≤ B := h
    have h1 := nmk_le B c a x.1 (by omega)
    have h2 := nmk_le B c b x.2 (by omega)
    have e' : nmk c (.pair a b) x = nmk c a x.1 + nmk c b x.2 := by cases c <;> rfl
    have e : cnt (.pair a b) x = cnt a x.1 + cnt b x.2 := rfl
    have e2 : fields (.pair a b) = fields a + fields b := rfl
    rw [e', e, e2, Nat.mul_add]
    cases c
    · simp only [if_neg (show ¬ (false = true) by decide)] at *; omega
    · simp only [if_true] at *; omega
  | true, .bool, _, _ => Nat.zero_le _
  | true, .fn, _, _ => Nat.zero_le _
  | true, .unit, _, _ => Nat.zero_le _
  | true, .ptr _, _, _ => Nat.zero_le _
  | true, .arr _ _, _, _ => Nat.zero_le _
  | false, .int _, _, _ => Nat.zero_le _
  | false, .str, _, _ => Nat.zero_le _
  | false, .bool, _, _ => Nat.zero_le _
  | false, .fn, _, _ => Nat.zero_le _
  | false, .unit, _, _ => Nat.zero_le _
  | false, .ptr _, _, _ => Nat.zero_le _
  | false, .arr _ _, _, _ => Nat.zero_le _
/-- how many cells -/
def lens : (t : Ty) → t.D → Nat
  | .sl t, x => List.length x + (List.map (lens t) x).sum
  | .pair a b, x => lens a x.1 + lens b x.2
  | _, _ => 0
theorem sum_le2 {α : Type} {f g : α → Nat} : ∀ (l : List α), (∀ x, f x ≤ g x) → (l.map f).sum ≤ (l.map g).sum
  | [], _ => Nat.le_refl _
  | x :: xs, h => by
    have := h x
    have := sum_le2 xs h
    simp only [List.map_cons, List.sum_cons]; omega
theorem lens_cnt : ∀ (t : Ty) (x : t.D), lens t x ≤ cnt t x
  | .sl t, x => by
    have := sum_le2 (f := lens t) (g := cnt t) x (lens_cnt t)
    show List.length x + _ ≤ List.length x + _
    omega
  | .pair a b, x => by
    have := lens_cnt a x.1
    have := lens_cnt b x.2
    show lens a x.1 + lens b x.2 ≤ cnt a x.1 + cnt b x.2
    omega
  | .int _, _ => Nat.zero_le _
  | .bool, _ => Nat.zero_le _
  | .str, _ => Nat.zero_le _
  | .fn, _ => Nat.zero_le _
  | .unit, _ => Nat.zero_le _
  | .ptr _, _ => Nat.zero_le _
  | .arr _ _, _ => Nat.zero_le _
theorem mapM_lens {α : Type} {f : α → Nat → α × Nat} {m : α → Nat} (h : ∀ x k, m (f x k).1 = m x) : ∀ (l : List α) (k : Nat), (mapM f l k).1.length = l.length ∧ ((mapM f l k).1.map m).sum = (l.map m).sum
  | [], _ => ⟨rfl, rfl⟩
  | x :: xs, k => by
    obtain ⟨h1, h2⟩ := mapM_lens h xs (f x k).2
    refine ⟨congrArg (· + 1) h1, ?_⟩
    show m (f x k).1 + ((mapM f xs (f x k).2).1.map m).sum = _
    rw [h, h2]; rfl
theorem lens_mk (mt : Nat → List UInt8) : ∀ (c : Bool) (t : Ty) (x : t.D) (k : Nat), lens t (mk_ mt c t x k).1 = lens t x
  | true, .sl t, x, k => by
    obtain ⟨h1, h2⟩ := mapM_lens (m := lens t) (lens_mk mt true t) x k
    show List.length (mapM (mk_ mt true t) x k).1 + _ = List.length x + _
    exact (congr (congrArg HAdd.hAdd h1) h2)
  | false, .sl t, x, k => by
    obtain ⟨h1, h2⟩ := mapM_lens (m := lens t) (lens_mk mt true t) x k
    show List.length (mapM (mk_ mt true t) x k).1 + _ = List.length x + _
    exact (congr (congrArg HAdd.hAdd h1) h2)
  | c, .pair a b, x, k => by
    have h1 := lens_mk mt c a x.1 k
    have h2 := lens_mk mt c b x.2 (mk_ mt c a x.1 k).2
    have e : lens (.pair a b) (mk_ mt c (.pair a b) x k).1 = lens a (mk_ mt c a x.1 k).1 + lens b (mk_ mt c b x.2 (mk_ mt c a x.1 k).2).1 := by cases c <;> rfl
    rw [e, h1, h2]; rfl
  | true, .int _, _, _ => rfl
  | true, .str, _, _ => rfl
  | true, .bool, _, _ => rfl
  | true, .fn, _, _ => rfl
  | true, .unit, _, _ => rfl
  | true, .ptr _, _, _ => rfl
  | true, .arr _ _, _, _ => rfl
  | false, .int _, _, _ => rfl
  | false, .str, _, _ => rfl
  | false, .bool, _, _ => rfl
  | false, .fn, _, _ => rfl
  | false, .unit, _, _ => rfl
  | false, .ptr _, _, _ => rfl
  | false, .arr _ _, _, _ => rfl
theorem sum_mem {α : Type} {f : α → Nat} : ∀ {l : List α} {y : α}, y ∈ l → f y ≤ (l.map f).sum
  | x :: xs, y, h => by
    simp only [List.map_cons, List.sum_cons]
    rcases List.mem_cons.1 h with e | e
    · subst e; omega
    · have := sum_mem (f := f) e
      omega
theorem cnt_mem {t : Ty} {x : List t.D} {i : Nat} {d : t.D} (h : i < x.length) : cnt t (x.getD i d) ≤ cnt (.sl t) x := by
  have := sum_mem (f := cnt t) (getD_mem (d := d) h)
  show _ ≤ List.length x + (List.map (cnt t) x).sum
  omega
theorem lens_in {t : Ty} {x : List t.D} {y : t.D} (h : y ∈ x) : lens t y ≤ lens (.sl t) x := by
  have := sum_mem (f := lens t) h
  show _ ≤ List.length x + (List.map (lens t) x).sum
  omega
theorem lens_mem {t : Ty} {x : List t.D} {i : Nat} {d : t.D} (h : i < x.length) : lens t (x.getD i d) ≤ lens (.sl t) x := lens_in (getD_mem (d := d) h)
theorem szF_add {a c : Nat} {l : Int} (h : (a : Int) ≤ l) : szF c (l - a) = szF (a + c) l := by
  unfold szF
  by_cases h2 : (c : Int) ≤ l - a
  · rw [if_pos h2, if_pos (by omega)]; omega
  · rw [if_neg h2, if_neg (by omega)]
theorem sum_zero {α : Type} {f : α → Nat} : ∀ (l : List α), (∀ x, f x = 0) → (l.map f).sum = 0
  | [], _ => rfl
  | x :: xs, h => by
    simp only [List.map_cons, List.sum_cons]
    rw [h x, sum_zero xs h]
theorem nlt0 (k : Nat) : decide ((k : Int) < 0) = false := decide_eq_false (by omega)
theorem bind_cond {α β : Type} {b : Bool} {a : α} {f : α → Option β} {c : β} (h : (cond b (some a) none).bind f = some c) : b = true ∧ f a = some c := by
  cases b with
  | true => exact ⟨rfl, h⟩
  | false => cases h
theorem cond_none {α : Type} {b : Bool} {a c : α} (h : cond b (some a) none = some c) : b = true ∧ some a = some c := by
  cases b with
  | true => exact ⟨rfl, h⟩
  | false => cases h
/-- the first place from one on -/
def idxF {α : Type} (p : α → Bool) : List α → Nat → Int
  | [], _ => -1
  | x :: xs, i => cond (p x) (i : Int) (idxF p xs (i + 1))
theorem idxF_any {α : Type} (p : α → Bool) : ∀ (l : List α) (i : Nat), decide (0 ≤ idxF p l i) = l.any p
  | [], _ => rfl
  | x :: xs, i => by
    show decide (0 ≤ cond (p x) (i : Int) (idxF p xs (i + 1))) = (p x || xs.any p)
    cases p x with
    | true => exact decide_eq_true (by simp only [cond_true]; omega)
    | false => simp only [cond_false, Bool.false_or]; exact idxF_any p xs (i + 1)
theorem gen_idx {α : Type} (F : Int → Int → Option (Int × Unit)) (v : List α) (d : α) (p : α → Bool)
    (stop : ∀ a, F a (v.length : Nat) = some (-1, ()))
    (step : ∀ (a : Int) (i : Nat), i < v.length → F a i = cond (p (v.getD i d)) (some ((i : Int), ())) (F i ((i + 1 : Nat) : Int))) :
    ∀ (n i : Nat) (a : Int), v.length - i = n → i ≤ v.length → F a i = some (idxF p (v.drop i) i, ())
  | 0, i, a, hn, hi => by
    have : i = v.length := by omega
    subst this
    rw [stop, List.drop_eq_nil_of_le (Nat.le_refl _)]; rfl
  | n + 1, i, a, hn, hi => by
    rw [step a i (by omega), drop_getD (d := d) (by omega), gen_idx F v d p stop step n (i + 1) i (by omega) (by omega)]
    show _ = some (cond (p (v.getD i d)) (i : Int) (idxF p (v.drop (i + 1)) (i + 1)), ())
    cases p (v.getD i d) <;> rfl
theorem all_any {α : Type} (p : α → Bool) (l : List α) : (!l.any fun x => !p x) = l.all p := by
  simp [List.all_eq_not_any_not]
theorem gs {α : Type} {l : List α} {i : Nat} {a d : α} (h : i < l.length) : (l.set i a).getD i d = a := by
  rw [List.getD_eq_getElem?_getD, List.getElem?_set]; simp [h]
theorem ss {α : Type} {l : List α} {i : Nat} {a b : α} : (l.set i a).set i b = l.set i b := List.set_set ..
def plainEq : Ty → Bool
  | .int _ => true
  | .bool => true
  | .str => true
  | .unit => true
  | .pair a b => plainEq a && plainEq b
  | _ => false
/-! alike -/
noncomputable def eqC {α : Type} (a b : α) : Bool := @decide (a = b) (Classical.propDecidable _)
theorem eqC_t {α : Type} {a b : α} (h : a = b) : eqC a b = true := @decide_eq_true _ (Classical.propDecidable _) h
theorem eqC_f {α : Type} {a b : α} (h : ¬ a = b) : eqC a b = false := @decide_eq_false _ (Classical.propDecidable _) h
theorem eqC_iff {α : Type} {a b : α} : eqC a b = true ↔ a = b := by
  constructor
  · intro h
    by_cases e : a = b
    · exact e
    · rw [eqC_f e] at h; cases h
  · exact eqC_t
theorem eqC_congr {α γ : Type} {a b : α} {c d : γ} (h : a = b ↔ c = d) : eqC a b = eqC c d := by
  by_cases e : a = b
  · rw [eqC_t e, eqC_t (h.1 e)]
  · rw [eqC_f e, eqC_f (fun e' => e (h.2 e'))]
theorem eqC_dec {α : Type} [DecidableEq α] {a b : α} : decide (a = b) = eqC a b := by
  by_cases e : a = b
  · rw [eqC_t e, decide_eq_true e]
  · rw [eqC_f e, decide_eq_false e]
theorem eqC_I {a b : Int} : eqI a b = eqC a b := eqC_dec
theorem eqC_S {a b : List UInt8} : eqS a b = eqC a b := eqC_dec
theorem eqC_B {a b : Bool} : eqB a b = eqC a b := by
  by_cases e : a = b
  · rw [eqC_t e]; subst e; simp [eqB]
  · rw [eqC_f e]; simp [eqB, e]
theorem eqC_unit {a b : Unit} : eqC a b = true := eqC_t rfl
theorem eqC_pair {α γ : Type} {a b : α × γ} : (eqC a.1 b.1 && eqC a.2 b.2) = eqC a b := by
  rw [Bool.eq_iff_iff, Bool.and_eq_true, eqC_iff, eqC_iff, eqC_iff]
  exact ⟨fun h => Prod.ext h.1 h.2, fun h => ⟨by rw [h], by rw [h]⟩⟩
theorem eqC_cons {α : Type} {a b : α} {as bs : List α} : eqC (a :: as) (b :: bs) = (eqC a b && eqC as bs) := by
  rw [Bool.eq_iff_iff, Bool.and_eq_true, eqC_iff, eqC_iff, eqC_iff]
  exact ⟨fun h => by cases h; exact ⟨rfl, rfl⟩, fun h => by rw [h.1, h.2]⟩
theorem eqD_eqC : ∀ {t : Ty} (h : plainEq t = true) (x y : t.D), eqD t x y = eqC x y
  | .int _, _, x, y => eqC_I
  | .bool, _, x, y => eqC_B
  | .str, _, x, y => eqC_S
  | .unit, _, x, y => (eqC_t (Subsingleton.elim (α := Unit) x y)).symm
  | .pair a b, h, x, y => by
    have h : (plainEq a && plainEq b) = true := h
    rw [Bool.and_eq_true] at h
    show (eqD a x.1 y.1 && eqD b x.2 y.2) = _
    rw [eqD_eqC h.1, eqD_eqC h.2]; exact eqC_pair
  | .fn, h, _, _ => by cases h
  | .sl _, h, _, _ => by cases h
  | .ptr _, h, _, _ => by cases h
  | .arr _ _, h, _, _ => by cases h
theorem gen_eq2 {α β : Type} (F : β → Int → Option (Bool × Unit)) (nx : Nat → β) (x y : List α) (d : α) (q : α → α → Bool) (hq : ∀ a b, q a b = eqC a b) (hl : x.length = y.length)
    (stop : ∀ s, F s (x.length : Nat) = some (true, ()))
    (step : ∀ (s : β) (i : Nat), i < x.length → F s i = cond (q (x.getD i d) (y.getD i d)) (F (nx i) ((i + 1 : Nat) : Int)) (some (false, ()))) :
    ∀ (n i : Nat) (s : β), x.length - i = n → i ≤ x.length → F s i = some (eqC (x.drop i) (y.drop i), ())
  | 0, i, s, hn, hi => by
    have : i = x.length := by omega
    subst this
    rw [stop, List.drop_eq_nil_of_le (Nat.le_refl _), List.drop_eq_nil_of_le (by omega), eqC_t rfl]
  | n + 1, i, s, hn, hi => by
    rw [step s i (by omega), drop_getD (l := x) (d := d) (by omega), drop_getD (l := y) (d := d) (by omega), eqC_cons, hq, gen_eq2 F nx x y d q hq hl stop step n (i + 1) _ (by omega) (by omega)]
    cases eqC (x.getD i d) (y.getD i d) <;> rfl
def all2 {α γ : Type} (p : α → γ → Bool) : List α → List γ → Bool
  | a :: as, b :: bs => p a b && all2 p as bs
  | [], [] => true
  | _, _ => false
theorem gen_all2 {α β γ : Type} (F : β → Int → Option (Bool × Unit)) (nx : Nat → β) (x : List α) (y : List γ) (d : α) (e : γ) (p : α → γ → Bool) (hl : x.length = y.length)
    (stop : ∀ s, F s (x.length : Nat) = some (true, ()))
    (step : ∀ (s : β) (i : Nat), i < x.length → F s i = cond (p (x.getD i d) (y.getD i e)) (F (nx i) ((i + 1 : Nat) : Int)) (some (false, ()))) :
    ∀ (n i : Nat) (s : β), x.length - i = n → i ≤ x.length → F s i = some (all2 p (x.drop i) (y.drop i), ())
  | 0, i, s, hn, hi => by
    have : i = x.length := by omega
    subst this
    rw [stop, List.drop_eq_nil_of_le (Nat.le_refl _), List.drop_eq_nil_of_le (by omega)]; rfl
  | n + 1, i, s, hn, hi => by
    rw [step s i (by omega), drop_getD (l := x) (d := d) (by omega), drop_getD (l := y) (d := e) (by omega), gen_all2 F nx x y d e p hl stop step n (i + 1) _ (by omega) (by omega)]
    show _ = some (p (x.getD i d) (y.getD i e) && _, ())
    cases p (x.getD i d) (y.getD i e) <;> rfl
theorem all2_len {α γ : Type} {p : α → γ → Bool} : ∀ {x : List α} {y : List γ}, ¬ x.length = y.length → all2 p x y = false
  | [], [], h => absurd rfl h
  | [], _ :: _, _ => rfl
  | _ :: _, [], _ => rfl
  | a :: as, b :: bs, h => by
    show (p a b && all2 p as bs) = false
    rw [all2_len (x := as) (y := bs) (by simpa using h), Bool.and_false]
theorem all2_eq {α : Type} {p : α → α → Bool} : ∀ {x y : List α}, (∀ a ∈ x, ∀ b ∈ y, p a b = eqC a b) → all2 p x y = eqC x y
  | [], [], _ => (eqC_t rfl).symm
  | [], _ :: _, _ => (eqC_f (by simp)).symm
  | _ :: _, [], _ => (eqC_f (by simp)).symm
  | a :: as, b :: bs, h => by
    show (p a b && all2 p as bs) = _
    rw [h a (List.mem_cons_self ..) b (List.mem_cons_self ..), all2_eq (fun c hc d hd => h c (List.mem_cons_of_mem _ hc) d (List.mem_cons_of_mem _ hd)), eqC_cons]
theorem eqC_len {α : Type} {x y : List α} (h : ¬ x.length = y.length) : eqC x y = false := eqC_f fun e => h (by rw [e])
theorem eqI_len {n m : Nat} : eqI (n : Int) (m : Int) = decide (n = m) := by
  rw [eqI_iff]; exact decide_eq_decide.2 (by omega)
theorem cond_not {α : Type} (b : Bool) {x y : α} : cond (!b) x y = cond b y x := by cases b <;> rfl
/-- A loop that puts together. -/
theorem gen_acc {α γ ρ : Type} (F : List γ → Int → Option ρ) (K : List γ → Option ρ) (v : List α) (d : α) (g : α → List γ) (A B : Nat) (hg : ∀ x ∈ v, (g x).length ≤ B)
    (stop : ∀ acc, acc.length ≤ A + B * v.length → F acc (v.length : Nat) = K acc)
    (step : ∀ (acc : List γ) (i : Nat), i < v.length → acc.length ≤ A + B * i → F acc i = F (acc ++ g (v.getD i d)) ((i + 1 : Nat) : Int)) :
    ∀ (n i : Nat) (acc : List γ), v.length - i = n → i ≤ v.length → acc.length ≤ A + B * i → F acc i = K (acc ++ ((v.drop i).map g).flatten)
  | 0, i, acc, hn, hi, ha => by
    have : i = v.length := by omega
    subst this
    rw [stop acc ha, List.drop_eq_nil_of_le (Nat.le_refl _)]; simp
  | n + 1, i, acc, hn, hi, ha => by
    have hlt : i < v.length := by omega
    rw [step acc i hlt ha, gen_acc F K v d g A B hg stop step n (i + 1) _ (by omega) (by omega) (by
      have := hg _ (getD_mem (d := d) hlt)
      rw [List.length_append, Nat.mul_succ]; omega), drop_getD (d := d) hlt]
    simp
theorem flatten_one {α γ : Type} (g : α → γ) : ∀ (l : List α), (l.map fun x => [g x]).flatten = l.map g
  | [] => rfl
  | x :: xs => by simp [flatten_one g xs]
end Go.Rf
