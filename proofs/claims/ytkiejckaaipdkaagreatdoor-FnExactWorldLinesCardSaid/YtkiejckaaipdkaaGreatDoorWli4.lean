/- Rf, part Yd: contracts of strconv.Itoa and strings.Join. -/
import Derived.Test.YtkiejckaaipdkaaGreatDoorWli3
import Derived.Shelf.Strconv.Itoa3
import Derived.Shelf.Strings.OnBuilder
import Derived.Lib.AppendIntMem
set_option linter.unusedVariables false
set_option linter.unusedSimpArgs false
namespace Go.Rf
set_option linter.unusedSectionVars false
variable [T : Laid]
open Go.Shelf Go.RowKit Go.Lib Go.Proofs
set_option linter.unusedVariables false
set_option linter.unusedSimpArgs false
section
variable {E : Env} {ρ : Ren} {w w' : World} {S : Nat → Prop} {β : Key → Option Nat} {keep : List Nat} {mv : List (Nat × Nat)} {ms : List Mode} {ax : List (List Value)}

/-- Nothing that lay has changed. -/
theorem below_step (hs : Sane w S β) (h : Below w.heap.size w w') : Sane w' S β ∧ Step w S β w' S β :=
  ⟨⟨hs.inj, hs.sep, fun k b hk => Nat.lt_of_lt_of_le (hs.live k b hk) h.size, fun b hb => Nat.lt_of_lt_of_le (hs.liveS b hb) h.size, hs.tabs fun b hb => ⟨hb, h.block b (hs.liveS b hb)⟩⟩,
    ⟨h.size, fun b hb _ => h.block b hb, fun k b hk => .inl ⟨k, hk⟩, fun _ h => h, fun _ h => .inl h, ⟨h.os, h.tape, h.output⟩⟩⟩

/-- A text is handed back. -/
theorem ret_str (hs : Sane w S β) (h : Below w.heap.size w w') {t : List UInt8} (hio : IoAt S β w' ms ax 0 .unit ()) :
    Ret ⟨ms, 1, .pair .str .unit, .sh, keep, mv⟩ (t, ()) ax w S β (.string ⟨⟨t⟩⟩) w' := by
  obtain ⟨h1, h2⟩ := below_step hs h
  refine ⟨S, β, [[.string ⟨⟨t⟩⟩]], h1, h2, ?_, rfl, hio⟩
  simp only [ResAt]
  refine ⟨?_, trivial⟩
  refine VRel_sh.2 ?_
  simp [Rd]

def strOf (d : Dyn) : Option (List UInt8) := castD d.t .str d.x
theorem strOf_some {d : Dyn} {s : List UInt8} (h : strOf d = some s) : d = ⟨.str, s⟩ := by
  obtain ⟨t, x⟩ := d
  obtain ⟨e, h⟩ := castD_some h
  cases e; cases h; rfl
/-- strconv.Itoa. -/
def itoaH : List Dyn → Option (Ty.pair .str .unit).D
  | [a] => (i64Of a).bind fun n => cond (decide (-9223372036854775808 ≤ n) && decide (n ≤ 9223372036854775807)) (some (itoa n, ())) none
  | _ => none
theorem itoaH_some {ds : List Dyn} {x : (Ty.pair .str .unit).D} (h : itoaH ds = some x) : ∃ n : Int, ds = [⟨.int .i64, n⟩] ∧ (-9223372036854775808 ≤ n ∧ n ≤ 9223372036854775807) ∧ x = (itoa n, ()) := by
  unfold itoaH at h
  split at h
  · rename_i a
    obtain ⟨n, h1, h⟩ := Option.bind_eq_some_iff.1 h
    rw [i64Of_some h1]
    cases hb : (decide (-9223372036854775808 ≤ n) && decide (n ≤ 9223372036854775807)) with
    | false => rw [hb] at h; cases h
    | true =>
      rw [hb] at h
      simp only [Bool.and_eq_true, decide_eq_true_eq] at hb
      exact ⟨n, rfl, hb, (Option.some.inj h).symm⟩
  · cases h
theorem itoa_fn {f : FuncId} {fn : Func} {g : Nat} (L : LaysM.n171 E.P ρ) (hf : ρ.f 171 = f) (hfn : E.P.funcs[f]? = some fn) (hnm : (fn.name == "runtime.NumGoroutine") = false) (hbd : fn.body.isNone = false)
    (hg : E.P.globalNamed "internal/strconv.uint64pow10" = some g) (hT : (g, (pow10Tab.map fun z => Value.int .u64 z).toArray) ∈ T.tabs) (n : Int) (h0 : -9223372036854775808 ≤ n) (h1 : n ≤ 9223372036854775807) :
    FnOKc E ⟨[.ro (.int .i64)], 1, .pair .str .unit, .sh, keep, mv⟩ f [⟨.int .i64, n⟩] (itoa n, ()) := by
  intro w S β cs hs ha
  match cs, ha with
  | [c1], ha =>
    simp only [ArgsAt] at ha
    obtain ⟨_, hv, _⟩ := ha
    simp only [Rd] at hv
    subst hv
    refine .inl ⟨fn, hfn, hnm, hbd, ?_⟩
    obtain ⟨e, fz, hb⟩ := (hs.tab _ hT).2
    have hcall := Any.strconv_Itoa L n h0 h1 w (by unfold TabIs World.var?; rw [hg]; simp only [Option.bind_some, hb])
    rw [hf] at hcall
    refine hcall.mono ?_
    rintro e w' ⟨rfl, k, os, rfl⟩
    exact ret_str hs (Lib.below_grow _ _ (Nat.le_refl _) _ _) (by simp [IoAt])
  | [], ha => simp [ArgsAt] at ha
  | _ :: _ :: _, ha => simp [ArgsAt] at ha

/-- strings.Join. -/
def joinH : List Dyn → Option (Ty.pair .str .unit).D
  | [a, b] => (slOf .str a).bind fun xs => (strOf b).bind fun sep => cond (Nat.ble xs.length 1099511627776 && Nat.ble (join xs sep).length 1099511627776) (some (join xs sep, ())) none
  | _ => none
theorem joinH_some {ds : List Dyn} {x : (Ty.pair .str .unit).D} (h : joinH ds = some x) : ∃ (xs : List (List UInt8)) (sep : List UInt8), ds = [⟨.sl .str, xs⟩, ⟨.str, sep⟩] ∧ xs.length ≤ 1099511627776 ∧ (join xs sep).length ≤ 1099511627776 ∧ x = (join xs sep, ()) := by
  unfold joinH at h
  split at h
  · rename_i a b
    obtain ⟨xs, h1, h⟩ := Option.bind_eq_some_iff.1 h
    obtain ⟨sep, h2, h⟩ := Option.bind_eq_some_iff.1 h
    rw [slOf_some h1, strOf_some h2]
    cases hb : (Nat.ble xs.length 1099511627776 && Nat.ble (join xs sep).length 1099511627776) with
    | false => rw [hb] at h; cases h
    | true =>
      rw [hb] at h
      simp only [Bool.and_eq_true, Nat.ble_eq] at hb
      exact ⟨xs, sep, rfl, hb.1, hb.2, (Option.some.inj h).symm⟩
  · cases h
theorem join_fn {f : FuncId} {fn : Func} (L : Lays.n156 E.P ρ) (X : Builder.Extra E.P ρ) (hf : ρ.f 156 = f) (hfn : E.P.funcs[f]? = some fn) (hnm : (fn.name == "runtime.NumGoroutine") = false) (hbd : fn.body.isNone = false)
    (xs : List (List UInt8)) (sep : List UInt8) (h1 : xs.length ≤ 1099511627776) (h2 : (join xs sep).length ≤ 1099511627776) :
    FnOKc E ⟨[.ro (.sl .str), .ro .str], 1, .pair .str .unit, .sh, keep, mv⟩ f [⟨.sl .str, xs⟩, ⟨.str, sep⟩] (join xs sep, ()) := by
  intro w S β cs hs ha
  match cs, ha with
  | [c1, c2], ha =>
    simp only [ArgsAt] at ha
    obtain ⟨_, hv, _, hv2, _⟩ := ha
    simp only [Rd] at hv hv2
    subst hv2
    obtain ⟨ad, cap, rfl, hl, hv⟩ := hv
    refine .inl ⟨fn, hfn, hnm, hbd, ?_⟩
    rcases hv with hv | ⟨b, o, cs, rfl, hS, hB, hz, hel⟩
    · subst hv
      have hcall := Any.strings_Join_none L X ad cap ⟨⟨sep⟩⟩ w
      rw [hf] at hcall
      refine hcall.mono ?_
      rintro e w' ⟨rfl, rfl⟩
      exact ret_str (t := []) hs (Below.refl _ _) (by simp [IoAt])
    · have hmap : (xs.map fun x : List UInt8 => (⟨⟨x⟩⟩ : ByteArray)).map (·.data.toList) = xs := by
        rw [List.map_map]
        exact List.map_id _
      have hcall := Any.strings_Join L X b o cap (xs.map fun x : List UInt8 => (⟨⟨x⟩⟩ : ByteArray)) ⟨⟨sep⟩⟩ w (fun j x hx => by
          rw [List.getElem?_map, Option.map_eq_some_iff] at hx
          obtain ⟨y, hy, rfl⟩ := hx
          have := hel j y hy
          simp only [Rd, Ty.size, Nat.mul_one] at this
          have h0 : (win cs.toList (o + j) 1)[0]? = some (Value.string ⟨⟨y⟩⟩) := by rw [this]; rfl
          rw [win_get, if_pos (by omega), Nat.add_zero] at h0
          exact cell_blk hB h0) (hs.liveS b hS) (by rw [List.length_map]; omega) (by rw [List.length_map]; exact hl) (by rw [hmap]; exact Nat.le_trans h2 (by decide))
      rw [hmap, hf, List.length_map] at hcall
      refine hcall.mono ?_
      rintro e w' ⟨rfl, hw⟩
      exact ret_str (t := join xs sep) hs hw (by simp [IoAt])
  | [], ha | [_], ha => simp [ArgsAt] at ha
  | _ :: _ :: _ :: _, ha => simp [ArgsAt] at ha
end
end Go.Rf
