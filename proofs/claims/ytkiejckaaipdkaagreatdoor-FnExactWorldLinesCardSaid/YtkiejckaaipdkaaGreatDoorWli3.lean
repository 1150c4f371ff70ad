/- Rf, part Yc: contracts of slices.Delete and slices.Insert. -/
import Derived.Test.YtkiejckaaipdkaaGreatDoorWli2
set_option linter.unusedVariables false
set_option linter.unusedSimpArgs false
namespace Go.Rf
set_option linter.unusedSectionVars false
variable [T : Laid]
open Go.Shelf Go.RowKit Go.Lib Go.Proofs
set_option linter.unusedVariables false
set_option linter.unusedSimpArgs false
section
variable {P : Program} {S S' : Nat → Prop} {β : Key → Option Nat} {H : Nat → Option (List Value)} {w w' : World} {τ : Ty}

theorem Elems.flat (hf : scal τ = true) {ys : List τ.D} {cy : List Value} (h : Elems S w τ ys cy) : Elems S' w' τ ys cy := ⟨h.len, h.one, fun j v hv => Rd_scal hf (h.get j v hv)⟩
theorem Elems.take {ys : List τ.D} {cy : List Value} (h : Elems S w τ ys cy) {i : Nat} (hi : i ≤ ys.length) : Elems S w τ (ys.take i) (cy.take (i * τ.size)) := by
  have hle : i * τ.size ≤ ys.length * τ.size := Nat.mul_le_mul_right _ hi
  refine .of (by rw [List.length_take, List.length_take, h.len, Nat.min_eq_left hle, Nat.min_eq_left hi]) fun j v hv => ?_
  unfold nth at hv
  rw [List.getElem?_take] at hv
  split at hv
  · rename_i hj
    have hlt : (j + 1) * τ.size ≤ i * τ.size := Nat.mul_le_mul_right _ hj
    rw [Nat.add_mul, Nat.one_mul] at hlt
    have e : win (cy.take (i * τ.size)) (j * τ.size) τ.size = win cy (j * τ.size) τ.size := by
      apply List.ext_getElem?
      intro t
      rw [win_get, win_get]
      split
      · rw [List.getElem?_take, if_pos (by omega)]
      · rfl
    rw [e]; exact h.get j v hv
  · cases hv
theorem Elems.drop {ys : List τ.D} {cy : List Value} (h : Elems S w τ ys cy) (i : Nat) : Elems S w τ (ys.drop i) (cy.drop (i * τ.size)) := by
  refine .of (by rw [List.length_drop, List.length_drop, h.len, Nat.sub_mul]) fun j v hv => ?_
  unfold nth at hv
  rw [List.getElem?_drop] at hv
  have := h.get (i + j) v hv
  have e : win (cy.drop (i * τ.size)) (j * τ.size) τ.size = win cy ((i + j) * τ.size) τ.size := by
    apply List.ext_getElem?
    intro t
    rw [win_get, win_get, List.getElem?_drop, Nat.add_mul, Nat.add_assoc]
  rw [e]; exact this
theorem Elems.append {xs ys : List τ.D} {cx cy : List Value} (hx : Elems S w τ xs cx) (hy : Elems S w τ ys cy) : Elems S w τ (xs ++ ys : List τ.D) (cx ++ cy) := by
  refine .of (by rw [List.length_append, List.length_append, hx.len, hy.len, Nat.add_mul]) fun j v hv => ?_
  rcases nth_append hv with ⟨h1, h2⟩ | ⟨h1, h2⟩
  · have hlt : (j + 1) * τ.size ≤ xs.length * τ.size := Nat.mul_le_mul_right _ h1
    rw [Nat.add_mul, Nat.one_mul] at hlt
    have e : win (cx ++ cy) (j * τ.size) τ.size = win cx (j * τ.size) τ.size := by
      apply List.ext_getElem?
      intro t
      rw [win_get, win_get]
      split
      · rw [List.getElem?_append_left (by rw [hx.len]; omega)]
      · rfl
    rw [e]; exact hx.get j v h2
  · have hle : xs.length * τ.size ≤ j * τ.size := Nat.mul_le_mul_right _ h1
    have e : win (cx ++ cy) (j * τ.size) τ.size = win cy ((j - xs.length) * τ.size) τ.size := by
      apply List.ext_getElem?
      intro t
      rw [win_get, win_get, List.getElem?_append_right (by rw [hx.len]; omega), hx.len, Nat.sub_mul]
      split
      · congr 1; omega
      · rfl
    rw [e]; exact hy.get _ v h2
theorem win_eq {c d : List Value} {o n : Nat} (hd : d.length = n) (h : ∀ t, t < n → c[o + t]? = d[t]?) : win c o n = d := by
  apply List.ext_getElem?
  intro t
  rw [win_get]
  split
  · exact h t (by assumption)
  · rw [List.getElem?_eq_none (by omega)]

/-- What is owned, its elements being flat. -/
theorem own_flat {key : Key} {xs : List τ.D} {c : List Value} (h : VRel S β H w key (.sl τ) (.own .sh) xs c) :
    ∃ ad cap, c = [.slice ad xs.length cap] ∧ xs.length ≤ cap ∧ (cap = 0 ∨ ∃ b o cs, ad = some ⟨b, o, none⟩ ∧ β key = some b ∧ OBlk (isU8 τ) w b cs ∧ o + cap * τ.size ≤ cs.size ∧ Elems S w τ xs (win cs.toList o (xs.length * τ.size))) := by
  simp only [VRel, Fl.base] at h
  obtain ⟨_, ad, cap, rfl, hl, h⟩ := h
  refine ⟨ad, cap, rfl, hl, h.imp id ?_⟩
  rintro ⟨b, o, cs, rfl, hk, hB, hz, hel⟩
  have hle : xs.length * τ.size ≤ cap * τ.size := Nat.mul_le_mul_right _ hl
  refine ⟨b, o, cs, rfl, hk, hB, hz, .of (win_len (by rw [Array.length_toList]; exact Nat.le_trans (Nat.add_le_add_left hle o) hz)) fun j v hv => ?_⟩
  have hj : j < List.length xs := by unfold nth at hv; exact (List.getElem?_eq_some_iff.1 hv).1
  have hlt : (j + 1) * τ.size ≤ List.length xs * τ.size := Nat.mul_le_mul_right _ hj
  rw [Nat.add_mul, Nat.one_mul] at hlt
  rw [win_win (by omega)]
  have := hel j v hv
  rw [VRel_sh] at this
  exact this
theorem own_of {key : Key} {xs : List τ.D} {cx : List Value} {b o cap : Nat} {cs : Array Value} (hl : xs.length ≤ cap) (hk : β key = some b) (hB : OBlk (isU8 τ) w b cs) (hz : o + cap * τ.size ≤ cs.size) (hx : Elems S w τ xs cx) (hw : win cs.toList o (xs.length * τ.size) = cx) :
    VRel S β H w key (.sl τ) (.own .sh) xs [.slice (some ⟨b, o, none⟩) xs.length cap] := by
  simp only [VRel, Fl.base]
  refine ⟨by simp [Pins, Fl.pins], some ⟨b, o, none⟩, cap, rfl, hl, .inr ⟨b, o, cs, rfl, hk, hB, hz, fun j v hv => ?_⟩⟩
  have hj : j < List.length xs := by unfold nth at hv; exact (List.getElem?_eq_some_iff.1 hv).1
  have hlt : (j + 1) * τ.size ≤ List.length xs * τ.size := Nat.mul_le_mul_right _ hj
  rw [Nat.add_mul, Nat.one_mul] at hlt
  rw [VRel_sh, ← win_win (o := o) (n := xs.length * τ.size) (by omega), hw]
  exact hx.get j v hv
theorem cell_blk {b o : Nat} {cs : Array Value} (hB : Blk w b cs) {v : Value} (h : cs.toList[o]? = some v) : w.cell? ⟨b, o, none⟩ = some v := by
  obtain ⟨e, fz, hb⟩ := hB
  rw [Array.getElem?_toList] at h
  simp only [World.cell?, hb]
  simpa using h
theorem frozen_blk {q : Bool} {b o : Nat} {cs : Array Value} (hB : OBlk q w b cs) (ho : o < cs.size) : w.frozen? ⟨b, o, none⟩ = false := by
  obtain ⟨e, fz, hb, hf, _⟩ := hB
  have := hf o ho
  simp only [World.frozen?, hb]
  simp only [Bool.and_eq_false_iff, decide_eq_false_iff_not]
  by_cases h : fz.1 ≤ o
  · right; intro h2; exact this ⟨h, h2⟩
  · left; exact h
end

/-- A function's contract, its configuration being told. -/
def FnOKc (E : Env) (c : FCfg) (f : FuncId) (ds : List Dyn) (x : c.rt.D) : Prop :=
  ∀ (w : World) (S : Nat → Prop) (β : Key → Option Nat) (cs : List (List Value)), Sane w S β → ArgsAt S β w c.modes ds cs 0 → CallRes E.P f (argVals ds cs).toArray w (Ret c x cs w S β)
def slOf (τ : Ty) (d : Dyn) : Option (List τ.D) := castD d.t (.sl τ) d.x
def i64Of (d : Dyn) : Option Int := castD d.t (.int .i64) d.x
theorem slOf_some {τ : Ty} {d : Dyn} {xs : List τ.D} (h : slOf τ d = some xs) : d = ⟨.sl τ, xs⟩ := by
  obtain ⟨t, x⟩ := d
  obtain ⟨e, h⟩ := castD_some h
  cases e; cases h; rfl
theorem i64Of_some {d : Dyn} {n : Int} (h : i64Of d = some n) : d = ⟨.int .i64, n⟩ := by
  obtain ⟨t, x⟩ := d
  obtain ⟨e, h⟩ := castD_some h
  cases e; cases h; rfl

section
variable {E : Env} {ρ : Ren} {i0 : TypeInfo} {zr : Value} {τ : Ty}

/-- slices.Delete of at least one element. -/
def delH (τ : Ty) : List Dyn → Option (Ty.pair (.sl τ) .unit).D
  | [a, b, c] => (slOf τ a).bind fun xs => (i64Of b).bind fun i => (i64Of c).bind fun j => cond (decide (0 ≤ i) && (decide (i < j) && decide (j ≤ (xs.length : Int)))) (some ((xs.take i.toNat ++ xs.drop j.toNat : List τ.D), ())) none
  | _ => none
theorem delH_some {ds : List Dyn} {x : (Ty.pair (.sl τ) .unit).D} (h : delH τ ds = some x) : ∃ (xs : List τ.D) (i j : Nat), ds = [⟨.sl τ, xs⟩, ⟨.int .i64, (i : Int)⟩, ⟨.int .i64, (j : Int)⟩] ∧ i < j ∧ j ≤ xs.length ∧ x = ((xs.take i ++ xs.drop j : List τ.D), ()) := by
  unfold delH at h
  split at h
  · rename_i a b c
    obtain ⟨xs, h1, h⟩ := Option.bind_eq_some_iff.1 h
    obtain ⟨i, h2, h⟩ := Option.bind_eq_some_iff.1 h
    obtain ⟨j, h3, h⟩ := Option.bind_eq_some_iff.1 h
    rw [slOf_some h1, i64Of_some h2, i64Of_some h3]
    cases hb : (decide (0 ≤ i) && (decide (i < j) && decide (j ≤ (xs.length : Int)))) with
    | false => rw [hb] at h; cases h
    | true =>
      rw [hb] at h
      simp only [cond_true] at h
      have h := Option.some.inj h
      simp only [Bool.and_eq_true, decide_eq_true_eq] at hb
      refine ⟨xs, i.toNat, j.toNat, ?_, by omega, by omega, h.symm⟩
      rw [Int.toNat_of_nonneg hb.1, Int.toNat_of_nonneg (by omega)]
  · cases h

theorem delete_fn {f : FuncId} {fn : Func} (L : SlLaysE0.n45 E.P ρ) (hf : ρ.f 45 = f) (hfn : E.P.funcs[f]? = some fn) (hnm : (fn.name == "runtime.NumGoroutine") = false) (hbd : fn.body.isNone = false) (hi0 : E.P.info? (ρ.t 23) = some i0) (v23 : ∀ w, (zeroValue (ρ.t 23)).run E.P w = .ok zr w) (hz1 : i0.size = τ.size) (hzk : zr.cells.size = τ.size)
    (hz1c : ∀ v ∈ zr.cells.toList, v.oneCell' = true) (z23 : ∀ w, (Go.sizeOf (ρ.t 23)).run E.P w = .ok τ.size w) (hfl : scal τ = true) {keep : List Nat} {mv : List (Nat × Nat)} (xs : List τ.D) (i j : Nat) (hij : i < j) (hj : j ≤ xs.length) :
    FnOKc E ⟨[.mv (.sl τ) (.own .sh), .ro (.int .i64), .ro (.int .i64)], 1, .pair (.sl τ) .unit, .pr (.own .sh) .sh, keep, mv⟩ f [⟨.sl τ, xs⟩, ⟨.int .i64, (i : Int)⟩, ⟨.int .i64, (j : Int)⟩] ((xs.take i ++ xs.drop j : List τ.D), ()) := by
  intro w S β cs hs ha
  match cs, ha with
  | [c1, c2, c3], ha =>
    simp only [ArgsAt] at ha
    obtain ⟨_, _, hv, _, h2, _, h3, _⟩ := ha
    simp only [Rd] at h2 h3
    subst h2; subst h3
    obtain ⟨ad, cap, rfl, hl, hb⟩ := own_flat hv
    rcases hb with hb | ⟨b, o, cs, rfl, hk, hB, hz, hel⟩
    · omega
    refine .inl ⟨fn, hfn, hnm, hbd, ?_⟩
    have hle : xs.length * τ.size ≤ cap * τ.size := Nat.mul_le_mul_right _ hl
    obtain ⟨CX, hCX⟩ : ∃ CX, CX = win cs.toList o (xs.length * τ.size) := ⟨_, rfl⟩
    rw [← hCX] at hel
    have hget : ∀ t, t < xs.length * τ.size → cs.toList[o + t]? = CX[t]? := fun t ht => by rw [hCX, win_get, if_pos ht]
    have hcall := delete_k L i0 hi0 zr v23 τ.size hz1 hzk hz1c z23 b o cap xs.length i j CX w hel.len
      (fun t v hv => cell_blk hB.blk (by
        have ht : t < xs.length * τ.size := by rw [← hel.len]; exact (List.getElem?_eq_some_iff.1 hv).1
        rw [hget t ht]; exact hv))
      (fun t ht => frozen_blk hB (by omega)) hel.one hij hj hl
    rw [hf] at hcall
    refine hcall.mono ?_
    rintro e w' ⟨rfl, rfl⟩
    obtain ⟨eb, fz, hbl, hfz, hq⟩ := hB
    have hjk : j * τ.size ≤ xs.length * τ.size := Nat.mul_le_mul_right _ hj
    have hik : i * τ.size ≤ j * τ.size := Nat.mul_le_mul_right _ (by omega)
    have hdl : (CX.drop (j * τ.size)).length = (xs.length - j) * τ.size := by rw [List.length_drop, hel.len, Nat.sub_mul]
    have hlt : (xs.length - j) * τ.size + j * τ.size = xs.length * τ.size := by rw [← Nat.add_mul]; congr 1; omega
    have hlu : (i + (xs.length - j)) * τ.size = i * τ.size + (xs.length - j) * τ.size := Nat.add_mul _ _ _
    have hlz : (xs.length - (i + (xs.length - j))) * τ.size + (i + (xs.length - j)) * τ.size = xs.length * τ.size := by rw [← Nat.add_mul]; congr 1; omega
    obtain ⟨cs1, k1, k2, k3, k4, k5⟩ := setCells_chg (vs := CX.drop (j * τ.size)) (o := o + i * τ.size) (w := w.drew) (b := b) (cs := cs) hbl (by rw [hdl]; omega)
    have htl : cs.toList.length = cs.size := Array.length_toList
    have htl1 : cs1.toList.length = cs1.size := Array.length_toList
    have hs1 : cs1.size = cs.size := by
      have := congrArg List.length k2
      rw [splice_len (by rw [hdl, htl]; omega)] at this
      simpa using this
    obtain ⟨Z, hZ⟩ : ∃ Z, Z = (Builtin.zeroCells zr.cells (xs.length - (i + (xs.length - j)))).toList := ⟨_, rfl⟩
    have hZl : Z.length = (xs.length - (i + (xs.length - j))) * τ.size := by rw [hZ]; simp [Builtin.zeroCells, hzk]
    rw [← hZ]
    obtain ⟨cs2, q1, q2, q3, q4, q5⟩ := setCells_chg (vs := Z) (o := o + (i + (xs.length - j)) * τ.size) (b := b) k1 (by rw [hZl, hs1]; omega)
    have hs2 : cs2.size = cs.size := by
      have := congrArg List.length q2
      rw [splice_len (by rw [hZl, htl1]; omega)] at this
      rw [← hs1]; simpa using this
    have hsize := q4.trans k4
    have hother : ∀ b', b' ≠ b → (((w.drew.setCells b (o + i * τ.size) (CX.drop (j * τ.size))).setCells b (o + (i + (xs.length - j)) * τ.size) Z).heap[b']? = w.heap[b']?) := fun b' hb' => (q3 b' hb').trans (k3 b' hb')
    have hlen : (xs.take i ++ xs.drop j).length = i + (xs.length - j) := by rw [List.length_append, List.length_take, List.length_drop]; omega
    refine ⟨S, β, [[.slice (some ⟨b, o, none⟩) (i + (xs.length - j)) cap]], ⟨hs.inj, hs.sep, fun k b hb => by rw [hsize]; exact hs.live k b hb, fun b hb => by rw [hsize]; exact hs.liveS b hb, hs.tabs fun b' hb' => ⟨hb', hother b' (fun e => hs.sep _ _ hk (e ▸ hb'))⟩⟩,
      ⟨Nat.le_of_eq hsize.symm, fun b' hb' hk' => hother b' (fun e => hk' [0] (by rw [e]; exact hk)), fun k b hb => .inl ⟨k, hb⟩, fun _ h => h, fun _ h => .inl h, (show SameOut w w.drew from ⟨rfl, rfl, rfl⟩).trans (k5.trans q5)⟩, ?_, rfl, ?_⟩
    · simp only [ResAt]
      refine ⟨?_, trivial⟩
      have hx : Elems S ((w.drew.setCells b (o + i * τ.size) (CX.drop (j * τ.size))).setCells b (o + (i + (xs.length - j)) * τ.size) Z) τ (xs.take i ++ xs.drop j : List τ.D) (CX.take (i * τ.size) ++ CX.drop (j * τ.size)) :=
        ((hel.take (by omega)).append (hel.drop j)).flat hfl
      have := own_of (β := β) (H := noH) (key := [2 * 0]) (b := b) (o := o) (cap := cap) (cs := cs2) (by rw [hlen]; omega) hk ⟨eb, fz, q1, by rw [hs2]; exact hfz, hq⟩ (by rw [hs2]; exact hz) hx (by
        rw [hlen]
        refine win_eq (by rw [List.length_append, List.length_take, hdl, hel.len]; omega) fun t ht => ?_
        rw [q2, splice_get (by rw [hZl, htl1]; omega), if_pos (by omega), k2, splice_get (by rw [hdl, htl]; omega)]
        by_cases h1 : t < i * τ.size
        · rw [if_pos (by omega), List.getElem?_append_left (by rw [List.length_take, hel.len]; omega), List.getElem?_take, if_pos h1]
          exact hget t (by omega)
        · rw [if_neg (by omega), if_pos (by rw [hdl]; omega), List.getElem?_append_right (by rw [List.length_take, hel.len]; omega), List.length_take, hel.len, Nat.min_eq_left (by omega)]
          congr 1; omega)
      rw [hlen] at this
      exact this
    · simp [IoAt, tailTy, tailD]
  | [], ha | [_], ha | [_, _], ha => simp [ArgsAt] at ha
  | _ :: _ :: _ :: _ :: _, ha => simp [ArgsAt] at ha
end

/-- What the library answers of two blocks, the second one being one's own. -/
theorem run_overlaps_own {P : Program} (w : World) (tS tR e : TypeId) (ht : P.underlying tS = some (.slice e)) (size : Nat) (hz : ∀ w, (Go.sizeOf e).run P w = .ok size w)
    (a b : Addr) (la ca lb cb : Nat) (hne : a.block ≠ b.block) {csv : Array Value} (ha : Blk w a.block csv) (h0 : csv.size ≠ 0) {csb : Array Value} (hb : OBlk false w b.block csb) :
    (Extern.SlicesOverlaps.overlaps #[tS, tS] #[tR] #[.slice (some a) la ca, .slice (some b) lb cb]).run P w = .ok (.bool false) w := by
  obtain ⟨ea, fa, ha⟩ := ha
  obtain ⟨eb, fb, hb, _, hq⟩ := hb
  have hq : fb = (0, 0) := by simpa using hq
  subst hq
  have hnb : (a.block != b.block) = true := by simpa using hne
  have hnb' : (a.block == b.block) = false := by simpa using hne
  have hsa : w.shape? a.block = some (ea, csv.size) := by simp only [World.shape?, ha]
  have hsb : w.shape? b.block = some (eb, csb.size) := by simp only [World.shape?, hb]
  have hfb : w.frozen? b = false := by simp only [World.frozen?, hb]; simp
  have hfe : w.frozen? { block := b.block, off := csb.size } = false := by simp only [World.frozen?, hb]; simp
  change Sem.run P (α := Value) (do
    let some t := (#[tS, tS] : Array TypeId)[0]? | stuck "slices.overlaps: no parameter types"
    let .slice elem ← underlying t | stuck "slices.overlaps: slice type expected"
    let size ← sizeOf elem
    match (some a : Option Addr), (some b : Option Addr) with
    | some a, some b =>
      if la = 0 ∨ lb = 0 ∨ size = 0 then pure (Value.bool false)
      else if a.block != b.block && (← frozen a) && (← frozen b) then unsupported .addressObserved
      else do
        if a.block != b.block then do
          noView a; noView b
          if ← mayBeOne a b then return Value.bool ((← choose (.extern "sameAddr.stringBytes" 2)) == 1)
        pure (Value.bool (a.block == b.block && a.off < b.off + lb * size && b.off < a.off + la * size))
    | _, _ => pure (Value.bool false)) w = _
  by_cases hz0 : la = 0 ∨ lb = 0 ∨ size = 0
  · simp [run_underlying ht, hz, hz0]
  · obtain ⟨n, hn⟩ : ∃ n, csv.size = n + 1 := ⟨csv.size - 1, by omega⟩
    rw [hn] at hsa
    cases hfa : w.frozen? a <;> cases hfae : w.frozen? { block := a.block, off := n + 1 } <;>
      simp [run_underlying ht, hz, hz0, hnb, hnb', frozen, noView, viewAt, mayBeOne, stringish, shape, Sem.run, hsa, hsb, hfa, hfae, hfb, hfe]

section
variable {E : Env} {ρ : Ren} {i0 : TypeInfo} {zr : Value} {τ : Ty} {w w' : World} {S : Nat → Prop} {β : Key → Option Nat} {keep : List Nat} {mv : List (Nat × Nat)} {ms : List Mode} {ax : List (List Value)}

/-- The answer lies in the caller's own block. -/
theorem ret_own (hs : Sane w S β) {b o cap : Nat} {cs cs' : Array Value} {eb : TypeId} {fz : Nat × Nat} (hk : β [0] = some b) (hB : w.heap[b]? = some (.cells cs eb fz)) (hO : OBlk (isU8 τ) w b cs)
    (h' : w'.heap[b]? = some (.cells cs' eb fz)) (hcs : cs'.size = cs.size) (hoth : ∀ b', b' ≠ b → w'.heap[b']? = w.heap[b']?) (hsize : w'.heap.size = w.heap.size) (hout : SameOut w w')
    {xs : List τ.D} {cx : List Value} (hl : xs.length ≤ cap) (hz : o + cap * τ.size ≤ cs.size) (hx : Elems S w' τ xs cx) (hw : win cs'.toList o (xs.length * τ.size) = cx) (hio : IoAt S β w' ms ax 0 .unit ()) :
    Ret ⟨ms, 1, .pair (.sl τ) .unit, .pr (.own .sh) .sh, keep, mv⟩ (xs, ()) ax w S β (.slice (some ⟨b, o, none⟩) xs.length cap) w' := by
  obtain ⟨e', fz', hB', hfz, hq⟩ := hO
  rw [hB] at hB'; cases hB'
  refine ⟨S, β, [[.slice (some ⟨b, o, none⟩) xs.length cap]], ⟨hs.inj, hs.sep, fun k b hb => by rw [hsize]; exact hs.live k b hb, fun b hb => by rw [hsize]; exact hs.liveS b hb, hs.tabs fun b' hb' => ⟨hb', hoth b' (fun e => hs.sep _ _ hk (e ▸ hb'))⟩⟩,
    ⟨Nat.le_of_eq hsize.symm, fun b' hb' hk' => hoth b' (fun e => hk' [0] (by rw [e]; exact hk)), fun k b hb => .inl ⟨k, hb⟩, fun _ h => h, fun _ h => .inl h, hout⟩, ?_, rfl, hio⟩
  simp only [ResAt]
  exact ⟨own_of hl hk ⟨eb, fz, h', by rw [hcs]; exact hfz, hq⟩ (by rw [hcs]; exact hz) hx hw, trivial⟩

/-- The answer lies in a block that is new. -/
theorem ret_new (hs : Sane w S β) {cap : Nat} {cs' : Array Value} {eb : TypeId}
    (h' : w'.heap[w.heap.size]? = some (.cells cs' eb (0, 0))) (hoth : ∀ b', b' < w.heap.size → w'.heap[b']? = w.heap[b']?) (hsize : w'.heap.size = w.heap.size + 1) (hout : SameOut w w')
    {xs : List τ.D} {cx : List Value} (hl : xs.length ≤ cap) (hz : cap * τ.size ≤ cs'.size) (hx : Elems S w' τ xs cx) (hw : win cs'.toList 0 (xs.length * τ.size) = cx) (hio : ∀ β', IoAt S β' w' ms ax 0 .unit ()) :
    Ret ⟨ms, 1, .pair (.sl τ) .unit, .pr (.own .sh) .sh, keep, mv⟩ (xs, ()) ax w S β (.slice (some ⟨w.heap.size, 0, none⟩) xs.length cap) w' := by
  refine ⟨S, fun k => if k = [0] then some w.heap.size else none, [[.slice (some ⟨w.heap.size, 0, none⟩) xs.length cap]], ⟨?_, ?_, ?_, fun b hb => by rw [hsize]; exact Nat.lt_succ_of_lt (hs.liveS b hb), hs.tabs fun b' hb' => ⟨hb', hoth b' (hs.liveS b' hb')⟩⟩,
    ⟨by omega, fun b' hb' _ => hoth b' hb', ?_, fun _ h => h, fun _ h => .inl h, hout⟩, ?_, rfl, hio _⟩
  · intro k k' b h1 h2
    split at h1 <;> split at h2 <;> simp_all
  · intro k b h1 h2
    split at h1 <;> simp at h1
    have := hs.liveS b h2
    omega
  · intro k b h1
    split at h1 <;> simp at h1
    omega
  · intro k b h1
    split at h1 <;> simp at h1
    exact .inr (by omega)
  · simp only [ResAt]
    exact ⟨own_of hl (by simp) ⟨eb, (0, 0), h', fun _ _ => by simp, .inr rfl⟩ (by omega) hx hw, trivial⟩
end

theorem isSome_blk {w : World} {b o : Nat} {cs : Array Value} (hB : Blk w b cs) (h : o < cs.size) : (w.cell? ⟨b, o, none⟩).isSome = true := by
  rw [cell_blk hB (v := cs[o]) (by rw [Array.getElem?_toList, Array.getElem?_eq_getElem h])]; rfl
theorem zc_len {zr : Value} {k n : Nat} (h : zr.cells.size = k) : (Builtin.zeroCells zr.cells n).toList.length = n * k := by simp [Builtin.zeroCells, h]
theorem zc_size {zr : Value} {k n : Nat} (h : zr.cells.size = k) : (Builtin.zeroCells zr.cells n).size = n * k := by simp [Builtin.zeroCells, h]
theorem al_at (w : World) (o : Obj) : (w.alloc o).heap[w.heap.size]? = some o := by
  show (w.heap.push o)[w.heap.size]? = some o
  simp
theorem al_past {w : World} {b : Nat} (h : b < w.heap.size) (o : Obj) : (w.alloc o).heap[b]? = w.heap[b]? := by
  show (w.heap.push o)[b]? = w.heap[b]?
  rw [Array.getElem?_push, if_neg (Nat.ne_of_lt h)]
theorem al_size (w : World) (o : Obj) : (w.alloc o).heap.size = w.heap.size + 1 := by
  show (w.heap.push o).size = _
  simp
theorem out_drew {w w' : World} (h : SameOut w.drew w') : SameOut w w' := (show SameOut w w.drew from ⟨rfl, rfl, rfl⟩).trans h

section
variable {E : Env} {ρ : Ren} {i0 : TypeInfo} {zr : Value} {τ : Ty}
/-- What an insertion leans on beside: the library's question after a shared memory. -/
def OvL (P : Program) (ρ : Ren) : Prop := ∃ fn, P.funcs[ρ.f 29]? = some fn ∧ (fn.name == "runtime.NumGoroutine") = false ∧ fn.body.isNone = true ∧ Extern.findNext fn = none ∧ Extern.find fn = some (Extern.SlicesOverlaps.overlaps #[ρ.t 24, ρ.t 24] #[ρ.t 4])
/-- slices.Insert of at least one element. -/
def insH (τ : Ty) : List Dyn → Option (Ty.pair (.sl τ) .unit).D
  | [a, b, c] => (slOf τ a).bind fun xs => (i64Of b).bind fun i => (slOf τ c).bind fun vs => cond (decide (0 ≤ i) && (decide (i ≤ (xs.length : Int)) && (Nat.blt 0 vs.length && Nat.ble (xs.length + vs.length) 1099511627776))) (some ((xs.take i.toNat ++ vs ++ xs.drop i.toNat : List τ.D), ())) none
  | _ => none
theorem insH_some {ds : List Dyn} {x : (Ty.pair (.sl τ) .unit).D} (h : insH τ ds = some x) : ∃ (xs vs : List τ.D) (i : Nat), ds = [⟨.sl τ, xs⟩, ⟨.int .i64, (i : Int)⟩, ⟨.sl τ, vs⟩] ∧ i ≤ xs.length ∧ 0 < vs.length ∧ xs.length + vs.length ≤ 1099511627776 ∧ x = ((xs.take i ++ vs ++ xs.drop i : List τ.D), ()) := by
  unfold insH at h
  split at h
  · rename_i a b c
    obtain ⟨xs, h1, h⟩ := Option.bind_eq_some_iff.1 h
    obtain ⟨i, h2, h⟩ := Option.bind_eq_some_iff.1 h
    obtain ⟨vs, h3, h⟩ := Option.bind_eq_some_iff.1 h
    rw [slOf_some h1, i64Of_some h2, slOf_some h3]
    cases hb : (decide (0 ≤ i) && (decide (i ≤ (xs.length : Int)) && (Nat.blt 0 vs.length && Nat.ble (xs.length + vs.length) 1099511627776))) with
    | false => rw [hb] at h; cases h
    | true =>
      rw [hb] at h
      simp only [cond_true] at h
      have h := Option.some.inj h
      simp only [Bool.and_eq_true, decide_eq_true_eq, Nat.blt_eq, Nat.ble_eq] at hb
      refine ⟨xs, vs, i.toNat, ?_, by omega, hb.2.2.1, hb.2.2.2, h.symm⟩
      rw [Int.toNat_of_nonneg hb.1]
  · cases h

theorem insert_fn {f : FuncId} {fn : Func} (L : InsL E.P ρ i0 zr τ.size) (hO : OvL E.P ρ) (hf : ρ.f 22 = f) (hfn : E.P.funcs[f]? = some fn) (hnm : (fn.name == "runtime.NumGoroutine") = false) (hbd : fn.body.isNone = false) (hfl : scal τ = true) (hu : isU8 τ = false)
    {keep : List Nat} {mv : List (Nat × Nat)} (xs vs : List τ.D) (i : Nat) (hi : i ≤ xs.length) (hm : 0 < vs.length) (hbig : xs.length + vs.length ≤ 1099511627776) :
    FnOKc E ⟨[.mv (.sl τ) (.own .sh), .ro (.int .i64), .ro (.sl τ)], 1, .pair (.sl τ) .unit, .pr (.own .sh) .sh, keep, mv⟩ f [⟨.sl τ, xs⟩, ⟨.int .i64, (i : Int)⟩, ⟨.sl τ, vs⟩] ((xs.take i ++ vs ++ xs.drop i : List τ.D), ()) := by
  intro w S β cs hs ha
  match cs, ha with
  | [c1, c2, c3], ha =>
    simp only [ArgsAt] at ha
    obtain ⟨_, _, hv, _, h2, _, h3, _⟩ := ha
    simp only [Rd] at h2 h3
    subst h2
    obtain ⟨ad, cap, rfl, hl, hb⟩ := own_flat hv
    obtain ⟨av, vc, rfl, hlv, hbv⟩ := h3
    rcases hbv with hbv | ⟨vb, vo, csv, rfl, hSv, hBv, hzv, helv⟩
    · rw [hbv] at hm; exact absurd hm (Nat.lt_irrefl 0)
    refine .inl ⟨fn, hfn, hnm, hbd, ?_⟩
    have hpos := L.pos
    have hle : xs.length * τ.size ≤ cap * τ.size := Nat.mul_le_mul_right _ hl
    have hmk : τ.size ≤ vs.length * τ.size := Nat.le_mul_of_pos_left _ hm
    have hik : i * τ.size ≤ xs.length * τ.size := Nat.mul_le_mul_right _ hi
    have hnm : (xs.length + vs.length) * τ.size = xs.length * τ.size + vs.length * τ.size := Nat.add_mul _ _ _
    have him : (i + vs.length) * τ.size = i * τ.size + vs.length * τ.size := Nat.add_mul _ _ _
    obtain ⟨VS, hVS⟩ : ∃ VS, VS = win csv.toList vo (vs.length * τ.size) := ⟨_, rfl⟩
    have hev : Elems S w τ vs VS := by
      rw [hVS]
      refine .of (win_len (by rw [Array.length_toList]; exact hzv)) fun j v hv => ?_
      have hj : j < List.length vs := by unfold nth at hv; exact (List.getElem?_eq_some_iff.1 hv).1
      have hlt : (j + 1) * τ.size ≤ List.length vs * τ.size := Nat.mul_le_mul_right _ hj
      rw [Nat.add_mul, Nat.one_mul] at hlt
      rw [win_win (by omega)]
      exact helv j v hv
    have hvs : ∀ j v, VS[j]? = some v → w.cell? ⟨vb, vo + j, none⟩ = some v := fun j v hj => cell_blk hBv (by
      rw [hVS, win_get] at hj
      split at hj
      · exact hj
      · cases hj)
    have hown : ∃ CX, Elems S w τ xs CX ∧ (∀ a, ad = some a → ∀ j v, CX[j]? = some v → w.cell? (a.add j) = some v) ∧ (ad = none → xs.length = 0) := by
      rcases hb with hb | ⟨b, o, cs, rfl, hk, hB, hz, hel⟩
      · have h0 : xs = [] := List.length_eq_zero_iff.1 (by omega)
        subst h0
        exact ⟨[], .of (by simp) fun j v hv => by simp [nth] at hv, fun _ _ j v hj => by simp at hj, fun _ => rfl⟩
      · refine ⟨_, hel, fun a ha j v hj => ?_, fun h => by cases h⟩
        cases ha
        rw [Addr.add_lit]
        refine cell_blk hB.blk ?_
        rw [win_get] at hj
        split at hj
        · exact hj
        · cases hj
    have hx' : (xs.take i ++ vs ++ xs.drop i).length = xs.length + vs.length := by simp only [List.length_append, List.length_take, List.length_drop]; omega
    by_cases hroom : xs.length + vs.length ≤ cap
    · rcases hb with hb | ⟨b, o, cs, rfl, hk, hB, hz, hel⟩
      · omega
      clear hown
      have hrk : (xs.length + vs.length) * τ.size ≤ cap * τ.size := Nat.mul_le_mul_right _ hroom
      obtain ⟨CX, hCX⟩ : ∃ CX, CX = win cs.toList o (xs.length * τ.size) := ⟨_, rfl⟩
      rw [← hCX] at hel
      have hget : ∀ t, t < xs.length * τ.size → cs.toList[o + t]? = CX[t]? := fun t ht => by rw [hCX, win_get, if_pos ht]
      have hcx : ∀ j v, CX[j]? = some v → w.cell? ⟨b, o + j, none⟩ = some v := fun j v hj => cell_blk hB.blk (by
        have ht : j < xs.length * τ.size := by rw [← hel.len]; exact (List.getElem?_eq_some_iff.1 hj).1
        rw [hget j ht]; exact hj)
      have hbv : vb ≠ b := fun e => hs.sep [0] b hk (e ▸ hSv)
      by_cases hin : i = xs.length
      · subst hin
        have hcall := insert_end_room L b o xs.length cap vb vo vs.length vc VS w hm hroom (by omega) hev.len
          (fun j hj => isSome_blk hB.blk (by omega)) (fun j hj => frozen_blk hB (by omega)) hvs hev.one
        rw [hf] at hcall
        refine hcall.mono ?_
        rintro e w' ⟨rfl, rfl⟩
        have hO' := hB
        obtain ⟨eb, fz, hbl, _, _⟩ := hB
        obtain ⟨cs1, k1, k2, k3, k4, k5⟩ := setCells_chg (vs := VS) (o := o + xs.length * τ.size) (b := b) hbl (by rw [hev.len]; omega)
        have htl : cs.toList.length = cs.size := Array.length_toList
        have hs1 : cs1.size = cs.size := by
          have := congrArg List.length k2
          rw [splice_len (by rw [hev.len, htl]; omega)] at this
          simpa using this
        have hxs : xs.take xs.length ++ vs ++ xs.drop xs.length = xs ++ vs := by simp
        have hr := ret_own (τ := τ) (keep := keep) (mv := mv) (ms := [.mv (.sl τ) (.own .sh), .ro (.int .i64), .ro (.sl τ)]) (ax := [[Value.slice (some ⟨b, o, none⟩) xs.length cap], [.int .i64 (xs.length : Int)], [Value.slice (some ⟨vb, vo, none⟩) vs.length vc]]) (xs := (xs ++ vs : List τ.D)) (cap := cap) hs hk hbl hO' k1 hs1 k3 k4 k5 (by rw [List.length_append]; exact hroom) hz ((hel.append hev).flat hfl)
          (by
            rw [List.length_append, hnm]
            refine win_eq (by rw [List.length_append, hel.len, hev.len]) fun t ht => ?_
            rw [k2, splice_get (by rw [hev.len, htl]; omega)]
            by_cases h1 : t < xs.length * τ.size
            · rw [if_pos (by omega), List.getElem?_append_left (by rw [hel.len]; omega)]
              exact hget t h1
            · rw [if_neg (by omega), if_pos (by rw [hev.len]; omega), List.getElem?_append_right (by rw [hel.len]; omega), hel.len]
              congr 1; omega)
          (by simp [IoAt])
        rw [hxs]
        rw [List.length_append] at hr
        exact hr
      · have hin' : i < xs.length := by omega
        have hcall := insert_shift L b o xs.length cap i vb vo vs.length vc CX VS w hin' hm hroom (by omega) hbv hel.len hev.len hcx
          (fun j hj => isSome_blk hB.blk (by omega)) (fun j hj => frozen_blk hB (by omega)) hvs hel.one hev.one
          (fun lb cb => by
            obtain ⟨g, g1, g2, g3, g4, g5⟩ := hO
            rw [run_callFunc_extern g1 g2 g3 g4 g5, run_overlaps_own w (ρ.t 24) (ρ.t 4) (ρ.t 9) L.t24 τ.size L.z9 ⟨vb, vo, none⟩ ⟨b, o + (i + vs.length) * τ.size, none⟩ vs.length vc lb cb hbv hBv (by omega) (csb := cs) (hu ▸ hB)]
            rfl)
        rw [hf] at hcall
        refine hcall.mono ?_
        rintro e w' ⟨rfl, rfl⟩
        have hO' := hB
        obtain ⟨eb, fz, hbl, _, _⟩ := hB
        have hdl : (CX.drop (i * τ.size)).length = xs.length * τ.size - i * τ.size := by rw [List.length_drop, hel.len]
        obtain ⟨cs1, k1, k2, k3, k4, k5⟩ := setCells_chg (vs := CX.drop (i * τ.size)) (o := o + (i + vs.length) * τ.size) (w := w.drew) (b := b) (cs := cs) hbl (by rw [hdl]; omega)
        have htl : cs.toList.length = cs.size := Array.length_toList
        have htl1 : cs1.toList.length = cs1.size := Array.length_toList
        have hs1 : cs1.size = cs.size := by
          have := congrArg List.length k2
          rw [splice_len (by rw [hdl, htl]; omega)] at this
          simpa using this
        obtain ⟨cs2, q1, q2, q3, q4, q5⟩ := setCells_chg (vs := VS) (o := o + i * τ.size) (b := b) k1 (by rw [hev.len, hs1]; omega)
        have hs2 : cs2.size = cs.size := by
          have := congrArg List.length q2
          rw [splice_len (by rw [hev.len, htl1]; omega)] at this
          rw [← hs1]; simpa using this
        have hr := ret_own (τ := τ) (keep := keep) (mv := mv) (ms := [.mv (.sl τ) (.own .sh), .ro (.int .i64), .ro (.sl τ)]) (ax := [[Value.slice (some ⟨b, o, none⟩) xs.length cap], [.int .i64 (i : Int)], [Value.slice (some ⟨vb, vo, none⟩) vs.length vc]]) (xs := (xs.take i ++ vs ++ xs.drop i : List τ.D)) (cap := cap) hs hk hbl hO' q1 hs2 (fun b' hb' => (q3 b' hb').trans (k3 b' hb')) (q4.trans k4) (out_drew (k5.trans q5)) (by rw [hx']; exact hroom) hz ((((hel.take hi).append hev).append (hel.drop i)).flat hfl)
          (by
            rw [hx', hnm]
            have htk : (CX.take (i * τ.size)).length = i * τ.size := by rw [List.length_take, hel.len]; omega
            refine win_eq (by rw [List.length_append, List.length_append, htk, hdl, hev.len]; omega) fun t ht => ?_
            rw [q2, splice_get (by rw [hev.len, htl1]; omega), k2, splice_get (by rw [hdl, htl]; omega)]
            by_cases h1 : t < i * τ.size
            · rw [if_pos (by omega), if_pos (by omega), List.getElem?_append_left (by rw [List.length_append, htk, hev.len]; omega), List.getElem?_append_left (by rw [htk]; omega), List.getElem?_take, if_pos h1]
              exact hget t (by omega)
            · by_cases h2 : t < i * τ.size + vs.length * τ.size
              · rw [if_neg (by omega), if_pos (by rw [hev.len]; omega), List.getElem?_append_left (by rw [List.length_append, htk, hev.len]; omega), List.getElem?_append_right (by rw [htk]; omega), htk]
                congr 1; omega
              · rw [if_neg (by omega), if_neg (by rw [hev.len]; omega), if_neg (by omega), if_pos (by rw [hdl]; omega), List.getElem?_append_right (by rw [List.length_append, htk, hev.len]; omega), List.length_append, htk, hev.len]
                congr 1; omega)
          (by simp [IoAt])
        rw [hx'] at hr
        exact hr
    · obtain ⟨CX, hel, hcx, hnil⟩ := hown
      obtain ⟨G, hG⟩ : ∃ G, G = grownCap w (xs.length + vs.length) cap (ρ.t 9) := ⟨_, rfl⟩
      have hGn : xs.length + vs.length ≤ G := by rw [hG]; exact grownCap_ge w _ _ _
      have hGk : (G - (xs.length + vs.length)) * τ.size + (xs.length + vs.length) * τ.size = G * τ.size := by rw [← Nat.add_mul]; congr 1; omega
      by_cases hin : i = xs.length
      · subst hin
        have hcall := insert_end_grow L ad xs.length cap vb vo vs.length vc CX VS w hm hl (by omega) hbig hel.len hev.len hnil hcx hvs hev.one
        rw [hf, ← hG] at hcall
        refine hcall.mono ?_
        rintro e w' ⟨rfl, rfl⟩
        have hxs : xs.take xs.length ++ vs ++ xs.drop xs.length = xs ++ vs := by simp
        have hr := ret_new (τ := τ) (keep := keep) (mv := mv) (ms := [.mv (.sl τ) (.own .sh), .ro (.int .i64), .ro (.sl τ)]) (ax := [[Value.slice ad xs.length cap], [.int .i64 (xs.length : Int)], [Value.slice (some ⟨vb, vo, none⟩) vs.length vc]]) (xs := (xs ++ vs : List τ.D)) (cap := G) (w' := w.drew.alloc (.cells ((CX ++ VS).toArray ++ Builtin.zeroCells zr.cells (G - (xs.length + vs.length))) (ρ.t 9))) (eb := ρ.t 9) (cs' := (CX ++ VS).toArray ++ Builtin.zeroCells zr.cells (G - (xs.length + vs.length))) hs
          (al_at w.drew _) (fun b' hb' => al_past (w := w.drew) hb' _) (al_size w.drew _) ⟨rfl, rfl, rfl⟩
          (by rw [List.length_append]; exact hGn) (by rw [Array.size_append, zc_size L.zs]; simp only [List.size_toArray, List.length_append, hel.len, hev.len]; omega) ((hel.append hev).flat hfl)
          (by
            rw [List.length_append, hnm, Array.toList_append]
            refine win_eq (by rw [List.length_append, hel.len, hev.len]) fun t ht => ?_
            rw [Nat.zero_add, List.getElem?_append_left (by rw [List.length_append, hel.len, hev.len]; exact ht)])
          (fun β' => by simp [IoAt])
        rw [hxs]
        rw [List.length_append] at hr
        exact hr
      · have hin' : i < xs.length := by omega
        rcases hb with hb | ⟨b, o, cs, rfl, hk, hB, hz, _⟩
        · omega
        have hcall := insert_grow L b o xs.length cap i vb vo vs.length vc CX VS w hin' hm hl (by omega) hbig hel.len hev.len (fun j v hj => by have := hcx _ rfl j v hj; rwa [Addr.add_lit] at this) hvs hel.one hev.one
        rw [hf, ← hG] at hcall
        refine hcall.mono ?_
        rintro e w' ⟨rfl, rfl⟩
        have htk : (CX.take (i * τ.size)).length = i * τ.size := by rw [List.length_take, hel.len]; omega
        have hdl : (CX.drop (i * τ.size)).length = xs.length * τ.size - i * τ.size := by rw [List.length_drop, hel.len]
        have hnik : (xs.length + vs.length - i) * τ.size + i * τ.size = (xs.length + vs.length) * τ.size := by rw [← Nat.add_mul]; congr 1; omega
        obtain ⟨ROW, hROW⟩ : ∃ ROW, ROW = (CX.take (i * τ.size)).toArray ++ Builtin.zeroCells zr.cells (xs.length + vs.length - i) ++ Builtin.zeroCells zr.cells (G - (xs.length + vs.length)) := ⟨_, rfl⟩
        have hRs : ROW.size = G * τ.size := by rw [hROW, Array.size_append, Array.size_append, zc_size L.zs, zc_size L.zs]; simp only [List.size_toArray, htk]; omega
        have hRt : ROW.toList = CX.take (i * τ.size) ++ ((Builtin.zeroCells zr.cells (xs.length + vs.length - i)).toList ++ (Builtin.zeroCells zr.cells (G - (xs.length + vs.length))).toList) := by rw [hROW]; simp
        rw [← hROW]
        have hbl : (w.alloc (.cells ROW (ρ.t 9))).drew.heap[w.heap.size]? = some (.cells ROW (ρ.t 9) (0, 0)) := al_at w _
        obtain ⟨cs1, k1, k2, k3, k4, k5⟩ := setCells_chg (vs := VS) (o := i * τ.size) (b := w.heap.size) hbl (by rw [hev.len]; omega)
        have htl : ROW.toList.length = ROW.size := Array.length_toList
        have htl1 : cs1.toList.length = cs1.size := Array.length_toList
        have hs1 : cs1.size = ROW.size := by
          have := congrArg List.length k2
          rw [splice_len (by rw [hev.len, htl]; omega)] at this
          simpa using this
        obtain ⟨cs2, q1, q2, q3, q4, q5⟩ := setCells_chg (vs := CX.drop (i * τ.size)) (o := (i + vs.length) * τ.size) (b := w.heap.size) (w := ((w.alloc (.cells ROW (ρ.t 9))).drew.setCells w.heap.size (i * τ.size) VS).drew) (cs := cs1) k1 (by rw [hdl]; omega)
        have hs2 : cs2.size = ROW.size := by
          have := congrArg List.length q2
          rw [splice_len (by rw [hdl, htl1]; omega)] at this
          rw [← hs1]; simpa using this
        have hr := ret_new (τ := τ) (keep := keep) (mv := mv) (ms := [.mv (.sl τ) (.own .sh), .ro (.int .i64), .ro (.sl τ)]) (ax := [[Value.slice (some ⟨b, o, none⟩) xs.length cap], [.int .i64 (i : Int)], [Value.slice (some ⟨vb, vo, none⟩) vs.length vc]]) (xs := (xs.take i ++ vs ++ xs.drop i : List τ.D)) (cap := G) (eb := ρ.t 9) hs q1
          (fun b' hb' => (q3 b' (by omega)).trans ((k3 b' (by omega)).trans (al_past hb' _))) (q4.trans (k4.trans (al_size w _))) (SameOut.trans (show SameOut w (w.alloc (.cells ROW (ρ.t 9))).drew from ⟨rfl, rfl, rfl⟩) (k5.trans (out_drew q5)))
          (by rw [hx']; exact hGn) (by rw [hs2, hRs]; exact Nat.le_refl _) ((((hel.take hi).append hev).append (hel.drop i)).flat hfl)
          (by
            rw [hx', hnm]
            refine win_eq (by rw [List.length_append, List.length_append, htk, hdl, hev.len]; omega) fun t ht => ?_
            rw [q2, splice_get (by rw [hdl, htl1]; omega), k2, splice_get (by rw [hev.len, htl]; omega), Nat.zero_add]
            by_cases h1 : t < i * τ.size
            · rw [if_pos (by omega), if_pos (by omega), hRt, List.getElem?_append_left (by rw [htk]; omega), List.getElem?_append_left (by rw [List.length_append, htk, hev.len]; omega), List.getElem?_append_left (by rw [htk]; omega)]
            · by_cases h2 : t < i * τ.size + vs.length * τ.size
              · rw [if_pos (by omega), if_neg (by omega), if_pos (by rw [hev.len]; omega), List.getElem?_append_left (by rw [List.length_append, htk, hev.len]; omega), List.getElem?_append_right (by rw [htk]; omega), htk]
              · rw [if_neg (by omega), if_pos (by rw [hdl]; omega), List.getElem?_append_right (by rw [List.length_append, htk, hev.len]; omega), List.length_append, htk, hev.len, him])
          (fun β' => by simp [IoAt])
        rw [hx'] at hr
        exact hr
  | [], ha | [_], ha | [_, _], ha => simp [ArgsAt] at ha
  | _ :: _ :: _ :: _ :: _, ha => simp [ArgsAt] at ha
end
end Go.Rf
