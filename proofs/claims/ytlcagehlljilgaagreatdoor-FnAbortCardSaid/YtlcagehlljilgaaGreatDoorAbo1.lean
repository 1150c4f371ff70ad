/- What the program computes, in plain words: part 5. No condition. -/
import Derived.Test.YtlcagehlljilgaaGreatDoorRfD
import Derived.Below
import Derived.Shelf.SlLaysE0
import Derived.Shelf.Spec.SlicesInsertGrow
import Derived.Shelf.RegionOpenPlain
import Derived.WalkKit
import Derived.Deep.RegionLaw
import Derived.Lib.Walk
import Derived.Lib.SliceRun
import Derived.Shelf.Strconv.Itoa3
import Derived.Lib.AppendIntMem
import Derived.Lib.SplitLaws
import Derived.Test.YtlcagehlljilgaaGreatDoorProg
import Derived.KernelRfl
import Derived.Lib.Atoi
set_option linter.unusedVariables false
set_option linter.unusedSimpArgs false
section
namespace Go.Rf
set_option linter.unusedSectionVars false
variable [T : Laid]
open Go.RowKit
set_option linter.unusedVariables false
set_option linter.unusedSimpArgs false
def FnOKc (E : Env) (c : FCfg) (f : FuncId) (ds : List Dyn) (x : c.rt.D) : Prop :=
 ∀ (w : World) (S : Nat → Prop) (β : Key → Option Nat) (cs : List (List Value)), Sane w S β → ArgsAt S β w c.modes ds cs 0 → CallRes E.P f (argVals ds cs).toArray w (Ret c x cs w S β)
def slOf (τ : Ty) (d : Dyn) : Option (List τ.D) := castD d.t (.sl τ) d.x
def i64Of (d : Dyn) : Option Int := castD d.t (.int .i64) d.x
theorem slOf_some {τ : Ty} {d : Dyn} {xs : List τ.D} (h : slOf τ d = some xs) : d = ⟨.sl τ, xs⟩ := by
 obtain ⟨t, x⟩ := d
 obtain ⟨e, h⟩ := castD_some h
 cases e; cases h; rfl
theorem i64Of_some {d : Dyn} {n : Int} (h : i64Of d = some n) : d = ⟨.int .i64, n⟩ := by
 obtain ⟨t, x⟩ := d
 obtain ⟨e, h⟩ := castD_some h
 cases e; cases h; rfl
section
variable {E : Env} {w w' : World} {S : Nat → Prop} {β : Key → Option Nat} {keep : List Nat} {mv : List (Nat × Nat)} {ms : List Mode} {ax : List (List Value)}
theorem cell_blk {b o : Nat} {cs : Array Value} (hB : Blk w b cs) {v : Value} (h : cs.toList[o]? = some v) : w.cell? ⟨b, o, none⟩ = some v := by
 obtain ⟨e, fz, hb⟩ := hB
 rw [Array.getElem?_toList] at h
 simp only [World.cell?, hb]
 simpa using h
theorem below_step (hs : Sane w S β) (h : Below w.heap.size w w') : Sane w' S β ∧ Step w S β w' S β :=
 ⟨⟨hs.inj, hs.sep, fun k b hk => Nat.lt_of_lt_of_le (hs.live k b hk) h.size, fun b hb => Nat.lt_of_lt_of_le (hs.liveS b hb) h.size, hs.tabs fun b hb => ⟨hb, h.block b (hs.liveS b hb)⟩⟩,
  ⟨h.size, fun b hb _ => h.block b hb, fun k b hk => .inl ⟨k, hk⟩, fun _ h => h, fun _ h => .inl h, ⟨h.os, h.tape, h.output⟩⟩⟩
theorem ret_str (hs : Sane w S β) (h : Below w.heap.size w w') {t : List UInt8} (hio : IoAt S β w' ms ax 0 .unit ()) :
  Ret ⟨ms, 1, .pair .str .unit, .sh, keep, mv⟩ (t, ()) ax w S β (.string ⟨⟨t⟩⟩) w' := by
 obtain ⟨h1, h2⟩ := below_step hs h
 refine ⟨S, β, [[.string ⟨⟨t⟩⟩]], h1, h2, ?_, rfl, hio⟩
 simp only [ResAt]
 refine ⟨?_, trivial⟩
 refine VRel_sh.2 ?_
 simp [Rd]
def strOf (d : Dyn) : Option (List UInt8) := castD d.t .str d.x
theorem strOf_some {d : Dyn} {s : List UInt8} (h : strOf d = some s) : d = ⟨.str, s⟩ := by
 obtain ⟨t, x⟩ := d
 obtain ⟨e, h⟩ := castD_some h
 cases e; cases h; rfl
end
end Go.Rf

end
section
namespace Go.Rf
set_option linter.unusedSectionVars false
variable [T : Laid]
open Go.Shelf Go.RowKit Go.Lib Go.Proofs
set_option linter.unusedVariables false
set_option linter.unusedSimpArgs false
section
variable {P : Program} {ρ : Ren}
theorem setCells_chg {b : Nat} {e : TypeId} {fz : Nat × Nat} : ∀ {vs : List Value} {o : Nat} {w : World} {cs : Array Value}, w.heap[b]? = some (.cells cs e fz) → o + vs.length ≤ cs.size →
  ∃ cs', (w.setCells b o vs).heap[b]? = some (.cells cs' e fz) ∧ cs'.toList = splice cs.toList o vs ∧ (∀ b', b' ≠ b → (w.setCells b o vs).heap[b']? = w.heap[b']?) ∧ (w.setCells b o vs).heap.size = w.heap.size ∧ SameOut w (w.setCells b o vs)
 | [], o, w, cs, hb, _ => ⟨cs, hb, by simp [splice], fun _ _ => rfl, rfl, .rfl'⟩
 | v :: vs, o, w, cs, hb, ho => by
  simp only [List.length_cons] at ho
  have h1 : (w.setCell ⟨b, o, none⟩ v).heap[b]? = some (.cells (cs.setIfInBounds o v) e fz) := by
   simp only [World.setCell, Array.getElem?_modify, if_true, hb]
   simp
  have h2 : ∀ b', b' ≠ b → (w.setCell ⟨b, o, none⟩ v).heap[b']? = w.heap[b']? := fun b' hb' => by
   simp only [World.setCell, Array.getElem?_modify]
   rw [if_neg (Ne.symm hb')]
  have h3 : (w.setCell ⟨b, o, none⟩ v).heap.size = w.heap.size := by simp [World.setCell]
  have h4 : SameOut w (w.setCell ⟨b, o, none⟩ v) := ⟨rfl, rfl, rfl⟩
  obtain ⟨cs', k1, k2, k3, k4, k5⟩ := setCells_chg (vs := vs) (o := o + 1) (w := w.setCell ⟨b, o, none⟩ v) h1 (by rw [Array.size_setIfInBounds]; omega)
  refine ⟨cs', k1, ?_, fun b' hb' => (k3 b' hb').trans (h2 b' hb'), k4.trans h3, h4.trans k5⟩
  rw [k2, Array.toList_setIfInBounds]
  apply List.ext_getElem?
  intro k
  rw [splice_get (by simp; omega), splice_get (by simp; omega), List.getElem?_set]
  by_cases h1 : k < o
  ·rw [if_pos (by omega), if_neg (by omega), if_pos h1]
  ·rw [if_neg h1]
   by_cases h2 : k = o
   ·subst h2
    rw [if_pos (by omega), if_pos rfl, if_pos (by simp; omega), if_pos (by simp)]
    simp
   ·rw [if_neg (by omega)]
    have e : k - o = (k - (o + 1)) + 1 := by omega
    rw [e, List.getElem?_cons_succ, List.length_cons]
    by_cases h3 : k < o + 1 + vs.length
    ·rw [if_pos h3, if_pos (by omega)]
    ·rw [if_neg h3, if_neg (by omega), if_neg (by omega)]
theorem run_copy_k (w : World) (dT sT ty elem : TypeId) (i : TypeInfo) (b o dLen dCap : Nat) (a : Addr) (sLen sCap n : Nat) (cs : List Value)
  (hu : P.underlying dT = some (.slice elem)) (hi : P.info? elem = some i) (hm : Nat.min sLen dLen = n) (hn : cs.length = n * i.size)
  (hsrc : ∀ j v, cs[j]? = some v → w.cell? (a.add j) = some v) (hc : ∀ j, j < cs.length → (w.cell? ⟨b, o + j, none⟩).isSome = true) (hf : ∀ j, j < cs.length → w.frozen? ⟨b, o + j, none⟩ = false) (h1 : ∀ v ∈ cs, v.oneCell' = true) :
  (Builtin.copy_ #[dT, sT] ty #[.slice (some ⟨b, o, none⟩) dLen dCap, .slice (some a) sLen sCap]).run P w = .ok (goInt n) (w.setCells b o cs) := by
 have hl := run_loadCells_list (P := P) w a cs hsrc
 have hst := run_storeCells_cells (P := P) b o cs 0 w (by simpa using hc) (by simpa using hf) h1
 simp [Builtin.copy_, run_underlying hu, Builtin.lenOf, Builtin.firstCells, sizeOf, typeInfo, hi, hm, ← hn, hl, hst]
theorem run_clear_k (w : World) (t e ty : TypeId) (z : Value) (ht : P.underlying t = some (.slice e)) (hv : ∀ w, (zeroValue e).run P w = .ok z w) (h1 : ∀ v ∈ z.cells.toList, v.oneCell' = true) (b o n c : Nat) (hn : 0 < n)
  (hc : ∀ j, j < n * z.cells.size → (w.cell? ⟨b, o + j, none⟩).isSome = true) (hf : ∀ j, j < n * z.cells.size → w.frozen? ⟨b, o + j, none⟩ = false) :
  (Builtin.clear_ #[t] ty #[.slice (some ⟨b, o, none⟩) n c]).run P w = .ok (.tuple #[]) (w.setCells b o (Builtin.zeroCells z.cells n).toList) := by
 have hl : (Builtin.zeroCells z.cells n).toList.length = n * z.cells.size := by simp [Builtin.zeroCells]
 have hst := run_storeCells_cells (P := P) b o (Builtin.zeroCells z.cells n).toList 0 w (by rw [hl]; simpa using hc) (by rw [hl]; simpa using hf) (by
  intro v hv'
  simp only [Builtin.zeroCells, Array.mem_toList_iff, Array.mem_map, Array.mem_range] at hv'
  obtain ⟨j, hj, rfl⟩ := hv'
  have hpos : 0 < z.cells.size := by
   rcases Nat.eq_zero_or_pos z.cells.size with h | h
   ·rw [h, Nat.mul_zero] at hj; omega
   ·exact h
  have hlt := Nat.mod_lt j hpos
  rw [getElem!_pos z.cells (j % z.cells.size) hlt]
  exact h1 _ (by simp))
 simp only [Nat.add_zero] at hst
 obtain ⟨m, rfl⟩ : ∃ m, n = m + 1 := ⟨n - 1, by omega⟩
 simp [Builtin.clear_, run_underlying ht, hv, hst]
set_option maxHeartbeats 4000000 in
set_option maxRecDepth 1000000 in
theorem delete_k (L : SlLaysE0.n45 P ρ) (i0 : TypeInfo) (hi0 : P.info? (ρ.t 23) = some i0) (zr : Value) (v23 : ∀ w, (zeroValue (ρ.t 23)).run P w = .ok zr w) (k : Nat) (hz1 : i0.size = k) (hzk : zr.cells.size = k)
  (hz1c : ∀ v ∈ zr.cells.toList, v.oneCell' = true) (z23 : ∀ w, (Go.sizeOf (ρ.t 23)).run P w = .ok k w)
  (blk off cap n i j : Nat) (cs : List Value) (w : World) (hcl : cs.length = n * k) (hcs : ∀ t v, cs[t]? = some v → w.cell? ⟨blk, off + t, none⟩ = some v) (hfz : ∀ t, t < n * k → w.frozen? ⟨blk, off + t, none⟩ = false)
  (h1 : ∀ v ∈ cs, v.oneCell' = true) (hij : i < j) (hj : j ≤ n) (hnc : n ≤ cap) :
  Calls P (ρ.f 45) #[.slice (some ⟨blk, off, none⟩) n cap, .int .i64 i, .int .i64 j] w fun e w' =>
   e = .returned (.slice (some ⟨blk, off, none⟩) (i + (n - j)) cap) ∧ w' = (w.drew.setCells blk (off + i * k) (cs.drop (j * k))).setCells blk (off + (i + (n - j)) * k) (Builtin.zeroCells zr.cells (n - (i + (n - j)))).toList := by
 have mixed := L.mixed; have t0 := L.t0; have a0 := L.a0; have z0 := L.z0; have v0 := L.v0; have t3 := L.t3; have a3 := L.a3; have z3 := L.z3; have v3 := L.v3; have t4 := L.t4; have a4 := L.a4; have z4 := L.z4; have v4 := L.v4; have t22 := L.t22; have a22 := L.a22; have z22 := L.z22; have v22 := L.v22
 have hjk : j * k ≤ n * k := Nat.mul_le_mul_right k hj
 have hik : i * k ≤ j * k := Nat.mul_le_mul_right k (by omega)
 have hsome : ∀ t, t < n * k → (w.cell? ⟨blk, off + t, none⟩).isSome = true := fun t ht => by
  rw [hcs t _ (List.getElem?_eq_getElem (by omega))]; rfl
 obtain ⟨news, hnews⟩ : ∃ news, news = cs.drop (j * k) := ⟨_, rfl⟩
 have hlen : news.length = (n - j) * k := by rw [hnews, List.length_drop, hcl, Nat.sub_mul]
 have hlt : (n - j) * k + j * k = n * k := by rw [← Nat.add_mul]; congr 1; omega
 have hlu : (i + (n - j)) * k = i * k + (n - j) * k := Nat.add_mul _ _ _
 have hlz : (n - (i + (n - j))) * k + (i + (n - j)) * k = n * k := by rw [← Nat.add_mul]; congr 1; omega
 obtain ⟨A, hA, hsrc⟩ : ∃ A : Addr, (if cap = j then some (⟨blk, off, none⟩ : Addr) else some ⟨blk, off + j * k, none⟩) = some A ∧ Hid (∀ t u, news[t]? = some u → w.drew.cell? (A.add t) = some u) := by
  by_cases h : cap = j
  ·refine ⟨⟨blk, off, none⟩, by simp [h], fun t u hu => ?_⟩
   have h0 : news.length = 0 := by rw [hlen, show n - j = 0 by omega, Nat.zero_mul]
   rw [List.length_eq_zero_iff.1 h0] at hu
   simp at hu
  ·refine ⟨⟨blk, off + j * k, none⟩, by simp [h], fun t u hu => ?_⟩
   rw [hnews, List.getElem?_drop] at hu
   rw [Addr.add_lit, Nat.add_assoc]
   exact hcs _ u hu
 have s1 : Hid (news.length = (n - j) * k) := hlen
 have s2 : Hid (∀ u ∈ news, u.oneCell' = true) := by
  intro u hu
  rw [hnews] at hu
  exact h1 u (List.mem_of_mem_drop hu)
 have s3 : Hid (∀ t, t < news.length → (w.drew.cell? ⟨blk, off + i * k + t, none⟩).isSome = true ∧ w.drew.frozen? ⟨blk, off + i * k + t, none⟩ = false) := by
  intro t ht
  rw [hlen] at ht
  rw [Nat.add_assoc]
  exact ⟨hsome _ (by omega), hfz _ (by omega)⟩
 obtain ⟨W1, hW1⟩ : ∃ W1, W1 = w.drew.setCells blk (off + i * k) news := ⟨_, rfl⟩
 have hcl : ∀ ty, (Builtin.clear_ #[ρ.t 22] ty #[.slice (some ⟨blk, off + (i + (n - j)) * k, none⟩) (n - (i + (n - j))) (cap - (i + (n - j)))]).run P W1 = .ok (.tuple #[]) (W1.setCells blk (off + (i + (n - j)) * k) (Builtin.zeroCells zr.cells (n - (i + (n - j)))).toList) :=
  fun ty => run_clear_k W1 _ _ ty _ t22 v23 hz1c blk (off + (i + (n - j)) * k) _ _ (by omega)
   (fun t ht => by rw [hzk] at ht; rw [hW1, Nat.add_assoc]; exact isSome_setCells blk _ _ _ (fun t ht => by rw [Nat.add_assoc]; exact hsome _ (by rw [hlen] at ht; omega)) _ (hsome _ (by omega)))
   (fun t ht => by rw [hzk] at ht; rw [hW1, World.frozen?_setCells, Nat.add_assoc]; exact hfz _ (by omega))
 obtain ⟨Z, hZ⟩ : ∃ Z, Z = (Builtin.zeroCells zr.cells (n - (i + (n - j)))).toList := ⟨_, rfl⟩
 rw [← hZ] at hcl
 have hZ' : Hid (Z = (Builtin.zeroCells zr.cells (n - (i + (n - j)))).toList) := hZ
 have hW : Hid (W1 = w.drew.setCells blk (off + i * k) news) := hW1
 have hN : Hid (news = cs.drop (j * k)) := hnews
 have hic : i ≤ cap := by omega
 have hjc : j ≤ cap := by omega
 have hne : ¬ ((i : Int) = (j : Int)) := by omega
 have hni : ¬ (cap = i + (n - j)) := by omega
 clear hZ hW1 hnews hlen hcs hfz hsome hlu hlt hlz hjk hik
 obtain ⟨_, _, FG⟩ := L.f45
 go_enter FG, SlBodyN.n45_ntmps ρ
 go_wp2_with fail
 go_region_law_o (refine step_append_room rfl (.tmp 22) (.tmp 25) (ρ.t 22) rfl (ρ.t 23) i0 k t22 hi0 hz1 blk off i cap (by simp [Act.eval, Act.put]) A (n - j) (cap - j) news (by simp [Act.eval, Act.put]) s1.out hsrc.out s2.out (by omega) s3.out ?_; rw [← hW.out])
 go_wp2
 all_goals (go_ret; exact ⟨rfl, by rw [hW.out, hN.out, hZ'.out]⟩)
end
end Go.Rf

end
section
namespace Go.Rf
set_option linter.unusedSectionVars false
variable [T : Laid]
open Go.Shelf Go.RowKit Go.Lib Go.Proofs
set_option linter.unusedVariables false
set_option linter.unusedSimpArgs false
structure InsL (P : Program) (ρ : Ren) (i0 : TypeInfo) (zr : Value) (k : Nat) : Prop where
 mixed : P.follows .mixedOrders = true
 f22 : Bears P (ρ.f 22) (Body2.n22 ρ)
 t0 : P.underlying (ρ.t 0) = some (TypeDesc.tuple #[])
 a0 : ∀ w, (isAgg (ρ.t 0)).run P w = .ok false w
 z0 : ∀ w, (Go.sizeOf (ρ.t 0)).run P w = .ok 1 w
 v0 : ∀ w, (zeroValue (ρ.t 0)).run P w = .ok (Value.tuple #[]) w
 t3 : P.underlying (ρ.t 3) = some (TypeDesc.int IntKind.i64)
 a3 : ∀ w, (isAgg (ρ.t 3)).run P w = .ok false w
 z3 : ∀ w, (Go.sizeOf (ρ.t 3)).run P w = .ok 1 w
 v3 : ∀ w, (zeroValue (ρ.t 3)).run P w = .ok (Value.int IntKind.i64 0) w
 t4 : P.underlying (ρ.t 4) = some (TypeDesc.bool)
 a4 : ∀ w, (isAgg (ρ.t 4)).run P w = .ok false w
 z4 : ∀ w, (Go.sizeOf (ρ.t 4)).run P w = .ok 1 w
 v4 : ∀ w, (zeroValue (ρ.t 4)).run P w = .ok (Value.bool false) w
 t24 : P.underlying (ρ.t 24) = some (TypeDesc.slice (ρ.t 9))
 a24 : ∀ w, (isAgg (ρ.t 24)).run P w = .ok false w
 z24 : ∀ w, (Go.sizeOf (ρ.t 24)).run P w = .ok 1 w
 v24 : ∀ w, (zeroValue (ρ.t 24)).run P w = .ok (Value.slice none 0 0) w
 z9 : ∀ w, (Go.sizeOf (ρ.t 9)).run P w = .ok k w
 info : P.info? (ρ.t 9) = some i0
 size : i0.size = k
 zero : i0.zero = some zr
 zs : zr.cells.size = k
 bytes : i0.bytes ≤ 128
 pos : 0 < k
section
variable {P : Program} {ρ : Ren} {i0 : TypeInfo} {zr : Value} {k : Nat}
set_option maxHeartbeats 4000000 in
set_option maxRecDepth 100000 in
theorem insert_shift (L : InsL P ρ i0 zr k) (b off n c i vb voff m vc : Nat) (cs vs : List Value) (w : World) (hi : i < n) (hm : 0 < m) (hroom : n + m ≤ c) (hc63 : n + m ≤ 9223372036854775807) (hvb : vb ≠ b)
  (hcl : cs.length = n * k) (hvl : vs.length = m * k)
  (hcs : ∀ j v, cs[j]? = some v → w.cell? ⟨b, off + j, none⟩ = some v) (hsp : ∀ j, j < (n + m) * k → (w.cell? ⟨b, off + j, none⟩).isSome = true) (hfz : ∀ j, j < (n + m) * k → w.frozen? ⟨b, off + j, none⟩ = false)
  (hvs : ∀ j v, vs[j]? = some v → w.cell? ⟨vb, voff + j, none⟩ = some v) (h1c : ∀ v ∈ cs, v.oneCell' = true) (h1v : ∀ v ∈ vs, v.oneCell' = true)
  (hov : ∀ lb cb, (callFunc (ρ.f 29) #[.slice (some ⟨vb, voff, none⟩) m vc, .slice (some ⟨b, off + (i + m) * k, none⟩) lb cb]).run P w = .ok (.value (.bool false)) w) :
  Calls P (ρ.f 22) #[.slice (some ⟨b, off, none⟩) n c, .int .i64 i, .slice (some ⟨vb, voff, none⟩) m vc] w fun e w' =>
   e = .returned (.slice (some ⟨b, off, none⟩) (n + m) c) ∧ w' = (w.drew.setCells b (off + (i + m) * k) (cs.drop (i * k))).setCells b (off + i * k) vs := by
 have t0 := L.t0; have a0 := L.a0; have z0 := L.z0; have v0 := L.v0; have t3 := L.t3; have a3 := L.a3; have z3 := L.z3; have v3 := L.v3; have t4 := L.t4; have a4 := L.a4; have z4 := L.z4; have v4 := L.v4; have z9 := L.z9; have t24 := L.t24; have a24 := L.a24; have z24 := L.z24; have v24 := L.v24
 have u0 := run_underlying L.t0; have u3 := run_underlying L.t3; have u4 := run_underlying L.t4; have u24 := run_underlying L.t24
 have hz1 : ¬ ((m : Int) = 0) := by omega
 have hz2 : ¬ ((i : Int) = (n : Int)) := by omega
 have hik : i * k ≤ n * k := Nat.mul_le_mul_right k (by omega)
 have hnm : (n + m) * k = n * k + m * k := Nat.add_mul _ _ _
 have him : (i + m) * k = i * k + m * k := Nat.add_mul _ _ _
 have hni : (n - i) * k = n * k - i * k := Nat.sub_mul _ _ _
 have hdl : (cs.drop (i * k)).length = (n - i) * i0.size := by rw [List.length_drop, hcl, L.size, hni]
 have hvl' : vs.length = m * i0.size := by rw [hvl, L.size]
 have mixed := L.mixed
 have hw1 : IntKind.i64.wrap ((i : Int) + (m : Int)) = (i : Int) + (m : Int) := by rw [IntKind.wrap_i64]; omega
 have hb1 : (0 : Int) ≤ (i : Int) + (m : Int) := by omega
 have hin : i ≤ n := by omega
 have htn : ((i : Int) + (m : Int)).toNat = i + m := by omega
 have hb2 : ¬ (c = i + m) := by omega
 have hb3 : (i : Int) ≤ (n : Int) + (m : Int) := by omega
 have hb4 : ¬ (c = i) := by omega
 have hcp1 : ∀ ty dc sc, (Builtin.copy_ #[(ρ.t 24), (ρ.t 24)] ty #[.slice (some ⟨b, off + (i + m) * k, none⟩) (n + m - (i + m)) dc, .slice (some ⟨b, off + i * k, none⟩) (n + m - i) sc]).run P w.drew = .ok (goInt ((n - i : Nat) : Int)) (w.drew.setCells b (off + (i + m) * k) (cs.drop (i * k))) := fun ty dc sc =>
  run_copy_k w.drew _ _ ty (ρ.t 9) i0 b (off + (i + m) * k) (n + m - (i + m)) dc ⟨b, off + i * k, none⟩ (n + m - i) sc (n - i) (cs.drop (i * k)) L.t24 L.info (by simp only [Nat.min_def]; split <;> omega) hdl
   (fun j v hj => by rw [Addr.add_lit, Nat.add_assoc]; exact hcs (i * k + j) v (by rwa [List.getElem?_drop] at hj))
   (fun j hj => by rw [hdl, L.size] at hj; rw [Nat.add_assoc]; exact hsp _ (by omega)) (fun j hj => by rw [hdl, L.size] at hj; rw [Nat.add_assoc]; exact hfz _ (by omega)) (fun v hv => h1c v (List.mem_of_mem_drop hv))
 obtain ⟨W1, hW1⟩ : ∃ W1, W1 = w.drew.setCells b (off + (i + m) * k) (cs.drop (i * k)) := ⟨_, rfl⟩
 have hsp1 : ∀ t, t < (n + m) * k → (W1.cell? ⟨b, off + t, none⟩).isSome = true := fun t ht => by
  rw [hW1]
  exact isSome_setCells b _ _ _ (fun j hj => by rw [hdl, L.size] at hj; rw [Nat.add_assoc]; exact hsp _ (by omega)) _ (hsp t ht)
 have hcp2 : ∀ (W : World), (∀ x, W.cell? x = W1.cell? x) → (∀ x, W.frozen? x = W1.frozen? x) → ∀ ty dc, (Builtin.copy_ #[(ρ.t 24), (ρ.t 24)] ty #[.slice (some ⟨b, off + i * k, none⟩) (n + m - i) dc, .slice (some ⟨vb, voff, none⟩) m vc]).run P W = .ok (goInt m) (W.setCells b (off + i * k) vs) := fun W hWc hWf ty dc =>
  run_copy_k W _ _ ty (ρ.t 9) i0 b (off + i * k) (n + m - i) dc ⟨vb, voff, none⟩ m vc m vs L.t24 L.info (by simp only [Nat.min_def]; split <;> omega) hvl'
   (fun j v hj => by
    rw [Addr.add_lit, hWc, hW1, World.cell?_setCells_out b _ _ _ _ (fun h _ => absurd h hvb)]
    exact hvs j v hj)
   (fun j hj => by rw [hvl] at hj; rw [hWc, Nat.add_assoc]; exact hsp1 _ (by omega)) (fun j hj => by rw [hvl] at hj; rw [hWf, hW1, World.frozen?_setCells, Nat.add_assoc]; exact hfz _ (by omega)) h1v
 rw [← hW1] at hcp1
 clear hdl hvl' hik hnm him hni hsp1
 obtain ⟨_, _, FG⟩ := L.f22
 go_enter FG, Body2.n22_ntmps ρ
 go_wp2_with (simp only [hov])
 go_region_law_o (refine step_copy_runI rfl _ _ (ρ.t 24) (ρ.t 24) rfl _ _ (by simp [Act.eval, Act.put]) (by simp [Act.eval, Act.put]) (hcp1 _ _ _) ?_)
 go_wp2_with (at_builtin; refine wpList_copy_runI _ rfl _ _ (ρ.t 24) (ρ.t 24) rfl _ _ rfl rfl (hcp2 _ (fun _ => rfl) (fun _ => rfl) _ _) ?_)
 go_ret
 first | exact ⟨rfl, rfl⟩ | exact ⟨rfl, by rw [hW1]⟩
set_option maxHeartbeats 4000000 in
set_option maxRecDepth 100000 in
theorem insert_end_room (L : InsL P ρ i0 zr k) (b off n c vb voff m vc : Nat) (vs : List Value) (w : World) (hm : 0 < m) (hroom : n + m ≤ c) (hc63 : n + m ≤ 9223372036854775807)
  (hvl : vs.length = m * k) (hsp : ∀ j, j < m * k → (w.cell? ⟨b, off + n * k + j, none⟩).isSome = true) (hfz : ∀ j, j < m * k → w.frozen? ⟨b, off + n * k + j, none⟩ = false)
  (hvs : ∀ j v, vs[j]? = some v → w.cell? ⟨vb, voff + j, none⟩ = some v) (h1v : ∀ v ∈ vs, v.oneCell' = true) :
  Calls P (ρ.f 22) #[.slice (some ⟨b, off, none⟩) n c, .int .i64 n, .slice (some ⟨vb, voff, none⟩) m vc] w fun e w' =>
   e = .returned (.slice (some ⟨b, off, none⟩) (n + m) c) ∧ w' = w.setCells b (off + n * k) vs := by
 have t0 := L.t0; have a0 := L.a0; have z0 := L.z0; have v0 := L.v0; have t3 := L.t3; have a3 := L.a3; have z3 := L.z3; have v3 := L.v3; have t4 := L.t4; have a4 := L.a4; have z4 := L.z4; have v4 := L.v4; have z9 := L.z9; have t24 := L.t24; have a24 := L.a24; have z24 := L.z24; have v24 := L.v24
 have u0 := run_underlying L.t0; have u3 := run_underlying L.t3; have u4 := run_underlying L.t4; have u24 := run_underlying L.t24
 have mixed := L.mixed
 have hz1 : ¬ ((m : Int) = 0) := by omega
 have hsrc : Src P i0.size (ρ.t 24) (.slice (some ⟨vb, voff, none⟩) m vc) m vs w := Src.ofSlice w L.t24 ⟨vb, voff, none⟩ m vc vs (by rw [L.size]; exact hvl) (fun j u hj => by rw [Addr.add_lit]; exact hvs j u hj) h1v
 obtain ⟨_, _, FG⟩ := L.f22
 go_enter FG, Body2.n22_ntmps ρ
 go_wp2_with (at_builtin; refine wpList_append_room_src _ rfl _ _ (ρ.t 24) (ρ.t 24) rfl (ρ.t 9) i0 L.t24 L.info b off n c rfl _ rfl m vs hsrc hroom (by rw [hvl, L.size]; exact hsp) (by rw [hvl, L.size]; exact hfz) ?_; rw [L.size])
 go_ret
 exact ⟨rfl, rfl⟩
set_option maxHeartbeats 4000000 in
set_option maxRecDepth 100000 in
theorem insert_end_grow (L : InsL P ρ i0 zr k) (base : Option Addr) (n c vb voff m vc : Nat) (cs vs : List Value) (w : World) (hm : 0 < m) (hnc : n ≤ c) (hroom : c < n + m) (hbig : n + m ≤ 1099511627776)
  (hcl : cs.length = n * k) (hvl : vs.length = m * k) (hnil : base = none → n = 0)
  (hcs : ∀ a, base = some a → ∀ j v, cs[j]? = some v → w.cell? (a.add j) = some v)
  (hvs : ∀ j v, vs[j]? = some v → w.cell? ⟨vb, voff + j, none⟩ = some v) (h1v : ∀ v ∈ vs, v.oneCell' = true) :
  Calls P (ρ.f 22) #[.slice base n c, .int .i64 n, .slice (some ⟨vb, voff, none⟩) m vc] w fun e w' =>
   e = .returned (.slice (some ⟨w.heap.size, 0, none⟩) (n + m) (grownCap w (n + m) c (ρ.t 9))) ∧
   w' = w.drew.alloc (.cells ((cs ++ vs).toArray ++ Builtin.zeroCells zr.cells (grownCap w (n + m) c (ρ.t 9) - (n + m))) (ρ.t 9)) := by
 have t0 := L.t0; have a0 := L.a0; have z0 := L.z0; have v0 := L.v0; have t3 := L.t3; have a3 := L.a3; have z3 := L.z3; have v3 := L.v3; have t4 := L.t4; have a4 := L.a4; have z4 := L.z4; have v4 := L.v4; have z9 := L.z9; have t24 := L.t24; have a24 := L.a24; have z24 := L.z24; have v24 := L.v24
 have u0 := run_underlying L.t0; have u3 := run_underlying L.t3; have u4 := run_underlying L.t4; have u24 := run_underlying L.t24
 have mixed := L.mixed
 have hz1 : ¬ ((m : Int) = 0) := by omega
 have hsrc : Src P i0.size (ρ.t 24) (.slice (some ⟨vb, voff, none⟩) m vc) m vs w := Src.ofSlice w L.t24 ⟨vb, voff, none⟩ m vc vs (by rw [L.size]; exact hvl) (fun j u hj => by rw [Addr.add_lit]; exact hvs j u hj) h1v
 have hold : (Builtin.firstCells i0.size n (.slice base n c)).run P w.drew = .ok cs.toArray w.drew := by
  cases base with
  | none =>
   have h0 := hnil rfl
   subst h0
   rw [Nat.zero_mul] at hcl
   rw [List.length_eq_zero_iff.1 hcl]
   exact run_firstCells_none w.drew i0.size 0 0 c
  | some a => exact run_firstCells_some w.drew i0.size n a n c cs (by rw [L.size]; exact hcl) (fun j v hj => hcs a rfl j v hj)
 have hfit : Builtin.nextslicecap (n + m) c * i0.bytes ≤ 281474976710656 := growslice_fits hroom (by
  have : (n + m) * i0.bytes ≤ 1099511627776 * 128 := Nat.mul_le_mul hbig L.bytes
  omega)
 have hrun : ∀ ty, (Builtin.append_ #[(ρ.t 24), (ρ.t 24)] ty #[.slice base n c, .slice (some ⟨vb, voff, none⟩) m vc]).run P w = _ := fun ty =>
  run_append_grow_src w (ρ.t 24) (ρ.t 24) ty (ρ.t 9) i0 _ L.t24 L.info L.zero base n c cs hold _ m vs hsrc hroom (by omega) hfit
 obtain ⟨W1, hW1⟩ : ∃ W1, W1 = w.drew.alloc (.cells ((cs ++ vs).toArray ++ Builtin.zeroCells zr.cells (grownCap w (n + m) c (ρ.t 9) - (n + m))) (ρ.t 9)) := ⟨_, rfl⟩
 rw [← hW1] at hrun ⊢
 clear hW1 hsrc hold hfit
 obtain ⟨_, _, FG⟩ := L.f22
 go_enter FG, Body2.n22_ntmps ρ
 cases base with
 | none =>
  have h0 := hnil rfl
  subst h0
  go_wp2_with (at_builtin; refine Lib.wpList_append_run _ rfl _ _ _ _ rfl _ _ rfl rfl _ _ (hrun _) ?_)
  go_ret
  exact ⟨rfl, rfl⟩
 | some a =>
  obtain ⟨ab, ao, asp⟩ := a
  go_wp2_with (at_builtin; refine Lib.wpList_append_run _ rfl _ _ _ _ rfl _ _ rfl rfl _ _ (hrun _) ?_)
  all_goals (go_ret; exact ⟨rfl, rfl⟩)
set_option maxHeartbeats 4000000 in
set_option maxRecDepth 100000 in
theorem insert_grow (L : InsL P ρ i0 zr k) (b off n c i vb voff m vc : Nat) (cs vs : List Value) (w : World) (hi : i < n) (hm : 0 < m) (hnc : n ≤ c) (hroom : c < n + m) (hbig : n + m ≤ 1099511627776)
  (hcl : cs.length = n * k) (hvl : vs.length = m * k)
  (hcs : ∀ j v, cs[j]? = some v → w.cell? ⟨b, off + j, none⟩ = some v)
  (hvs : ∀ j v, vs[j]? = some v → w.cell? ⟨vb, voff + j, none⟩ = some v) (h1c : ∀ v ∈ cs, v.oneCell' = true) (h1v : ∀ v ∈ vs, v.oneCell' = true) :
  Calls P (ρ.f 22) #[.slice (some ⟨b, off, none⟩) n c, .int .i64 i, .slice (some ⟨vb, voff, none⟩) m vc] w fun e w' =>
   e = .returned (.slice (some ⟨w.heap.size, 0, none⟩) (n + m) (grownCap w (n + m) c (ρ.t 9))) ∧
   w' = (((w.alloc (.cells ((cs.take (i * k)).toArray ++ Builtin.zeroCells zr.cells (n + m - i) ++ Builtin.zeroCells zr.cells (grownCap w (n + m) c (ρ.t 9) - (n + m))) (ρ.t 9))).drew.setCells w.heap.size (i * k) vs).drew).setCells w.heap.size ((i + m) * k) (cs.drop (i * k)) := by
 have t0 := L.t0; have a0 := L.a0; have z0 := L.z0; have v0 := L.v0; have t3 := L.t3; have a3 := L.a3; have z3 := L.z3; have v3 := L.v3; have t4 := L.t4; have a4 := L.a4; have z4 := L.z4; have v4 := L.v4; have z9 := L.z9; have t24 := L.t24; have a24 := L.a24; have z24 := L.z24; have v24 := L.v24
 have u0 := run_underlying L.t0; have u3 := run_underlying L.t3; have u4 := run_underlying L.t4; have u24 := run_underlying L.t24
 have mixed := L.mixed
 have hz1 : ¬ ((m : Int) = 0) := by omega
 have hz2 : ¬ ((i : Int) = (n : Int)) := by omega
 have hz3 : (c : Int) < (n : Int) + (m : Int) := by omega
 have hpos := L.pos
 have hnk : 0 < n * k := Nat.mul_pos (by omega) hpos
 have hmk : 0 < m * k := Nat.mul_pos hm hpos
 have hikn : i * k ≤ n * k := Nat.mul_le_mul_right k (by omega)
 have hnm : (n + m) * k = n * k + m * k := Nat.add_mul _ _ _
 have him : (i + m) * k = i * k + m * k := Nat.add_mul _ _ _
 have hni : (n - i) * k = n * k - i * k := Nat.sub_mul _ _ _
 have hvl' : vs.length = m * i0.size := by rw [hvl, L.size]
 have hbw : b < w.heap.size := block_lt_of_cell (hcs 0 _ (List.getElem?_eq_getElem (by omega)))
 have hvw : vb < w.heap.size := block_lt_of_cell (hvs 0 _ (List.getElem?_eq_getElem (by omega)))
 have hkk : (n : Int) + (m : Int) - (i : Int) = ((n + m - i : Nat) : Int) := by omega
 have hik : i + (n + m - i) = n + m := by omega
 have hold : (Builtin.firstCells i0.size i (.slice (some ⟨b, off, none⟩) i c)).run P w.drew = .ok (cs.take (i * k)).toArray w.drew :=
  run_firstCells_some w.drew i0.size i ⟨b, off, none⟩ i c (cs.take (i * k)) (by rw [List.length_take, L.size]; omega) (fun j v hj => by
   rw [Addr.add_lit]
   rw [List.getElem?_take] at hj
   split at hj
   ·exact hcs j v hj
   ·cases hj)
 have hfit : Builtin.nextslicecap (n + m) c * i0.bytes ≤ 281474976710656 := growslice_fits hroom (by
  have : (n + m) * i0.bytes ≤ 1099511627776 * 128 := Nat.mul_le_mul hbig L.bytes
  omega)
 have hfit2 : (n + m - i) * i0.bytes ≤ 281474976710656 := by
  have : (n + m - i) * i0.bytes ≤ 1099511627776 * 128 := Nat.mul_le_mul (by omega) L.bytes
  omega
 have hrz : ∀ ty, (Builtin.append_ #[(ρ.t 24), (ρ.t 3)] ty #[.slice (some ⟨b, off, none⟩) i c, .int .i64 ((n : Int) + (m : Int) - (i : Int))]).run P w =
   .ok (.slice (some ⟨w.heap.size, 0, none⟩) (n + m) (grownCap w (n + m) c (ρ.t 9))) (w.drew.alloc (.cells ((cs.take (i * k)).toArray ++ Builtin.zeroCells zr.cells (n + m - i) ++ Builtin.zeroCells zr.cells (grownCap w (n + m) c (ρ.t 9) - (n + m))) (ρ.t 9))) := fun ty => by
  have h := Lib.run_append_grow_zeros w (ρ.t 24) (ρ.t 3) ty (ρ.t 9) i0 _ .i64 .i64 L.t24 L.t3 L.info L.zero (some ⟨b, off, none⟩) i c (cs.take (i * k)) hold (n + m - i) (by omega) (by rw [L.size]; omega) (by omega) (by omega) hfit2 (by rw [hik]; exact hfit)
  rw [hik] at h
  rw [hkk]
  exact h
 obtain ⟨G, hG⟩ : ∃ G, G = grownCap w (n + m) c (ρ.t 9) := ⟨_, rfl⟩
 obtain ⟨ROW, hROW⟩ : ∃ ROW : Array Value, ROW = (cs.take (i * k)).toArray ++ Builtin.zeroCells zr.cells (n + m - i) ++ Builtin.zeroCells zr.cells (G - (n + m)) := ⟨_, rfl⟩
 rw [← hG] at hrz ⊢
 rw [← hROW] at hrz ⊢
 have hRl : (n + m) * k ≤ ROW.size := by
  have e1 : (n + m - i) * k = (n + m) * k - i * k := Nat.sub_mul _ _ _
  rw [hROW]
  simp only [Array.size_append, List.size_toArray, List.length_take, Builtin.zeroCells, Array.size_map, Array.size_range, L.zs]
  omega
 obtain ⟨W1, hW1⟩ : ∃ W1, W1 = w.drew.alloc (.cells ROW (ρ.t 9)) := ⟨_, rfl⟩
 rw [← hW1] at hrz
 have hN : ∀ j, j < (n + m) * k → (W1.cell? ⟨w.heap.size, j, none⟩).isSome = true := fun j hj => by
  rw [hW1, World.cell?_alloc_at (w := w.drew) ROW _ w.heap.size j rfl, Array.getElem?_eq_getElem (by omega)]; rfl
 have hNf : ∀ j, W1.frozen? ⟨w.heap.size, j, none⟩ = false := fun j => by rw [hW1]; exact World.frozen?_alloc_at (w := w.drew) ROW _ w.heap.size j rfl
 have hOb : ∀ j v, w.cell? ⟨b, j, none⟩ = some v → W1.cell? ⟨b, j, none⟩ = some v := fun j v h => by rw [hW1, World.cell?_alloc_past (w := w.drew) _ b j hbw]; exact h
 have hOv : ∀ j v, w.cell? ⟨vb, j, none⟩ = some v → W1.cell? ⟨vb, j, none⟩ = some v := fun j v h => by rw [hW1, World.cell?_alloc_past (w := w.drew) _ vb j hvw]; exact h
 have hcpA : ∀ (W : World), (∀ x, W.cell? x = W1.cell? x) → (∀ x, W.frozen? x = W1.frozen? x) → ∀ ty dc, (Builtin.copy_ #[(ρ.t 24), (ρ.t 24)] ty #[.slice (some ⟨w.heap.size, i * k, none⟩) (n + m - i) dc, .slice (some ⟨vb, voff, none⟩) m vc]).run P W = .ok (goInt m) (W.setCells w.heap.size (i * k) vs) := fun W hWc hWf ty dc =>
  run_copy_k W _ _ ty (ρ.t 9) i0 w.heap.size (i * k) (n + m - i) dc ⟨vb, voff, none⟩ m vc m vs L.t24 L.info (by simp only [Nat.min_def]; split <;> omega) hvl'
   (fun j v hj => by rw [Addr.add_lit, hWc]; exact hOv _ v (hvs j v hj))
   (fun j hj => by rw [hvl] at hj; rw [hWc]; exact hN _ (by omega)) (fun j hj => by rw [hWf]; exact hNf _) h1v
 have hGn : n + m ≤ G := by rw [hG]; exact grownCap_ge w _ _ _
 have hG63 : G ≤ 9223372036854775807 := by
  have := grownCap_le_maxLen w (n + m) c (ρ.t 9) (by unfold maxLen; omega)
  rw [← hG] at this
  unfold maxLen at this
  omega
 have hGi : ¬ (G = i) := by omega
 have hGim : ¬ (G = i + m) := by omega
 have hci : ¬ (c = i) := by omega
 have hbN : b ≠ w.heap.size := by omega
 have hdl : (cs.drop (i * k)).length = (n - i) * i0.size := by rw [List.length_drop, hcl, L.size, hni]
 have hcpB : ∀ (W : World), (∀ x, W.cell? x = (W1.setCells w.heap.size (i * k) vs).cell? x) → (∀ x, W.frozen? x = (W1.setCells w.heap.size (i * k) vs).frozen? x) → ∀ ty dc sc, (Builtin.copy_ #[(ρ.t 24), (ρ.t 24)] ty #[.slice (some ⟨w.heap.size, (i + m) * k, none⟩) (n + m - (i + m)) dc, .slice (some ⟨b, off + i * k, none⟩) (n - i) sc]).run P W = .ok (goInt ((n - i : Nat) : Int)) (W.setCells w.heap.size ((i + m) * k) (cs.drop (i * k))) := fun W hWc hWf ty dc sc =>
  run_copy_k W _ _ ty (ρ.t 9) i0 w.heap.size ((i + m) * k) (n + m - (i + m)) dc ⟨b, off + i * k, none⟩ (n - i) sc (n - i) (cs.drop (i * k)) L.t24 L.info (by simp only [Nat.min_def]; split <;> omega) hdl
   (fun j v hj => by
    rw [Addr.add_lit, hWc, World.cell?_setCells_out _ _ _ _ _ (fun h _ => absurd h hbN), Nat.add_assoc]
    exact hOb _ v (hcs (i * k + j) v (by rwa [List.getElem?_drop] at hj)))
   (fun j hj => by rw [hdl, L.size] at hj; rw [hWc]; exact isSome_setCells _ _ _ _ (fun t ht => by rw [hvl] at ht; exact hN _ (by omega)) _ (hN _ (by omega)))
   (fun j hj => by rw [hWf, World.frozen?_setCells]; exact hNf _) (fun v hv => h1c v (List.mem_of_mem_drop hv))
 subst hW1
 have hE1 : ∀ x, ((w.alloc (.cells ROW (ρ.t 9))).drew).cell? x = (w.drew.alloc (.cells ROW (ρ.t 9))).cell? x := fun x => rfl
 have hE2 : ∀ x, ((w.alloc (.cells ROW (ρ.t 9))).drew).frozen? x = (w.drew.alloc (.cells ROW (ρ.t 9))).frozen? x := fun x => rfl
 have hF1 : ∀ x, (((w.alloc (.cells ROW (ρ.t 9))).drew.setCells w.heap.size (i * k) vs).drew).cell? x = ((w.drew.alloc (.cells ROW (ρ.t 9))).setCells w.heap.size (i * k) vs).cell? x := fun x => rfl
 have hF2 : ∀ x, (((w.alloc (.cells ROW (ρ.t 9))).drew.setCells w.heap.size (i * k) vs).drew).frozen? x = ((w.drew.alloc (.cells ROW (ρ.t 9))).setCells w.heap.size (i * k) vs).frozen? x := fun x => rfl
 have hw1 : IntKind.i64.wrap ((i : Int) + (m : Int)) = (i : Int) + (m : Int) := by rw [IntKind.wrap_i64]; omega
 have hb1 : (0 : Int) ≤ (i : Int) + (m : Int) := by omega
 have hin : i ≤ n := by omega
 have htn : ((i : Int) + (m : Int)).toNat = i + m := by omega
 have hb3 : (i : Int) ≤ (n : Int) := by omega
 clear hkk hik hold hROW hG hRl hnk hmk hikn hnm him hni hvl' hdl hfit hfit2 hN hNf hOb hOv
 obtain ⟨_, _, FG⟩ := L.f22
 go_enter FG, Body2.n22_ntmps ρ
 go_wp2_with (first
  | (at_builtin; refine Lib.wpList_append_run _ rfl _ _ _ _ rfl _ _ rfl rfl _ _ (hrz _) ?_)
  | (at_builtin; refine wpList_copy_runI _ rfl _ _ (ρ.t 24) (ρ.t 24) rfl _ _ rfl rfl (hcpA _ hE1 hE2 _ _) ?_)
  | (at_builtin; refine wpList_copy_runI _ rfl _ _ (ρ.t 24) (ρ.t 24) rfl _ _ rfl rfl (hcpB _ (fun _ => rfl) (fun _ => rfl) _ _ _) ?_))
 go_region_law_o (refine step_copy_runI rfl _ _ (ρ.t 24) (ρ.t 24) rfl (.slice (some ⟨w.heap.size, (i + m) * k, none⟩) (n + m - (i + m)) (G - (i + m))) (.slice (some ⟨b, off + i * k, none⟩) (n - i) (c - i)) (by simp [Act.eval, Act.put]) (by simp [Act.eval, Act.put]) (hcpB _ hF1 hF2 (ρ.t 3) (G - (i + m)) (c - i)) ?_)
 go_wp2
 go_ret
 exact ⟨rfl, rfl⟩
end
end Go.Rf

end
section
namespace Go.Rf
set_option linter.unusedSectionVars false
variable [T : Laid]
open Go.Shelf Go.RowKit Go.Lib Go.Proofs
set_option linter.unusedVariables false
set_option linter.unusedSimpArgs false
section
variable {P : Program} {S S' : Nat → Prop} {β : Key → Option Nat} {H : Nat → Option (List Value)} {w w' : World} {τ : Ty}
theorem Elems.flat (hf : scal τ = true) {ys : List τ.D} {cy : List Value} (h : Elems S w τ ys cy) : Elems S' w' τ ys cy := ⟨h.len, h.one, fun j v hv => Rd_scal hf (h.get j v hv)⟩
theorem Elems.take {ys : List τ.D} {cy : List Value} (h : Elems S w τ ys cy) {i : Nat} (hi : i ≤ ys.length) : Elems S w τ (ys.take i) (cy.take (i * τ.size)) := by
 have hle : i * τ.size ≤ ys.length * τ.size := Nat.mul_le_mul_right _ hi
 refine .of (by rw [List.length_take, List.length_take, h.len, Nat.min_eq_left hle, Nat.min_eq_left hi]) fun j v hv => ?_
 unfold nth at hv
 rw [List.getElem?_take] at hv
 split at hv
 ·rename_i hj
  have hlt : (j + 1) * τ.size ≤ i * τ.size := Nat.mul_le_mul_right _ hj
  rw [Nat.add_mul, Nat.one_mul] at hlt
  have e : win (cy.take (i * τ.size)) (j * τ.size) τ.size = win cy (j * τ.size) τ.size := by
   apply List.ext_getElem?
   intro t
   rw [win_get, win_get]
   split
   ·rw [List.getElem?_take, if_pos (by omega)]
   ·rfl
  rw [e]; exact h.get j v hv
 ·cases hv
theorem Elems.drop {ys : List τ.D} {cy : List Value} (h : Elems S w τ ys cy) (i : Nat) : Elems S w τ (ys.drop i) (cy.drop (i * τ.size)) := by
 refine .of (by rw [List.length_drop, List.length_drop, h.len, Nat.sub_mul]) fun j v hv => ?_
 unfold nth at hv
 rw [List.getElem?_drop] at hv
 have := h.get (i + j) v hv
 have e : win (cy.drop (i * τ.size)) (j * τ.size) τ.size = win cy ((i + j) * τ.size) τ.size := by
  apply List.ext_getElem?
  intro t
  rw [win_get, win_get, List.getElem?_drop, Nat.add_mul, Nat.add_assoc]
 rw [e]; exact this
theorem Elems.append {xs ys : List τ.D} {cx cy : List Value} (hx : Elems S w τ xs cx) (hy : Elems S w τ ys cy) : Elems S w τ (xs ++ ys : List τ.D) (cx ++ cy) := by
 refine .of (by rw [List.length_append, List.length_append, hx.len, hy.len, Nat.add_mul]) fun j v hv => ?_
 rcases nth_append hv with ⟨h1, h2⟩ | ⟨h1, h2⟩
 ·have hlt : (j + 1) * τ.size ≤ xs.length * τ.size := Nat.mul_le_mul_right _ h1
  rw [Nat.add_mul, Nat.one_mul] at hlt
  have e : win (cx ++ cy) (j * τ.size) τ.size = win cx (j * τ.size) τ.size := by
   apply List.ext_getElem?
   intro t
   rw [win_get, win_get]
   split
   ·rw [List.getElem?_append_left (by rw [hx.len]; omega)]
   ·rfl
  rw [e]; exact hx.get j v h2
 ·have hle : xs.length * τ.size ≤ j * τ.size := Nat.mul_le_mul_right _ h1
  have e : win (cx ++ cy) (j * τ.size) τ.size = win cy ((j - xs.length) * τ.size) τ.size := by
   apply List.ext_getElem?
   intro t
   rw [win_get, win_get, List.getElem?_append_right (by rw [hx.len]; omega), hx.len, Nat.sub_mul]
   split
   ·congr 1; omega
   ·rfl
  rw [e]; exact hy.get _ v h2
theorem win_eq {c d : List Value} {o n : Nat} (hd : d.length = n) (h : ∀ t, t < n → c[o + t]? = d[t]?) : win c o n = d := by
 apply List.ext_getElem?
 intro t
 rw [win_get]
 split
 ·exact h t (by assumption)
 ·rw [List.getElem?_eq_none (by omega)]
theorem own_flat {key : Key} {xs : List τ.D} {c : List Value} (h : VRel S β H w key (.sl τ) (.own .sh) xs c) :
  ∃ ad cap, c = [.slice ad xs.length cap] ∧ xs.length ≤ cap ∧ (cap = 0 ∨ ∃ b o cs, ad = some ⟨b, o, none⟩ ∧ β key = some b ∧ OBlk (isU8 τ) w b cs ∧ o + cap * τ.size ≤ cs.size ∧ Elems S w τ xs (win cs.toList o (xs.length * τ.size))) := by
 simp only [VRel, Fl.base] at h
 obtain ⟨_, ad, cap, rfl, hl, h⟩ := h
 refine ⟨ad, cap, rfl, hl, h.imp id ?_⟩
 rintro ⟨b, o, cs, rfl, hk, hB, hz, hel⟩
 have hle : xs.length * τ.size ≤ cap * τ.size := Nat.mul_le_mul_right _ hl
 refine ⟨b, o, cs, rfl, hk, hB, hz, .of (win_len (by rw [Array.length_toList]; exact Nat.le_trans (Nat.add_le_add_left hle o) hz)) fun j v hv => ?_⟩
 have hj : j < List.length xs := by unfold nth at hv; exact (List.getElem?_eq_some_iff.1 hv).1
 have hlt : (j + 1) * τ.size ≤ List.length xs * τ.size := Nat.mul_le_mul_right _ hj
 rw [Nat.add_mul, Nat.one_mul] at hlt
 rw [win_win (by omega)]
 have := hel j v hv
 rw [VRel_sh] at this
 exact this
theorem own_of {key : Key} {xs : List τ.D} {cx : List Value} {b o cap : Nat} {cs : Array Value} (hl : xs.length ≤ cap) (hk : β key = some b) (hB : OBlk (isU8 τ) w b cs) (hz : o + cap * τ.size ≤ cs.size) (hx : Elems S w τ xs cx) (hw : win cs.toList o (xs.length * τ.size) = cx) :
  VRel S β H w key (.sl τ) (.own .sh) xs [.slice (some ⟨b, o, none⟩) xs.length cap] := by
 simp only [VRel, Fl.base]
 refine ⟨by simp [Pins, Fl.pins], some ⟨b, o, none⟩, cap, rfl, hl, .inr ⟨b, o, cs, rfl, hk, hB, hz, fun j v hv => ?_⟩⟩
 have hj : j < List.length xs := by unfold nth at hv; exact (List.getElem?_eq_some_iff.1 hv).1
 have hlt : (j + 1) * τ.size ≤ List.length xs * τ.size := Nat.mul_le_mul_right _ hj
 rw [Nat.add_mul, Nat.one_mul] at hlt
 rw [VRel_sh, ← win_win (o := o) (n := xs.length * τ.size) (by omega), hw]
 exact hx.get j v hv
theorem frozen_blk {q : Bool} {b o : Nat} {cs : Array Value} (hB : OBlk q w b cs) (ho : o < cs.size) : w.frozen? ⟨b, o, none⟩ = false := by
 obtain ⟨e, fz, hb, hf, _⟩ := hB
 have := hf o ho
 simp only [World.frozen?, hb]
 simp only [Bool.and_eq_false_iff, decide_eq_false_iff_not]
 by_cases h : fz.1 ≤ o
 ·right; intro h2; exact this ⟨h, h2⟩
 ·left; exact h
end
section
variable {E : Env} {ρ : Ren} {i0 : TypeInfo} {zr : Value} {τ : Ty}
def delH (τ : Ty) : List Dyn → Option (Ty.pair (.sl τ) .unit).D
 | [a, b, c] => (slOf τ a).bind fun xs => (i64Of b).bind fun i => (i64Of c).bind fun j => cond (decide (0 ≤ i) && (decide (i < j) && decide (j ≤ (xs.length : Int)))) (some ((xs.take i.toNat ++ xs.drop j.toNat : List τ.D), ())) none
 | _ => none
theorem delH_some {ds : List Dyn} {x : (Ty.pair (.sl τ) .unit).D} (h : delH τ ds = some x) : ∃ (xs : List τ.D) (i j : Nat), ds = [⟨.sl τ, xs⟩, ⟨.int .i64, (i : Int)⟩, ⟨.int .i64, (j : Int)⟩] ∧ i < j ∧ j ≤ xs.length ∧ x = ((xs.take i ++ xs.drop j : List τ.D), ()) := by
 unfold delH at h
 split at h
 ·rename_i a b c
  obtain ⟨xs, h1, h⟩ := Option.bind_eq_some_iff.1 h
  obtain ⟨i, h2, h⟩ := Option.bind_eq_some_iff.1 h
  obtain ⟨j, h3, h⟩ := Option.bind_eq_some_iff.1 h
  rw [slOf_some h1, i64Of_some h2, i64Of_some h3]
  cases hb : (decide (0 ≤ i) && (decide (i < j) && decide (j ≤ (xs.length : Int)))) with
  | false => rw [hb] at h; cases h
  | true =>
   rw [hb] at h
   simp only [cond_true] at h
   have h := Option.some.inj h
   simp only [Bool.and_eq_true, decide_eq_true_eq] at hb
   refine ⟨xs, i.toNat, j.toNat, ?_, by omega, by omega, h.symm⟩
   rw [Int.toNat_of_nonneg hb.1, Int.toNat_of_nonneg (by omega)]
 ·cases h
theorem delete_fn {f : FuncId} {fn : Func} (L : SlLaysE0.n45 E.P ρ) (hf : ρ.f 45 = f) (hfn : E.P.funcs[f]? = some fn) (hnm : (fn.name == "runtime.NumGoroutine") = false) (hbd : fn.body.isNone = false) (hi0 : E.P.info? (ρ.t 23) = some i0) (v23 : ∀ w, (zeroValue (ρ.t 23)).run E.P w = .ok zr w) (hz1 : i0.size = τ.size) (hzk : zr.cells.size = τ.size)
  (hz1c : ∀ v ∈ zr.cells.toList, v.oneCell' = true) (z23 : ∀ w, (Go.sizeOf (ρ.t 23)).run E.P w = .ok τ.size w) (hfl : scal τ = true) {keep : List Nat} {mv : List (Nat × Nat)} (xs : List τ.D) (i j : Nat) (hij : i < j) (hj : j ≤ xs.length) :
  FnOKc E ⟨[.mv (.sl τ) (.own .sh), .ro (.int .i64), .ro (.int .i64)], 1, .pair (.sl τ) .unit, .pr (.own .sh) .sh, keep, mv⟩ f [⟨.sl τ, xs⟩, ⟨.int .i64, (i : Int)⟩, ⟨.int .i64, (j : Int)⟩] ((xs.take i ++ xs.drop j : List τ.D), ()) := by
 intro w S β cs hs ha
 match cs, ha with
 | [c1, c2, c3], ha =>
  simp only [ArgsAt] at ha
  obtain ⟨_, _, hv, _, h2, _, h3, _⟩ := ha
  simp only [Rd] at h2 h3
  subst h2; subst h3
  obtain ⟨ad, cap, rfl, hl, hb⟩ := own_flat hv
  rcases hb with hb | ⟨b, o, cs, rfl, hk, hB, hz, hel⟩
  ·omega
  refine .inl ⟨fn, hfn, hnm, hbd, ?_⟩
  have hle : xs.length * τ.size ≤ cap * τ.size := Nat.mul_le_mul_right _ hl
  obtain ⟨CX, hCX⟩ : ∃ CX, CX = win cs.toList o (xs.length * τ.size) := ⟨_, rfl⟩
  rw [← hCX] at hel
  have hget : ∀ t, t < xs.length * τ.size → cs.toList[o + t]? = CX[t]? := fun t ht => by rw [hCX, win_get, if_pos ht]
  have hcall := delete_k L i0 hi0 zr v23 τ.size hz1 hzk hz1c z23 b o cap xs.length i j CX w hel.len
   (fun t v hv => cell_blk hB.blk (by
    have ht : t < xs.length * τ.size := by rw [← hel.len]; exact (List.getElem?_eq_some_iff.1 hv).1
    rw [hget t ht]; exact hv))
   (fun t ht => frozen_blk hB (by omega)) hel.one hij hj hl
  rw [hf] at hcall
  refine hcall.mono ?_
  rintro e w' ⟨rfl, rfl⟩
  obtain ⟨eb, fz, hbl, hfz, hq⟩ := hB
  have hjk : j * τ.size ≤ xs.length * τ.size := Nat.mul_le_mul_right _ hj
  have hik : i * τ.size ≤ j * τ.size := Nat.mul_le_mul_right _ (by omega)
  have hdl : (CX.drop (j * τ.size)).length = (xs.length - j) * τ.size := by rw [List.length_drop, hel.len, Nat.sub_mul]
  have hlt : (xs.length - j) * τ.size + j * τ.size = xs.length * τ.size := by rw [← Nat.add_mul]; congr 1; omega
  have hlu : (i + (xs.length - j)) * τ.size = i * τ.size + (xs.length - j) * τ.size := Nat.add_mul _ _ _
  have hlz : (xs.length - (i + (xs.length - j))) * τ.size + (i + (xs.length - j)) * τ.size = xs.length * τ.size := by rw [← Nat.add_mul]; congr 1; omega
  obtain ⟨cs1, k1, k2, k3, k4, k5⟩ := setCells_chg (vs := CX.drop (j * τ.size)) (o := o + i * τ.size) (w := w.drew) (b := b) (cs := cs) hbl (by rw [hdl]; omega)
  have htl : cs.toList.length = cs.size := Array.length_toList
  have htl1 : cs1.toList.length = cs1.size := Array.length_toList
  have hs1 : cs1.size = cs.size := by
   have := congrArg List.length k2
   rw [splice_len (by rw [hdl, htl]; omega)] at this
   simpa using this
  obtain ⟨Z, hZ⟩ : ∃ Z, Z = (Builtin.zeroCells zr.cells (xs.length - (i + (xs.length - j)))).toList := ⟨_, rfl⟩
  have hZl : Z.length = (xs.length - (i + (xs.length - j))) * τ.size := by rw [hZ]; simp [Builtin.zeroCells, hzk]
  rw [← hZ]
  obtain ⟨cs2, q1, q2, q3, q4, q5⟩ := setCells_chg (vs := Z) (o := o + (i + (xs.length - j)) * τ.size) (b := b) k1 (by rw [hZl, hs1]; omega)
  have hs2 : cs2.size = cs.size := by
   have := congrArg List.length q2
   rw [splice_len (by rw [hZl, htl1]; omega)] at this
   rw [← hs1]; simpa using this
  have hsize := q4.trans k4
  have hother : ∀ b', b' ≠ b → (((w.drew.setCells b (o + i * τ.size) (CX.drop (j * τ.size))).setCells b (o + (i + (xs.length - j)) * τ.size) Z).heap[b']? = w.heap[b']?) := fun b' hb' => (q3 b' hb').trans (k3 b' hb')
  have hlen : (xs.take i ++ xs.drop j).length = i + (xs.length - j) := by rw [List.length_append, List.length_take, List.length_drop]; omega
  refine ⟨S, β, [[.slice (some ⟨b, o, none⟩) (i + (xs.length - j)) cap]], ⟨hs.inj, hs.sep, fun k b hb => by rw [hsize]; exact hs.live k b hb, fun b hb => by rw [hsize]; exact hs.liveS b hb, hs.tabs fun b' hb' => ⟨hb', hother b' (fun e => hs.sep _ _ hk (e ▸ hb'))⟩⟩,
   ⟨Nat.le_of_eq hsize.symm, fun b' hb' hk' => hother b' (fun e => hk' [0] (by rw [e]; exact hk)), fun k b hb => .inl ⟨k, hb⟩, fun _ h => h, fun _ h => .inl h, (show SameOut w w.drew from ⟨rfl, rfl, rfl⟩).trans (k5.trans q5)⟩, ?_, rfl, ?_⟩
  ·simp only [ResAt]
   refine ⟨?_, trivial⟩
   have hx : Elems S ((w.drew.setCells b (o + i * τ.size) (CX.drop (j * τ.size))).setCells b (o + (i + (xs.length - j)) * τ.size) Z) τ (xs.take i ++ xs.drop j : List τ.D) (CX.take (i * τ.size) ++ CX.drop (j * τ.size)) :=
    ((hel.take (by omega)).append (hel.drop j)).flat hfl
   have := own_of (β := β) (H := noH) (key := [2 * 0]) (b := b) (o := o) (cap := cap) (cs := cs2) (by rw [hlen]; omega) hk ⟨eb, fz, q1, by rw [hs2]; exact hfz, hq⟩ (by rw [hs2]; exact hz) hx (by
    rw [hlen]
    refine win_eq (by rw [List.length_append, List.length_take, hdl, hel.len]; omega) fun t ht => ?_
    rw [q2, splice_get (by rw [hZl, htl1]; omega), if_pos (by omega), k2, splice_get (by rw [hdl, htl]; omega)]
    by_cases h1 : t < i * τ.size
    ·rw [if_pos (by omega), List.getElem?_append_left (by rw [List.length_take, hel.len]; omega), List.getElem?_take, if_pos h1]
     exact hget t (by omega)
    ·rw [if_neg (by omega), if_pos (by rw [hdl]; omega), List.getElem?_append_right (by rw [List.length_take, hel.len]; omega), List.length_take, hel.len, Nat.min_eq_left (by omega)]
     congr 1; omega)
   rw [hlen] at this
   exact this
  ·simp [IoAt, tailTy, tailD]
 | [], ha | [_], ha | [_, _], ha => simp [ArgsAt] at ha
 | _ :: _ :: _ :: _ :: _, ha => simp [ArgsAt] at ha
end
theorem run_overlaps_own {P : Program} (w : World) (tS tR e : TypeId) (ht : P.underlying tS = some (.slice e)) (size : Nat) (hz : ∀ w, (Go.sizeOf e).run P w = .ok size w)
  (a b : Addr) (la ca lb cb : Nat) (hne : a.block ≠ b.block) {csv : Array Value} (ha : Blk w a.block csv) (h0 : csv.size ≠ 0) {csb : Array Value} (hb : OBlk false w b.block csb) :
  (Extern.SlicesOverlaps.overlaps #[tS, tS] #[tR] #[.slice (some a) la ca, .slice (some b) lb cb]).run P w = .ok (.bool false) w := by
 obtain ⟨ea, fa, ha⟩ := ha
 obtain ⟨eb, fb, hb, _, hq⟩ := hb
 have hq : fb = (0, 0) := by simpa using hq
 subst hq
 have hnb : (a.block != b.block) = true := by simpa using hne
 have hnb' : (a.block == b.block) = false := by simpa using hne
 have hsa : w.shape? a.block = some (ea, csv.size) := by simp only [World.shape?, ha]
 have hsb : w.shape? b.block = some (eb, csb.size) := by simp only [World.shape?, hb]
 have hfb : w.frozen? b = false := by simp only [World.frozen?, hb]; simp
 have hfe : w.frozen? { block := b.block, off := csb.size } = false := by simp only [World.frozen?, hb]; simp
 change Sem.run P (α := Value) (do
  let some t := (#[tS, tS] : Array TypeId)[0]? | stuck "slices.overlaps: no parameter types"
  let .slice elem ← underlying t | stuck "slices.overlaps: slice type expected"
  let size ← sizeOf elem
  match (some a : Option Addr), (some b : Option Addr) with
  | some a, some b =>
   if la = 0 ∨ lb = 0 ∨ size = 0 then pure (Value.bool false)
   else if a.block != b.block && (← frozen a) && (← frozen b) then unsupported .addressObserved
   else do
    if a.block != b.block then do
     noView a; noView b
     if ← mayBeOne a b then return Value.bool ((← choose (.extern "sameAddr.stringBytes" 2)) == 1)
    pure (Value.bool (a.block == b.block && a.off < b.off + lb * size && b.off < a.off + la * size))
  | _, _ => pure (Value.bool false)) w = _
 by_cases hz0 : la = 0 ∨ lb = 0 ∨ size = 0
 ·simp [run_underlying ht, hz, hz0]
 ·obtain ⟨n, hn⟩ : ∃ n, csv.size = n + 1 := ⟨csv.size - 1, by omega⟩
  rw [hn] at hsa
  cases hfa : w.frozen? a <;> cases hfae : w.frozen? { block := a.block, off := n + 1 } <;>
   simp [run_underlying ht, hz, hz0, hnb, hnb', frozen, noView, viewAt, mayBeOne, stringish, shape, Sem.run, hsa, hsb, hfa, hfae, hfb, hfe]
section
variable {E : Env} {ρ : Ren} {i0 : TypeInfo} {zr : Value} {τ : Ty} {w w' : World} {S : Nat → Prop} {β : Key → Option Nat} {keep : List Nat} {mv : List (Nat × Nat)} {ms : List Mode} {ax : List (List Value)}
theorem ret_own (hs : Sane w S β) {b o cap : Nat} {cs cs' : Array Value} {eb : TypeId} {fz : Nat × Nat} (hk : β [0] = some b) (hB : w.heap[b]? = some (.cells cs eb fz)) (hO : OBlk (isU8 τ) w b cs)
  (h' : w'.heap[b]? = some (.cells cs' eb fz)) (hcs : cs'.size = cs.size) (hoth : ∀ b', b' ≠ b → w'.heap[b']? = w.heap[b']?) (hsize : w'.heap.size = w.heap.size) (hout : SameOut w w')
  {xs : List τ.D} {cx : List Value} (hl : xs.length ≤ cap) (hz : o + cap * τ.size ≤ cs.size) (hx : Elems S w' τ xs cx) (hw : win cs'.toList o (xs.length * τ.size) = cx) (hio : IoAt S β w' ms ax 0 .unit ()) :
  Ret ⟨ms, 1, .pair (.sl τ) .unit, .pr (.own .sh) .sh, keep, mv⟩ (xs, ()) ax w S β (.slice (some ⟨b, o, none⟩) xs.length cap) w' := by
 obtain ⟨e', fz', hB', hfz, hq⟩ := hO
 rw [hB] at hB'; cases hB'
 refine ⟨S, β, [[.slice (some ⟨b, o, none⟩) xs.length cap]], ⟨hs.inj, hs.sep, fun k b hb => by rw [hsize]; exact hs.live k b hb, fun b hb => by rw [hsize]; exact hs.liveS b hb, hs.tabs fun b' hb' => ⟨hb', hoth b' (fun e => hs.sep _ _ hk (e ▸ hb'))⟩⟩,
  ⟨Nat.le_of_eq hsize.symm, fun b' hb' hk' => hoth b' (fun e => hk' [0] (by rw [e]; exact hk)), fun k b hb => .inl ⟨k, hb⟩, fun _ h => h, fun _ h => .inl h, hout⟩, ?_, rfl, hio⟩
 simp only [ResAt]
 exact ⟨own_of hl hk ⟨eb, fz, h', by rw [hcs]; exact hfz, hq⟩ (by rw [hcs]; exact hz) hx hw, trivial⟩
theorem ret_new (hs : Sane w S β) {cap : Nat} {cs' : Array Value} {eb : TypeId}
  (h' : w'.heap[w.heap.size]? = some (.cells cs' eb (0, 0))) (hoth : ∀ b', b' < w.heap.size → w'.heap[b']? = w.heap[b']?) (hsize : w'.heap.size = w.heap.size + 1) (hout : SameOut w w')
  {xs : List τ.D} {cx : List Value} (hl : xs.length ≤ cap) (hz : cap * τ.size ≤ cs'.size) (hx : Elems S w' τ xs cx) (hw : win cs'.toList 0 (xs.length * τ.size) = cx) (hio : ∀ β', IoAt S β' w' ms ax 0 .unit ()) :
  Ret ⟨ms, 1, .pair (.sl τ) .unit, .pr (.own .sh) .sh, keep, mv⟩ (xs, ()) ax w S β (.slice (some ⟨w.heap.size, 0, none⟩) xs.length cap) w' := by
 refine ⟨S, fun k => if k = [0] then some w.heap.size else none, [[.slice (some ⟨w.heap.size, 0, none⟩) xs.length cap]], ⟨?_, ?_, ?_, fun b hb => by rw [hsize]; exact Nat.lt_succ_of_lt (hs.liveS b hb), hs.tabs fun b' hb' => ⟨hb', hoth b' (hs.liveS b' hb')⟩⟩,
  ⟨by omega, fun b' hb' _ => hoth b' hb', ?_, fun _ h => h, fun _ h => .inl h, hout⟩, ?_, rfl, hio _⟩
 ·intro k k' b h1 h2
  split at h1 <;> split at h2 <;> simp_all
 ·intro k b h1 h2
  split at h1 <;> simp at h1
  have := hs.liveS b h2
  omega
 ·intro k b h1
  split at h1 <;> simp at h1
  omega
 ·intro k b h1
  split at h1 <;> simp at h1
  exact .inr (by omega)
 ·simp only [ResAt]
  exact ⟨own_of hl (by simp) ⟨eb, (0, 0), h', fun _ _ => by simp, .inr rfl⟩ (by omega) hx hw, trivial⟩
end
theorem isSome_blk {w : World} {b o : Nat} {cs : Array Value} (hB : Blk w b cs) (h : o < cs.size) : (w.cell? ⟨b, o, none⟩).isSome = true := by
 rw [cell_blk hB (v := cs[o]) (by rw [Array.getElem?_toList, Array.getElem?_eq_getElem h])]; rfl
theorem zc_len {zr : Value} {k n : Nat} (h : zr.cells.size = k) : (Builtin.zeroCells zr.cells n).toList.length = n * k := by simp [Builtin.zeroCells, h]
theorem zc_size {zr : Value} {k n : Nat} (h : zr.cells.size = k) : (Builtin.zeroCells zr.cells n).size = n * k := by simp [Builtin.zeroCells, h]
theorem al_at (w : World) (o : Obj) : (w.alloc o).heap[w.heap.size]? = some o := by
 show (w.heap.push o)[w.heap.size]? = some o
 simp
theorem al_past {w : World} {b : Nat} (h : b < w.heap.size) (o : Obj) : (w.alloc o).heap[b]? = w.heap[b]? := by
 show (w.heap.push o)[b]? = w.heap[b]?
 rw [Array.getElem?_push, if_neg (Nat.ne_of_lt h)]
theorem al_size (w : World) (o : Obj) : (w.alloc o).heap.size = w.heap.size + 1 := by
 show (w.heap.push o).size = _
 simp
theorem out_drew {w w' : World} (h : SameOut w.drew w') : SameOut w w' := (show SameOut w w.drew from ⟨rfl, rfl, rfl⟩).trans h
section
variable {E : Env} {ρ : Ren} {i0 : TypeInfo} {zr : Value} {τ : Ty}
def OvL (P : Program) (ρ : Ren) : Prop := ∃ fn, P.funcs[ρ.f 29]? = some fn ∧ (fn.name == "runtime.NumGoroutine") = false ∧ fn.body.isNone = true ∧ Extern.findNext fn = none ∧ Extern.find fn = some (Extern.SlicesOverlaps.overlaps #[ρ.t 24, ρ.t 24] #[ρ.t 4])
def insH (τ : Ty) : List Dyn → Option (Ty.pair (.sl τ) .unit).D
 | [a, b, c] => (slOf τ a).bind fun xs => (i64Of b).bind fun i => (slOf τ c).bind fun vs => cond (decide (0 ≤ i) && (decide (i ≤ (xs.length : Int)) && (Nat.blt 0 vs.length && Nat.ble (xs.length + vs.length) 1099511627776))) (some ((xs.take i.toNat ++ vs ++ xs.drop i.toNat : List τ.D), ())) none
 | _ => none
theorem insH_some {ds : List Dyn} {x : (Ty.pair (.sl τ) .unit).D} (h : insH τ ds = some x) : ∃ (xs vs : List τ.D) (i : Nat), ds = [⟨.sl τ, xs⟩, ⟨.int .i64, (i : Int)⟩, ⟨.sl τ, vs⟩] ∧ i ≤ xs.length ∧ 0 < vs.length ∧ xs.length + vs.length ≤ 1099511627776 ∧ x = ((xs.take i ++ vs ++ xs.drop i : List τ.D), ()) := by
 unfold insH at h
 split at h
 ·rename_i a b c
  obtain ⟨xs, h1, h⟩ := Option.bind_eq_some_iff.1 h
  obtain ⟨i, h2, h⟩ := Option.bind_eq_some_iff.1 h
  obtain ⟨vs, h3, h⟩ := Option.bind_eq_some_iff.1 h
  rw [slOf_some h1, i64Of_some h2, slOf_some h3]
  cases hb : (decide (0 ≤ i) && (decide (i ≤ (xs.length : Int)) && (Nat.blt 0 vs.length && Nat.ble (xs.length + vs.length) 1099511627776))) with
  | false => rw [hb] at h; cases h
  | true =>
   rw [hb] at h
   simp only [cond_true] at h
   have h := Option.some.inj h
   simp only [Bool.and_eq_true, decide_eq_true_eq, Nat.blt_eq, Nat.ble_eq] at hb
   refine ⟨xs, vs, i.toNat, ?_, by omega, hb.2.2.1, hb.2.2.2, h.symm⟩
   rw [Int.toNat_of_nonneg hb.1]
 ·cases h
theorem insert_fn {f : FuncId} {fn : Func} (L : InsL E.P ρ i0 zr τ.size) (hO : OvL E.P ρ) (hf : ρ.f 22 = f) (hfn : E.P.funcs[f]? = some fn) (hnm : (fn.name == "runtime.NumGoroutine") = false) (hbd : fn.body.isNone = false) (hfl : scal τ = true) (hu : isU8 τ = false)
  {keep : List Nat} {mv : List (Nat × Nat)} (xs vs : List τ.D) (i : Nat) (hi : i ≤ xs.length) (hm : 0 < vs.length) (hbig : xs.length + vs.length ≤ 1099511627776) :
  FnOKc E ⟨[.mv (.sl τ) (.own .sh), .ro (.int .i64), .ro (.sl τ)], 1, .pair (.sl τ) .unit, .pr (.own .sh) .sh, keep, mv⟩ f [⟨.sl τ, xs⟩, ⟨.int .i64, (i : Int)⟩, ⟨.sl τ, vs⟩] ((xs.take i ++ vs ++ xs.drop i : List τ.D), ()) := by
 intro w S β cs hs ha
 match cs, ha with
 | [c1, c2, c3], ha =>
  simp only [ArgsAt] at ha
  obtain ⟨_, _, hv, _, h2, _, h3, _⟩ := ha
  simp only [Rd] at h2 h3
  subst h2
  obtain ⟨ad, cap, rfl, hl, hb⟩ := own_flat hv
  obtain ⟨av, vc, rfl, hlv, hbv⟩ := h3
  rcases hbv with hbv | ⟨vb, vo, csv, rfl, hSv, hBv, hzv, helv⟩
  ·rw [hbv] at hm; exact absurd hm (Nat.lt_irrefl 0)
  refine .inl ⟨fn, hfn, hnm, hbd, ?_⟩
  have hpos := L.pos
  have hle : xs.length * τ.size ≤ cap * τ.size := Nat.mul_le_mul_right _ hl
  have hmk : τ.size ≤ vs.length * τ.size := Nat.le_mul_of_pos_left _ hm
  have hik : i * τ.size ≤ xs.length * τ.size := Nat.mul_le_mul_right _ hi
  have hnm : (xs.length + vs.length) * τ.size = xs.length * τ.size + vs.length * τ.size := Nat.add_mul _ _ _
  have him : (i + vs.length) * τ.size = i * τ.size + vs.length * τ.size := Nat.add_mul _ _ _
  obtain ⟨VS, hVS⟩ : ∃ VS, VS = win csv.toList vo (vs.length * τ.size) := ⟨_, rfl⟩
  have hev : Elems S w τ vs VS := by
   rw [hVS]
   refine .of (win_len (by rw [Array.length_toList]; exact hzv)) fun j v hv => ?_
   have hj : j < List.length vs := by unfold nth at hv; exact (List.getElem?_eq_some_iff.1 hv).1
   have hlt : (j + 1) * τ.size ≤ List.length vs * τ.size := Nat.mul_le_mul_right _ hj
   rw [Nat.add_mul, Nat.one_mul] at hlt
   rw [win_win (by omega)]
   exact helv j v hv
  have hvs : ∀ j v, VS[j]? = some v → w.cell? ⟨vb, vo + j, none⟩ = some v := fun j v hj => cell_blk hBv (by
   rw [hVS, win_get] at hj
   split at hj
   ·exact hj
   ·cases hj)
  have hown : ∃ CX, Elems S w τ xs CX ∧ (∀ a, ad = some a → ∀ j v, CX[j]? = some v → w.cell? (a.add j) = some v) ∧ (ad = none → xs.length = 0) := by
   rcases hb with hb | ⟨b, o, cs, rfl, hk, hB, hz, hel⟩
   ·have h0 : xs = [] := List.length_eq_zero_iff.1 (by omega)
    subst h0
    exact ⟨[], .of (by simp) fun j v hv => by simp [nth] at hv, fun _ _ j v hj => by simp at hj, fun _ => rfl⟩
   ·refine ⟨_, hel, fun a ha j v hj => ?_, fun h => by cases h⟩
    cases ha
    rw [Addr.add_lit]
    refine cell_blk hB.blk ?_
    rw [win_get] at hj
    split at hj
    ·exact hj
    ·cases hj
  have hx' : (xs.take i ++ vs ++ xs.drop i).length = xs.length + vs.length := by simp only [List.length_append, List.length_take, List.length_drop]; omega
  by_cases hroom : xs.length + vs.length ≤ cap
  ·rcases hb with hb | ⟨b, o, cs, rfl, hk, hB, hz, hel⟩
   ·omega
   clear hown
   have hrk : (xs.length + vs.length) * τ.size ≤ cap * τ.size := Nat.mul_le_mul_right _ hroom
   obtain ⟨CX, hCX⟩ : ∃ CX, CX = win cs.toList o (xs.length * τ.size) := ⟨_, rfl⟩
   rw [← hCX] at hel
   have hget : ∀ t, t < xs.length * τ.size → cs.toList[o + t]? = CX[t]? := fun t ht => by rw [hCX, win_get, if_pos ht]
   have hcx : ∀ j v, CX[j]? = some v → w.cell? ⟨b, o + j, none⟩ = some v := fun j v hj => cell_blk hB.blk (by
    have ht : j < xs.length * τ.size := by rw [← hel.len]; exact (List.getElem?_eq_some_iff.1 hj).1
    rw [hget j ht]; exact hj)
   have hbv : vb ≠ b := fun e => hs.sep [0] b hk (e ▸ hSv)
   by_cases hin : i = xs.length
   ·subst hin
    have hcall := insert_end_room L b o xs.length cap vb vo vs.length vc VS w hm hroom (by omega) hev.len
     (fun j hj => isSome_blk hB.blk (by omega)) (fun j hj => frozen_blk hB (by omega)) hvs hev.one
    rw [hf] at hcall
    refine hcall.mono ?_
    rintro e w' ⟨rfl, rfl⟩
    have hO' := hB
    obtain ⟨eb, fz, hbl, _, _⟩ := hB
    obtain ⟨cs1, k1, k2, k3, k4, k5⟩ := setCells_chg (vs := VS) (o := o + xs.length * τ.size) (b := b) hbl (by rw [hev.len]; omega)
    have htl : cs.toList.length = cs.size := Array.length_toList
    have hs1 : cs1.size = cs.size := by
     have := congrArg List.length k2
     rw [splice_len (by rw [hev.len, htl]; omega)] at this
     simpa using this
    have hxs : xs.take xs.length ++ vs ++ xs.drop xs.length = xs ++ vs := by simp
    have hr := ret_own (τ := τ) (keep := keep) (mv := mv) (ms := [.mv (.sl τ) (.own .sh), .ro (.int .i64), .ro (.sl τ)]) (ax := [[Value.slice (some ⟨b, o, none⟩) xs.length cap], [.int .i64 (xs.length : Int)], [Value.slice (some ⟨vb, vo, none⟩) vs.length vc]]) (xs := (xs ++ vs : List τ.D)) (cap := cap) hs hk hbl hO' k1 hs1 k3 k4 k5 (by rw [List.length_append]; exact hroom) hz ((hel.append hev).flat hfl)
     (by
      rw [List.length_append, hnm]
      refine win_eq (by rw [List.length_append, hel.len, hev.len]) fun t ht => ?_
      rw [k2, splice_get (by rw [hev.len, htl]; omega)]
      by_cases h1 : t < xs.length * τ.size
      ·rw [if_pos (by omega), List.getElem?_append_left (by rw [hel.len]; omega)]
       exact hget t h1
      ·rw [if_neg (by omega), if_pos (by rw [hev.len]; omega), List.getElem?_append_right (by rw [hel.len]; omega), hel.len]
       congr 1; omega)
     (by simp [IoAt])
    rw [hxs]
    rw [List.length_append] at hr
    exact hr
   ·have hin' : i < xs.length := by omega
    have hcall := insert_shift L b o xs.length cap i vb vo vs.length vc CX VS w hin' hm hroom (by omega) hbv hel.len hev.len hcx
     (fun j hj => isSome_blk hB.blk (by omega)) (fun j hj => frozen_blk hB (by omega)) hvs hel.one hev.one
     (fun lb cb => by
      obtain ⟨g, g1, g2, g3, g4, g5⟩ := hO
      rw [run_callFunc_extern g1 g2 g3 g4 g5, run_overlaps_own w (ρ.t 24) (ρ.t 4) (ρ.t 9) L.t24 τ.size L.z9 ⟨vb, vo, none⟩ ⟨b, o + (i + vs.length) * τ.size, none⟩ vs.length vc lb cb hbv hBv (by omega) (csb := cs) (hu ▸ hB)]
      rfl)
    rw [hf] at hcall
    refine hcall.mono ?_
    rintro e w' ⟨rfl, rfl⟩
    have hO' := hB
    obtain ⟨eb, fz, hbl, _, _⟩ := hB
    have hdl : (CX.drop (i * τ.size)).length = xs.length * τ.size - i * τ.size := by rw [List.length_drop, hel.len]
    obtain ⟨cs1, k1, k2, k3, k4, k5⟩ := setCells_chg (vs := CX.drop (i * τ.size)) (o := o + (i + vs.length) * τ.size) (w := w.drew) (b := b) (cs := cs) hbl (by rw [hdl]; omega)
    have htl : cs.toList.length = cs.size := Array.length_toList
    have htl1 : cs1.toList.length = cs1.size := Array.length_toList
    have hs1 : cs1.size = cs.size := by
     have := congrArg List.length k2
     rw [splice_len (by rw [hdl, htl]; omega)] at this
     simpa using this
    obtain ⟨cs2, q1, q2, q3, q4, q5⟩ := setCells_chg (vs := VS) (o := o + i * τ.size) (b := b) k1 (by rw [hev.len, hs1]; omega)
    have hs2 : cs2.size = cs.size := by
     have := congrArg List.length q2
     rw [splice_len (by rw [hev.len, htl1]; omega)] at this
     rw [← hs1]; simpa using this
    have hr := ret_own (τ := τ) (keep := keep) (mv := mv) (ms := [.mv (.sl τ) (.own .sh), .ro (.int .i64), .ro (.sl τ)]) (ax := [[Value.slice (some ⟨b, o, none⟩) xs.length cap], [.int .i64 (i : Int)], [Value.slice (some ⟨vb, vo, none⟩) vs.length vc]]) (xs := (xs.take i ++ vs ++ xs.drop i : List τ.D)) (cap := cap) hs hk hbl hO' q1 hs2 (fun b' hb' => (q3 b' hb').trans (k3 b' hb')) (q4.trans k4) (out_drew (k5.trans q5)) (by rw [hx']; exact hroom) hz ((((hel.take hi).append hev).append (hel.drop i)).flat hfl)
     (by
      rw [hx', hnm]
      have htk : (CX.take (i * τ.size)).length = i * τ.size := by rw [List.length_take, hel.len]; omega
      refine win_eq (by rw [List.length_append, List.length_append, htk, hdl, hev.len]; omega) fun t ht => ?_
      rw [q2, splice_get (by rw [hev.len, htl1]; omega), k2, splice_get (by rw [hdl, htl]; omega)]
      by_cases h1 : t < i * τ.size
      ·rw [if_pos (by omega), if_pos (by omega), List.getElem?_append_left (by rw [List.length_append, htk, hev.len]; omega), List.getElem?_append_left (by rw [htk]; omega), List.getElem?_take, if_pos h1]
       exact hget t (by omega)
      ·by_cases h2 : t < i * τ.size + vs.length * τ.size
       ·rw [if_neg (by omega), if_pos (by rw [hev.len]; omega), List.getElem?_append_left (by rw [List.length_append, htk, hev.len]; omega), List.getElem?_append_right (by rw [htk]; omega), htk]
        congr 1; omega
       ·rw [if_neg (by omega), if_neg (by rw [hev.len]; omega), if_neg (by omega), if_pos (by rw [hdl]; omega), List.getElem?_append_right (by rw [List.length_append, htk, hev.len]; omega), List.length_append, htk, hev.len]
        congr 1; omega)
     (by simp [IoAt])
    rw [hx'] at hr
    exact hr
  ·obtain ⟨CX, hel, hcx, hnil⟩ := hown
   obtain ⟨G, hG⟩ : ∃ G, G = grownCap w (xs.length + vs.length) cap (ρ.t 9) := ⟨_, rfl⟩
   have hGn : xs.length + vs.length ≤ G := by rw [hG]; exact grownCap_ge w _ _ _
   have hGk : (G - (xs.length + vs.length)) * τ.size + (xs.length + vs.length) * τ.size = G * τ.size := by rw [← Nat.add_mul]; congr 1; omega
   by_cases hin : i = xs.length
   ·subst hin
    have hcall := insert_end_grow L ad xs.length cap vb vo vs.length vc CX VS w hm hl (by omega) hbig hel.len hev.len hnil hcx hvs hev.one
    rw [hf, ← hG] at hcall
    refine hcall.mono ?_
    rintro e w' ⟨rfl, rfl⟩
    have hxs : xs.take xs.length ++ vs ++ xs.drop xs.length = xs ++ vs := by simp
    have hr := ret_new (τ := τ) (keep := keep) (mv := mv) (ms := [.mv (.sl τ) (.own .sh), .ro (.int .i64), .ro (.sl τ)]) (ax := [[Value.slice ad xs.length cap], [.int .i64 (xs.length : Int)], [Value.slice (some ⟨vb, vo, none⟩) vs.length vc]]) (xs := (xs ++ vs : List τ.D)) (cap := G) (w' := w.drew.alloc (.cells ((CX ++ VS).toArray ++ Builtin.zeroCells zr.cells (G - (xs.length + vs.length))) (ρ.t 9))) (eb := ρ.t 9) (cs' := (CX ++ VS).toArray ++ Builtin.zeroCells zr.cells (G - (xs.length + vs.length))) hs
     (al_at w.drew _) (fun b' hb' => al_past (w := w.drew) hb' _) (al_size w.drew _) ⟨rfl, rfl, rfl⟩
     (by rw [List.length_append]; exact hGn) (by rw [Array.size_append, zc_size L.zs]; simp only [List.size_toArray, List.length_append, hel.len, hev.len]; omega) ((hel.append hev).flat hfl)
     (by
      rw [List.length_append, hnm, Array.toList_append]
      refine win_eq (by rw [List.length_append, hel.len, hev.len]) fun t ht => ?_
      rw [Nat.zero_add, List.getElem?_append_left (by rw [List.length_append, hel.len, hev.len]; exact ht)])
     (fun β' => by simp [IoAt])
    rw [hxs]
    rw [List.length_append] at hr
    exact hr
   ·have hin' : i < xs.length := by omega
    rcases hb with hb | ⟨b, o, cs, rfl, hk, hB, hz, _⟩
    ·omega
    have hcall := insert_grow L b o xs.length cap i vb vo vs.length vc CX VS w hin' hm hl (by omega) hbig hel.len hev.len (fun j v hj => by have := hcx _ rfl j v hj; rwa [Addr.add_lit] at this) hvs hel.one hev.one
    rw [hf, ← hG] at hcall
    refine hcall.mono ?_
    rintro e w' ⟨rfl, rfl⟩
    have htk : (CX.take (i * τ.size)).length = i * τ.size := by rw [List.length_take, hel.len]; omega
    have hdl : (CX.drop (i * τ.size)).length = xs.length * τ.size - i * τ.size := by rw [List.length_drop, hel.len]
    have hnik : (xs.length + vs.length - i) * τ.size + i * τ.size = (xs.length + vs.length) * τ.size := by rw [← Nat.add_mul]; congr 1; omega
    obtain ⟨ROW, hROW⟩ : ∃ ROW, ROW = (CX.take (i * τ.size)).toArray ++ Builtin.zeroCells zr.cells (xs.length + vs.length - i) ++ Builtin.zeroCells zr.cells (G - (xs.length + vs.length)) := ⟨_, rfl⟩
    have hRs : ROW.size = G * τ.size := by rw [hROW, Array.size_append, Array.size_append, zc_size L.zs, zc_size L.zs]; simp only [List.size_toArray, htk]; omega
    have hRt : ROW.toList = CX.take (i * τ.size) ++ ((Builtin.zeroCells zr.cells (xs.length + vs.length - i)).toList ++ (Builtin.zeroCells zr.cells (G - (xs.length + vs.length))).toList) := by rw [hROW]; simp
    rw [← hROW]
    have hbl : (w.alloc (.cells ROW (ρ.t 9))).drew.heap[w.heap.size]? = some (.cells ROW (ρ.t 9) (0, 0)) := al_at w _
    obtain ⟨cs1, k1, k2, k3, k4, k5⟩ := setCells_chg (vs := VS) (o := i * τ.size) (b := w.heap.size) hbl (by rw [hev.len]; omega)
    have htl : ROW.toList.length = ROW.size := Array.length_toList
    have htl1 : cs1.toList.length = cs1.size := Array.length_toList
    have hs1 : cs1.size = ROW.size := by
     have := congrArg List.length k2
     rw [splice_len (by rw [hev.len, htl]; omega)] at this
     simpa using this
    obtain ⟨cs2, q1, q2, q3, q4, q5⟩ := setCells_chg (vs := CX.drop (i * τ.size)) (o := (i + vs.length) * τ.size) (b := w.heap.size) (w := ((w.alloc (.cells ROW (ρ.t 9))).drew.setCells w.heap.size (i * τ.size) VS).drew) (cs := cs1) k1 (by rw [hdl]; omega)
    have hs2 : cs2.size = ROW.size := by
     have := congrArg List.length q2
     rw [splice_len (by rw [hdl, htl1]; omega)] at this
     rw [← hs1]; simpa using this
    have hr := ret_new (τ := τ) (keep := keep) (mv := mv) (ms := [.mv (.sl τ) (.own .sh), .ro (.int .i64), .ro (.sl τ)]) (ax := [[Value.slice (some ⟨b, o, none⟩) xs.length cap], [.int .i64 (i : Int)], [Value.slice (some ⟨vb, vo, none⟩) vs.length vc]]) (xs := (xs.take i ++ vs ++ xs.drop i : List τ.D)) (cap := G) (eb := ρ.t 9) hs q1
     (fun b' hb' => (q3 b' (by omega)).trans ((k3 b' (by omega)).trans (al_past hb' _))) (q4.trans (k4.trans (al_size w _))) (SameOut.trans (show SameOut w (w.alloc (.cells ROW (ρ.t 9))).drew from ⟨rfl, rfl, rfl⟩) (k5.trans (out_drew q5)))
     (by rw [hx']; exact hGn) (by rw [hs2, hRs]; exact Nat.le_refl _) ((((hel.take hi).append hev).append (hel.drop i)).flat hfl)
     (by
      rw [hx', hnm]
      refine win_eq (by rw [List.length_append, List.length_append, htk, hdl, hev.len]; omega) fun t ht => ?_
      rw [q2, splice_get (by rw [hdl, htl1]; omega), k2, splice_get (by rw [hev.len, htl]; omega), Nat.zero_add]
      by_cases h1 : t < i * τ.size
      ·rw [if_pos (by omega), if_pos (by omega), hRt, List.getElem?_append_left (by rw [htk]; omega), List.getElem?_append_left (by rw [List.length_append, htk, hev.len]; omega), List.getElem?_append_left (by rw [htk]; omega)]
      ·by_cases h2 : t < i * τ.size + vs.length * τ.size
       ·rw [if_pos (by omega), if_neg (by omega), if_pos (by rw [hev.len]; omega), List.getElem?_append_left (by rw [List.length_append, htk, hev.len]; omega), List.getElem?_append_right (by rw [htk]; omega), htk]
       ·rw [if_neg (by omega), if_pos (by rw [hdl]; omega), List.getElem?_append_right (by rw [List.length_append, htk, hev.len]; omega), List.length_append, htk, hev.len, him])
     (fun β' => by simp [IoAt])
    rw [hx'] at hr
    exact hr
 | [], ha | [_], ha | [_, _], ha => simp [ArgsAt] at ha
 | _ :: _ :: _ :: _ :: _, ha => simp [ArgsAt] at ha
end
end Go.Rf

end
section
namespace Go.Rf
set_option linter.unusedSectionVars false
variable [T : Laid]
open Go.Shelf Go.RowKit Go.Lib Go.Proofs
set_option linter.unusedVariables false
set_option linter.unusedSimpArgs false
section
variable {E : Env} {ρ : Ren} {w w' : World} {S : Nat → Prop} {β : Key → Option Nat} {keep : List Nat} {mv : List (Nat × Nat)} {ms : List Mode} {ax : List (List Value)}
def itoaH : List Dyn → Option (Ty.pair .str .unit).D
 | [a] => (i64Of a).bind fun n => cond (decide (-9223372036854775808 ≤ n) && decide (n ≤ 9223372036854775807)) (some (itoa n, ())) none
 | _ => none
theorem itoaH_some {ds : List Dyn} {x : (Ty.pair .str .unit).D} (h : itoaH ds = some x) : ∃ n : Int, ds = [⟨.int .i64, n⟩] ∧ (-9223372036854775808 ≤ n ∧ n ≤ 9223372036854775807) ∧ x = (itoa n, ()) := by
 unfold itoaH at h
 split at h
 ·rename_i a
  obtain ⟨n, h1, h⟩ := Option.bind_eq_some_iff.1 h
  rw [i64Of_some h1]
  cases hb : (decide (-9223372036854775808 ≤ n) && decide (n ≤ 9223372036854775807)) with
  | false => rw [hb] at h; cases h
  | true =>
   rw [hb] at h
   simp only [Bool.and_eq_true, decide_eq_true_eq] at hb
   exact ⟨n, rfl, hb, (Option.some.inj h).symm⟩
 ·cases h
theorem itoa_fn {f : FuncId} {fn : Func} {g : Nat} (L : LaysM.n171 E.P ρ) (hf : ρ.f 171 = f) (hfn : E.P.funcs[f]? = some fn) (hnm : (fn.name == "runtime.NumGoroutine") = false) (hbd : fn.body.isNone = false)
  (hg : E.P.globalNamed "internal/strconv.uint64pow10" = some g) (hT : (g, (pow10Tab.map fun z => Value.int .u64 z).toArray) ∈ T.tabs) (n : Int) (h0 : -9223372036854775808 ≤ n) (h1 : n ≤ 9223372036854775807) :
  FnOKc E ⟨[.ro (.int .i64)], 1, .pair .str .unit, .sh, keep, mv⟩ f [⟨.int .i64, n⟩] (itoa n, ()) := by
 intro w S β cs hs ha
 match cs, ha with
 | [c1], ha =>
  simp only [ArgsAt] at ha
  obtain ⟨_, hv, _⟩ := ha
  simp only [Rd] at hv
  subst hv
  refine .inl ⟨fn, hfn, hnm, hbd, ?_⟩
  obtain ⟨e, fz, hb⟩ := (hs.tab _ hT).2
  have hcall := Any.strconv_Itoa L n h0 h1 w (by unfold TabIs World.var?; rw [hg]; simp only [Option.bind_some, hb])
  rw [hf] at hcall
  refine hcall.mono ?_
  rintro e w' ⟨rfl, k, os, rfl⟩
  exact ret_str hs (Lib.below_grow _ _ (Nat.le_refl _) _ _) (by simp [IoAt])
 | [], ha => simp [ArgsAt] at ha
 | _ :: _ :: _, ha => simp [ArgsAt] at ha
end
end Go.Rf

end
section
namespace Go.Rf
open Go.Lib
def spl (c : UInt8) : List UInt8 → List (List UInt8)
 | [] => [[]]
 | b :: r => if b = c then [] :: spl c r else match spl c r with
  | [] => [[b]]
  | w :: ws => (b :: w) :: ws
theorem spl_ne (c : UInt8) : ∀ s, spl c s ≠ []
 | [] => by simp [spl]
 | b :: r => by
  unfold spl
  split
  ·simp
  ·split <;> simp
theorem spl_eq (c : UInt8) : ∀ s : List UInt8, splitK [c] 0 (s.count c) s = spl c s
 | [] => rfl
 | b :: l => by
  have ih := spl_eq c l
  by_cases h : b = c
  ·subst h
   have hix : index (b :: l) [b] = 0 := by rw [index]; simp [List.isPrefixOf]
   rw [List.count_cons_self, spl, if_pos rfl, splitK, if_neg (by rw [hix]; decide), hix, ← ih]
   rfl
  ·have hp : ([c] : List UInt8).isPrefixOf (b :: l) = false := by simp [List.isPrefixOf, Ne.symm h]
   have hix : index (b :: l) [c] = if index l [c] == -1 then -1 else index l [c] + 1 := by rw [index, hp]; simp
   rw [List.count_cons_of_ne (by simpa using h), spl, if_neg h, ← ih]
   cases hk : l.count c with
   | zero => rfl
   | succ k =>
    have hne : index l [c] ≠ -1 := fun e => by
     have := count_miss (s := l) (sub := [c]) e
     rw [count_one] at this; omega
    have hge := index_ge l [c]
    obtain ⟨j, hj⟩ : ∃ j : Nat, index l [c] = j := ⟨(index l [c]).toNat, by omega⟩
    have e1 : ¬ (index l [c] == -1) = true := fun e => hne (beq_iff_eq.1 e)
    rw [if_neg e1, hj] at hix
    rw [splitK, if_neg (by rw [hix]; intro e; have := beq_iff_eq.1 e; omega), splitK, if_neg e1, hix, hj]
    show ((b :: l).take ((j : Int) + 1).toNat) :: _ = (b :: l.take (j : Int).toNat) :: _
    rw [show ((j : Int) + 1).toNat = j + 1 by omega, show (j : Int).toNat = j by omega]
    rfl
def wordsF (t : List UInt8) : List (List UInt8) := (spl 32 t).filter fun w => !w.isEmpty
theorem spl_no (c : UInt8) : ∀ (w r : List UInt8), c ∉ w → spl c (w ++ r) = match spl c r with
  | [] => [w]
  | x :: xs => (w ++ x) :: xs
 | [], r, _ => by
  rw [List.nil_append]
  split
  ·rename_i h; exact absurd h (spl_ne c r)
  ·rename_i x xs h; rw [h]; rfl
 | b :: w, r, h => by
  simp only [List.mem_cons, not_or] at h
  rw [List.cons_append, spl, if_neg (Ne.symm h.1), spl_no c w r h.2]
  cases spl c r <;> rfl
theorem spl_words (w : List UInt8) (ws : List (List UInt8)) (hw : (32 : UInt8) ∉ w) (h : ∀ x ∈ ws, (32 : UInt8) ∉ x) : spl 32 (w ++ ws.flatMap fun x => 32 :: x) = w :: ws := by
 induction ws generalizing w with
 | nil => rw [List.flatMap_nil, spl_no 32 w [] hw]; simp [spl]
 | cons x xs ih =>
  rw [spl_no 32 w _ hw, List.flatMap_cons, List.cons_append, spl, if_pos rfl, ih x (h x (by simp)) fun y hy => h y (by simp [hy])]
  simp
theorem words_of (w : List UInt8) (ws : List (List UInt8)) (hw : w ≠ [] ∧ (32 : UInt8) ∉ w) (h : ∀ x ∈ ws, x ≠ [] ∧ (32 : UInt8) ∉ x) : wordsF (w ++ ws.flatMap fun x => 32 :: x) = w :: ws := by
 unfold wordsF
 rw [spl_words w ws hw.2 fun x hx => (h x hx).2, List.filter_eq_self]
 intro x hx
 have : x ≠ [] := by
  rcases List.mem_cons.1 hx with rfl | hx
  ·exact hw.1
  ·exact (h x hx).1
 cases x with
 | nil => exact absurd rfl this
 | cons _ _ => rfl
end Go.Rf

end
section
open Go Go.Rf
set_option maxRecDepth 100000
set_option linter.unusedVariables false
namespace Go.Rf.S
def mvD (l : List (Nat × Nat)) (d : List (Nat × List Nat)) : List (Nat × Nat) := l ++ d.flatMap fun x => x.2.map fun s => (4000000 + x.1, s)
abbrev t0 : Ty := (.sl (.int .u8))
abbrev t1 : Ty := (.pair t0 (.pair (.int .i64) (.pair (.int .i64) .unit)))
abbrev t2 : Ty := (.pair (.int .i64) (.pair (.int .i64) (.pair (.int .i64) .unit)))
abbrev t3 : Ty := (.pair (.sl t2) .unit)
abbrev t4 : Ty := (.pair (.sl t3) (.pair (.ptr t1) .unit))
abbrev t5 : Ty := (.pair (.int .i64) (.pair (.int .i64) .unit))
abbrev t6 : Ty := (.pair (.sl t5) (.pair (.ptr t1) .unit))
abbrev t7 : Ty := (.pair (.sl t3) .unit)
abbrev t8 : Ty := (.pair t2 (.pair (.ptr t1) .unit))
abbrev t9 : Ty := (.pair (.sl t5) .unit)
abbrev t10 : Ty := (.sl (.int .i64))
abbrev t11 : Ty := (.pair (.int .i64) (.pair t10 .unit))
abbrev t12 : Ty := (.pair (.sl t5) (.pair t11 (.pair (.int .i64) .unit)))
abbrev t13 : Ty := (.pair (.sl .str) .unit)
abbrev t14 : Ty := (.pair .str .unit)
abbrev t15 : Ty := (.pair .str (.pair (.int .i64) .unit))
abbrev t16 : Ty := (.pair (.int .i64) (.pair .bool .unit))
abbrev t17 : Ty := (.pair t10 (.pair .bool .unit))
abbrev t18 : Ty := (.pair (.int .i64) .unit)
abbrev t19 : Ty := (.pair t11 (.pair (.int .i64) .unit))
abbrev t20 : Ty := (.pair .bool .unit)
abbrev t21 : Ty := (.pair (.sl t5) (.pair t10 (.pair (.int .i64) .unit)))
abbrev t22 : Ty := (.pair (.sl t5) (.pair t11 .unit))
abbrev t23 : Ty := (.pair (.sl t5) (.pair (.sl t11) .unit))
abbrev t24 : Ty := (.pair t10 .unit)
abbrev t25 : Ty := (.pair (.sl t5) (.pair .bool .unit))
abbrev t26 : Ty := (.pair (.ptr t1) .unit)
abbrev t27 : Ty := (.pair (.int .i64) (.pair (.ptr t1) .unit))
abbrev d28 : Type := (List Int × (Int × (Int × Unit)))
abbrev d29 : Type := (Int × (Int × (Int × Unit)))
abbrev d30 : Type := (List d29 × Unit)
abbrev d31 : Type := (List d30 × (d28 × Unit))
abbrev d32 : Type := (Int × (Int × Unit))
abbrev d33 : Type := (List d32 × (d28 × Unit))
abbrev d34 : Type := (List d30 × Unit)
abbrev d35 : Type := (d29 × (d28 × Unit))
abbrev d36 : Type := (List d32 × Unit)
abbrev d37 : Type := (Int × (List Int × Unit))
abbrev d38 : Type := (List d32 × (d37 × (Int × Unit)))
abbrev d39 : Type := (List (List UInt8) × Unit)
abbrev d40 : Type := (List UInt8 × Unit)
abbrev d41 : Type := (List UInt8 × (Int × Unit))
abbrev d42 : Type := (Int × (Bool × Unit))
abbrev d43 : Type := (List Int × (Bool × Unit))
abbrev d44 : Type := (Int × Unit)
abbrev d45 : Type := (d37 × (Int × Unit))
abbrev d46 : Type := (Bool × Unit)
abbrev d47 : Type := (List d32 × (List Int × (Int × Unit)))
abbrev d48 : Type := (List d32 × (d37 × Unit))
abbrev d49 : Type := (List d32 × (List d37 × Unit))
abbrev d50 : Type := (List Int × Unit)
abbrev d51 : Type := (List d32 × (Bool × Unit))
abbrev d52 : Type := (d28 × Unit)
abbrev d53 : Type := (Int × (d28 × Unit))
noncomputable def cfgs : List (Nat × FCfg) := [
(15, ⟨[.io (.ptr t1) (.own .sh) (.own .sh) 0 []], 1, t4, (.pr (.own (.pr (.own .sh) .sh)) (.pr (.own .sh) .sh)), [0, 2, 3, 4, 5, 6, 12, 20], mvD [(10, 2), (10, 3), (11, 1), (1, 1), (5, 2), (9, 4), (9, 7), (10, 4), (9, 2)] [(60, [2, 5, 6, 12, 20]), (27, [2, 12, 20])]⟩),
(14, ⟨[.io (.ptr t1) (.own .sh) (.own .sh) 0 []], 1, t6, (.pr .sh (.pr (.own .sh) .sh)), [0, 2, 3, 4, 5, 11], mvD [(7, 1), (1, 1), (2, 2), (5, 7), (5, 8), (6, 1)] [(22, [2, 5, 11])]⟩),
(5, ⟨[.ro t0], 1, t7, (.pr (.own (.pr (.own .sh) .sh)) .sh), [0, 2], [(1, 3)]⟩),
(33, ⟨[.io (.ptr t1) (.own .sh) (.own .sh) 0 []], 1, t8, (.pr .sh (.pr (.own .sh) .sh)), [1000021, 0, 2, 3, 17, 21, 24, 30], [(10, 1), (1, 13), (9, 2), (3, 3), (1, 0), (1, 4), (1, 8), (9, 0), (9, 3)]⟩),
(4, ⟨[.ro t0], 1, t9, .sh, [0, 2], [(1, 3)]⟩),
(6, ⟨[.ro (.sl t5), .ro t3], 3, t12, (.pr (.own .sh) (.pr (.pr .sh (.pr (.own .sh) .sh)) .sh)), [0, 1, 3, 4, 5, 6, 7, 8, 9, 14], [(2, 1), (2, 2), (2, 3), (4, 1), (4, 2), (4, 3), (6, 3), (6, 4), (6, 5), (5, 7), (5, 8), (2, 0), (4, 0)]⟩),
(7, ⟨[.ro (.sl t5), .ro t3], 3, t12, (.pr (.own .sh) (.pr (.pr .sh (.pr (.own .sh) .sh)) .sh)), [0, 1, 3, 4, 5, 6, 7, 8, 11, 21], [(2, 2), (2, 3), (2, 4), (4, 2), (4, 3), (4, 4), (6, 4), (6, 5), (6, 6), (5, 7), (5, 8), (2, 0), (2, 1), (4, 0), (4, 1), (6, 0)]⟩),
(56, ⟨[], 1, t13, (.pr (.own .sh) .sh), [0], [(1, 1), (1, 0)]⟩),
(45, ⟨[.ro (.int .i64)], 1, t14, .sh, [0, 2, 5], [(3, 4), (2, 0)]⟩),
(24, ⟨[.ro t11], 1, t14, .sh, [0, 1, 2, 3, 5, 10, 11, 12, 13], mvD [(7, 1), (1, 3)] [(22, [0, 1, 2, 5, 13])]⟩),
(8, ⟨[.ro t11], 2, t15, .sh, [0, 1, 2, 3, 6], [(3, 2), (3, 3), (2, 0), (2, 1)]⟩),
(9, ⟨[.ro t11], 2, t15, .sh, [0, 1, 2, 3, 6], [(3, 2), (3, 3), (2, 0), (2, 1)]⟩),
(28, ⟨[.ro .str], 1, t13, (.pr (.own .sh) .sh), [], []⟩),
(54, ⟨[.ro .str], 2, t16, .sh, [], []⟩),
(29, ⟨[.ro (.sl .str)], 2, t17, (.pr (.own .sh) .sh), [0, 2, 3, 4, 6, 7, 8, 9, 10, 11, 12, 21], mvD [(10, 1), (10, 2), (7, 0), (7, 1), (5, 5), (5, 6), (8, 2), (8, 4)] [(49, [0, 2, 3, 6, 7, 8, 12, 21])]⟩),
(55, ⟨[.ro (.sl .str), .ro .str], 1, t18, .sh, [0, 1, 4, 5, 7, 8, 9, 16], mvD [(7, 0), (5, 1)] [(25, [4, 5, 9, 16])]⟩),
(30, ⟨[.ro .str], 1, t18, .sh, [0, 2], [(1, 3)]⟩),
(10, ⟨[.ro .str], 2, t19, (.pr (.pr .sh (.pr (.own .sh) .sh)) .sh), [0, 2, 3, 4, 5, 6, 7, 11, 17, 37], [(2, 1), (2, 2), (5, 1), (5, 2), (10, 1), (10, 2), (9, 1), (9, 2), (3, 2), (6, 6), (6, 7), (7, 5), (7, 7), (2, 0), (5, 0), (9, 0)]⟩),
(11, ⟨[.ro (.sl t5), .ro (.sl t5)], 1, t20, .sh, [0, 1, 4, 5, 10, 14, 25], [(2, 0), (8, 0), (7, 0)]⟩),
(12, ⟨[.ro t10, .ro t10], 1, t20, .sh, [0, 1, 4, 5, 10, 14, 25], [(2, 0), (8, 0), (7, 0)]⟩),
(3, ⟨[.ro t0, .ro t0], 1, t20, .sh, [0, 1, 4, 5, 6, 7, 8, 9, 10, 11, 13, 14, 15, 17, 18, 19, 20, 21, 22, 30, 128], [(2, 0), (12, 0), (14, 40)]⟩),
(40, ⟨[.ro (.int .i64), .ro (.int .i64), .ro (.int .i64)], 1, t20, .sh, [0, 1, 2, 6], [(1, 8)]⟩),
(20, ⟨[.ro (.sl t5)], 1, t20, .sh, [0, 2, 3, 6, 10, 46], [(2, 0), (8, 3), (7, 0)]⟩),
(41, ⟨[.ro t2], 1, t20, .sh, [1000015, 0, 1, 2, 12, 14, 15, 21], [(2, 0), (9, 3), (6, 3), (8, 3)]⟩),
(21, ⟨[.ro t3], 1, t20, .sh, [0, 1, 2, 3, 8, 17], [(6, 4), (5, 0)]⟩),
(65, ⟨[.ro (.sl t5), .ro (.int .i64)], 1, t18, .sh, [0, 1, 4, 5, 9, 18], [(6, 0), (5, 1)]⟩),
(66, ⟨[.ro .bool], 1, t18, .sh, [0, 2, 3], [(3, 0), (2, 0)]⟩),
(67, ⟨[.ro (.sl t5), .ro (.int .i64), .ro (.int .i64)], 1, t9, (.pr (.own .sh) .sh), [0, 1, 2, 6, 7, 8, 21, 39], [(7, 12)]⟩),
(42, ⟨[.ro (.sl t5), .ro t2], 3, t21, (.pr .sh (.pr (.own .sh) .sh)), [0, 1, 3, 4, 5, 6, 7, 8, 9, 10, 16, 23, 24, 32, 35, 51, 60, 65, 79, 89, 108, 120, 125, 137], [(7, 6), (7, 7), (7, 8), (11, 5), (11, 6), (11, 7), (15, 2), (15, 3), (15, 4), (14, 2), (14, 3), (14, 4), (25, 2), (25, 3), (25, 4), (27, 2), (27, 3), (27, 4), (29, 7), (29, 8), (29, 9), (32, 13), (32, 14), (32, 15), (31, 2), (31, 3), (31, 4)]⟩),
(22, ⟨[.ro (.sl t5), .ro t3], 2, t22, (.pr .sh (.pr (.pr .sh (.pr (.own .sh) .sh)) .sh)), [0, 1, 3, 4, 5, 6, 7, 8, 9, 10, 11, 19, 34], [(11, 2), (11, 3), (8, 4), (8, 5)]⟩),
(32, ⟨[.ro (.sl t5), .ro (.sl t3)], 2, t23, (.pr .sh (.pr (.own (.pr .sh (.pr (.own .sh) .sh))) .sh)), [0, 1, 4, 5, 6, 7, 8, 9, 14], [(5, 11), (7, 2), (8, 2), (8, 3)]⟩),
(36, ⟨[.ro (.int .i64), .ro (.int .i64), .ro (.int .i64)], 1, t20, .sh, [0, 1, 2, 6], [(1, 8)]⟩),
(34, ⟨[.ro (.int .i64)], 1, t20, .sh, [0, 2], [(1, 2)]⟩),
(35, ⟨[.ro (.int .i64)], 1, t20, .sh, [0, 2], [(1, 2)]⟩),
(16, ⟨[.ro (.sl t5)], 1, t20, .sh, [0, 2, 3, 4, 5, 6, 7, 8, 36], [(7, 3), (5, 0)]⟩),
(59, ⟨[.ro t2, .ro (.ptr .fn)], 1, t20, .sh, [0, 1, 2, 3], [(1, 4)]⟩),
(77, ⟨[.ro (.sl t2), .ro .fn], 1, t18, .sh, [0, 1, 4, 5, 7, 8, 9, 16], [(7, 0), (5, 1)]⟩),
(58, ⟨[.ro (.sl t2), .ro .fn], 1, t20, .sh, [0, 1, 4], [(1, 4)]⟩),
(37, ⟨[.ro (.sl t2), .ro .fn], 1, t20, .sh, [0, 1, 3, 4], [(1, 4)]⟩),
(60, ⟨[.ro (.int .i64)], 1, t20, .sh, [0, 2], [(1, 6)]⟩),
(38, ⟨[.ro t2], 1, t20, .sh, [0, 1, 2, 12, 13, 20], [(2, 0), (7, 3), (4, 3), (6, 3)]⟩),
(17, ⟨[.ro t3], 1, t20, .sh, [0, 1, 2], [(1, 9)]⟩),
(78, ⟨[.ro (.sl t5), .ro (.int .i64), .ro .fn], 2, t16, .sh, [0, 1, 2, 6, 7, 8, 9, 10, 11, 17, 31], [(8, 14), (8, 15)]⟩),
(79, ⟨[.ro t5, .ro (.int .i64)], 1, t18, .sh, [0, 1, 2, 4], [(1, 4)]⟩),
(61, ⟨[.ro (.sl t5), .ro (.int .i64)], 2, t16, .sh, [0, 1, 4, 5], [(1, 5), (1, 6)]⟩),
(19, ⟨[.ro (.sl t5)], 1, t9, (.pr (.own .sh) .sh), [900000, 0, 2, 4], [(3, 3), (2, 0)]⟩),
(62, ⟨[.mv (.sl t5) (.own .sh), .ro (.int .i64), .ro (.int .i64)], 1, t9, (.pr (.own .sh) .sh), [], []⟩),
(63, ⟨[.ro (.sl t5), .ro (.int .i64), .ro (.int .i64)], 1, t24, (.pr (.own .sh) .sh), [0, 1, 2, 6, 7, 9, 17, 23], [(9, 1)]⟩),
(89, ⟨[.mv (.sl t5) (.own .sh), .ro (.int .i64), .ro (.sl t5)], 1, t9, (.pr (.own .sh) .sh), [], []⟩),
(80, ⟨[.ro (.sl t5), .ro (.int .i64), .ro (.int .i64)], 2, t25, .sh, [0, 1, 2, 6, 7, 8, 9, 10, 26, 33], [(8, 1), (8, 2), (7, 1), (7, 2)]⟩),
(64, ⟨[.ro (.sl t5), .ro t2, .ro (.int .i64)], 3, t21, (.pr .sh (.pr (.own .sh) .sh)), [0, 1, 2, 4, 6, 7, 8, 9, 10, 11, 12, 17, 31, 35], [(11, 2), (11, 3), (11, 4), (8, 1), (8, 2), (8, 3), (10, 1), (10, 2), (10, 3)]⟩),
(39, ⟨[.ro (.sl t5), .ro t2], 3, t21, (.pr .sh (.pr (.own .sh) .sh)), [0, 1, 3, 4, 5, 6, 7, 8, 9, 17, 24, 25, 27, 33, 35, 45, 54, 57], [(20, 7), (20, 8), (20, 9), (9, 2), (9, 3), (9, 4), (8, 3), (8, 4), (8, 5), (13, 2), (13, 3), (13, 4), (12, 7), (12, 8), (12, 9), (17, 1), (17, 2), (17, 3), (16, 1), (16, 2), (16, 3), (19, 7), (19, 8), (19, 9)]⟩),
(18, ⟨[.ro (.sl t5), .ro t3], 2, t22, (.pr .sh (.pr (.pr .sh (.pr (.own .sh) .sh)) .sh)), [0, 1, 3, 4, 5, 6, 7, 9, 10, 11, 12, 15, 16, 17, 18, 29], [(12, 2), (12, 3), (8, 3), (8, 4)]⟩),
(48, ⟨[.ro (.int .i64)], 1, t14, .sh, [0, 2, 4, 6, 12], [(2, 0), (4, 4), (7, 10), (6, 5)]⟩),
(72, ⟨[.ro .str, .ro (.ptr .fn)], 1, t20, .sh, [0, 1, 3], [(1, 4)]⟩),
(73, ⟨[.ro (.sl .str), .ro .fn], 1, t18, .sh, [0, 1, 4, 5, 7, 8, 9, 16], [(7, 0), (5, 1)]⟩),
(71, ⟨[.ro (.sl .str), .ro .fn], 1, t20, .sh, [0, 1, 4], [(1, 4)]⟩),
(49, ⟨[.ro (.sl .str), .ro .fn], 1, t20, .sh, [0, 1, 3, 4], [(1, 4)]⟩),
(46, ⟨[.ro (.int .i64)], 1, t14, .sh, [], []⟩),
(13, ⟨[.ro t0], 1, t26, (.pr (.own .sh) .sh), [0, 2], [(1, 6), (1, 4), (1, 5)]⟩),
(57, ⟨[.io (.ptr t1) (.own .sh) (.own .sh) 0 []], 1, t27, (.pr .sh (.pr (.own .sh) .sh)), [0, 2, 19, 59], [(4, 12), (6, 0), (8, 6), (2, 0), (2, 4), (3, 0), (3, 1), (3, 6), (3, 10), (4, 0), (4, 4), (7, 0), (7, 1)]⟩),
(31, ⟨[.io (.ptr t1) (.own .sh) (.own .sh) 0 [], .ro (.int .i64)], 1, t27, (.pr .sh (.pr (.own .sh) .sh)), [0, 1, 4, 5, 6, 7, 9, 11], [(2, 0), (4, 4), (8, 9), (5, 2), (6, 2), (7, 2)]⟩),
(69, ⟨[.ro (.int .i64), .ro (.ptr .fn)], 1, t20, .sh, [0, 1, 3], [(1, 4)]⟩),
(81, ⟨[.ro t10, .ro .fn], 1, t18, .sh, [0, 1, 4, 5, 7, 8, 9, 16], [(7, 0), (5, 1)]⟩),
(68, ⟨[.ro t10, .ro .fn], 1, t20, .sh, [0, 1, 4], [(1, 4)]⟩),
(44, ⟨[.ro t10, .ro .fn], 1, t20, .sh, [0, 1, 3, 4], [(1, 4)]⟩),
(50, ⟨[.ro .str], 1, t20, .sh, [0, 2], [(1, 3)]⟩),
(27, ⟨[.ro (.sl .str)], 1, t20, .sh, [0, 2], [(1, 2)]⟩),
(43, ⟨[.ro (.int .i64)], 1, t20, .sh, [0, 2], [(1, 2)]⟩),
(23, ⟨[.ro t11], 1, t20, .sh, [0, 1, 2], [(1, 25)]⟩),
(25, ⟨[.ro t11], 1, t20, .sh, [0, 1, 2, 3, 24, 29, 38], [(2, 0), (8, 0), (7, 0)]⟩),
(47, ⟨[.ro (.int .i64)], 1, t14, .sh, [0, 2, 3, 12], [(4, 4), (3, 0)]⟩),
(26, ⟨[.ro t11], 1, t14, .sh, [0, 1, 2, 3, 4, 12], mvD [(6, 1)] [(15, [0, 2, 12])]⟩)]
noncomputable def EE : Env := ⟨Go.Proofs.Tryz.prog, lookC cfgs⟩
variable (R : Run EE) (L : Loops)
noncomputable def c_pspec_l00Src_batch (x0 : d28) : Option d31 := R 15 [⟨(.ptr t1), x0⟩]
noncomputable def c_pspec_l00Src_entries (x0 : d28) : Option d33 := R 14 [⟨(.ptr t1), x0⟩]
noncomputable def c_spec_BatchOf (x0 : List Int) : Option d34 := R 5 [⟨t0, x0⟩]
noncomputable def c_pspec_l00Src_op (x0 : d28) : Option d35 := R 33 [⟨(.ptr t1), x0⟩]
noncomputable def c_spec_EntriesOf (x0 : List Int) : Option d36 := R 4 [⟨t0, x0⟩]
noncomputable def c_impl_MapTxn (x0 : List d32) (x1 : d30) : Option d38 := R 6 [⟨(.sl t5), x0⟩, ⟨t3, x1⟩]
noncomputable def c_spec_MapTxn (x0 : List d32) (x1 : d30) : Option d38 := R 7 [⟨(.sl t5), x0⟩, ⟨t3, x1⟩]
noncomputable def c_impl_codeWords : Option d39 := R 56 []
noncomputable def c_impl_CodeWord (x0 : Int) : Option d40 := R 45 [⟨(.int .i64), x0⟩]
noncomputable def c_impl_resultText (x0 : d37) : Option d40 := R 24 [⟨t11, x0⟩]
noncomputable def c_impl_ResultText (x0 : d37) : Option d41 := R 8 [⟨t11, x0⟩]
noncomputable def c_spec_ResultText (x0 : d37) : Option d41 := R 9 [⟨t11, x0⟩]
noncomputable def c_impl_wordsOf (x0 : List UInt8) : Option d39 := R 28 [⟨.str, x0⟩]
noncomputable def c_impl_readNumber (x0 : List UInt8) : Option d42 := R 54 [⟨.str, x0⟩]
noncomputable def c_impl_readNumbers (x0 : List (List UInt8)) : Option d43 := R 29 [⟨(.sl .str), x0⟩]
noncomputable def c_slices_Index___string_string_ (x0 : List (List UInt8)) (x1 : List UInt8) : Option d44 := R 55 [⟨(.sl .str), x0⟩, ⟨.str, x1⟩]
noncomputable def c_impl_CodeOf (x0 : List UInt8) : Option d44 := R 30 [⟨.str, x0⟩]
noncomputable def c_impl_ReadResult (x0 : List UInt8) : Option d45 := R 10 [⟨.str, x0⟩]
noncomputable def c_laws_sameEntries (x0 x1 : List d32) : Option d46 := R 11 [⟨(.sl t5), x0⟩, ⟨(.sl t5), x1⟩]
noncomputable def c_laws_sameInts (x0 x1 : List Int) : Option d46 := R 12 [⟨t10, x0⟩, ⟨t10, x1⟩]
noncomputable def c_laws_FnAbort (x0 x1 : List Int) : Option d46 := R 3 [⟨t0, x0⟩, ⟨t0, x1⟩]
noncomputable def c_spec_l01In (x0 x1 x2 : Int) : Option d46 := R 40 [⟨(.int .i64), x0⟩, ⟨(.int .i64), x1⟩, ⟨(.int .i64), x2⟩]
noncomputable def c_spec_MapOK (x0 : List d32) : Option d46 := R 20 [⟨(.sl t5), x0⟩]
noncomputable def c_spec_OpOK (x0 : d29) : Option d46 := R 41 [⟨t2, x0⟩]
noncomputable def c_spec_l09Txn (x0 : d30) : Option d46 := R 21 [⟨t3, x0⟩]
noncomputable def c_spec_l10Find (x0 : List d32) (x1 : Int) : Option d44 := R 65 [⟨(.sl t5), x0⟩, ⟨(.int .i64), x1⟩]
noncomputable def c_spec_l01Bit (x0 : Bool) : Option d44 := R 66 [⟨.bool, x0⟩]
noncomputable def c_spec_l10Put (x0 : List d32) (x1 x2 : Int) : Option d36 := R 67 [⟨(.sl t5), x0⟩, ⟨(.int .i64), x1⟩, ⟨(.int .i64), x2⟩]
noncomputable def c_spec_l10Do (x0 : List d32) (x1 : d29) : Option d47 := R 42 [⟨(.sl t5), x0⟩, ⟨t2, x1⟩]
noncomputable def c_spec_l10Txn (x0 : List d32) (x1 : d30) : Option d48 := R 22 [⟨(.sl t5), x0⟩, ⟨t3, x1⟩]
noncomputable def c_spec_l10Batch (x0 : List d32) (x1 : List d30) : Option d49 := R 32 [⟨(.sl t5), x0⟩, ⟨(.sl t3), x1⟩]
noncomputable def c_impl_within (x0 x1 x2 : Int) : Option d46 := R 36 [⟨(.int .i64), x0⟩, ⟨(.int .i64), x1⟩, ⟨(.int .i64), x2⟩]
noncomputable def c_impl_isKey (x0 : Int) : Option d46 := R 34 [⟨(.int .i64), x0⟩]
noncomputable def c_impl_isValue (x0 : Int) : Option d46 := R 35 [⟨(.int .i64), x0⟩]
noncomputable def c_impl_MapOK (x0 : List d32) : Option d46 := R 16 [⟨(.sl t5), x0⟩]
noncomputable def c_impl_areAll_impl_Op__1 (x0 : d29) (x1 : FnVal) : Option d46 := R 59 [⟨t2, x0⟩, ⟨(.ptr .fn), x1⟩]
noncomputable def c_slices_IndexFunc___impl_Op_impl_Op_ (x0 : List d29) (x1 : FnVal) : Option d44 := R 77 [⟨(.sl t2), x0⟩, ⟨.fn, x1⟩]
noncomputable def c_slices_ContainsFunc___impl_Op_impl_Op_ (x0 : List d29) (x1 : FnVal) : Option d46 := R 58 [⟨(.sl t2), x0⟩, ⟨.fn, x1⟩]
noncomputable def c_impl_areAll_impl_Op_ (x0 : List d29) (x1 : FnVal) : Option d46 := R 37 [⟨(.sl t2), x0⟩, ⟨.fn, x1⟩]
noncomputable def c_impl_isBare (x0 : Int) : Option d46 := R 60 [⟨(.int .i64), x0⟩]
noncomputable def c_impl_OpOK (x0 : d29) : Option d46 := R 38 [⟨t2, x0⟩]
noncomputable def c_impl_isTxn (x0 : d30) : Option d46 := R 17 [⟨t3, x0⟩]
noncomputable def c_slices_BinarySearchFunc___impl_Entry_impl_Entry_int_ (x0 : List d32) (x1 : Int) (x2 : FnVal) : Option d42 := R 78 [⟨(.sl t5), x0⟩, ⟨(.int .i64), x1⟩, ⟨.fn, x2⟩]
noncomputable def c_impl_find_1 (x0 : d32) (x1 : Int) : Option d44 := R 79 [⟨t5, x0⟩, ⟨(.int .i64), x1⟩]
noncomputable def c_impl_find (x0 : List d32) (x1 : Int) : Option d42 := R 61 [⟨(.sl t5), x0⟩, ⟨(.int .i64), x1⟩]
noncomputable def c_slices_Clone___impl_Entry_impl_Entry_ (x0 : List d32) : Option d36 := R 19 [⟨(.sl t5), x0⟩]
noncomputable def c_slices_Delete___impl_Entry_impl_Entry_ (x0 : List d32) (x1 x2 : Int) : Option d36 := R 62 [⟨(.sl t5), x0⟩, ⟨(.int .i64), x1⟩, ⟨(.int .i64), x2⟩]
noncomputable def c_impl_scan (x0 : List d32) (x1 x2 : Int) : Option d50 := R 63 [⟨(.sl t5), x0⟩, ⟨(.int .i64), x1⟩, ⟨(.int .i64), x2⟩]
noncomputable def c_slices_Insert___impl_Entry_impl_Entry_ (x0 : List d32) (x1 : Int) (x2 : List d32) : Option d36 := R 89 [⟨(.sl t5), x0⟩, ⟨(.int .i64), x1⟩, ⟨(.sl t5), x2⟩]
noncomputable def c_impl_put (x0 : List d32) (x1 x2 : Int) : Option d51 := R 80 [⟨(.sl t5), x0⟩, ⟨(.int .i64), x1⟩, ⟨(.int .i64), x2⟩]
noncomputable def c_impl_do2 (x0 : List d32) (x1 : d29) (x2 : Int) : Option d47 := R 64 [⟨(.sl t5), x0⟩, ⟨t2, x1⟩, ⟨(.int .i64), x2⟩]
noncomputable def c_impl_do (x0 : List d32) (x1 : d29) : Option d47 := R 39 [⟨(.sl t5), x0⟩, ⟨t2, x1⟩]
noncomputable def c_impl_doTxn (x0 : List d32) (x1 : d30) : Option d48 := R 18 [⟨(.sl t5), x0⟩, ⟨t3, x1⟩]
noncomputable def c_spec_l00Digits (x0 : Int) : Option d40 := R 48 [⟨(.int .i64), x0⟩]
noncomputable def c_impl_areAll_string__1 (x0 : List UInt8) (x1 : FnVal) : Option d46 := R 72 [⟨.str, x0⟩, ⟨(.ptr .fn), x1⟩]
noncomputable def c_slices_IndexFunc___string_string_ (x0 : List (List UInt8)) (x1 : FnVal) : Option d44 := R 73 [⟨(.sl .str), x0⟩, ⟨.fn, x1⟩]
noncomputable def c_slices_ContainsFunc___string_string_ (x0 : List (List UInt8)) (x1 : FnVal) : Option d46 := R 71 [⟨(.sl .str), x0⟩, ⟨.fn, x1⟩]
noncomputable def c_impl_areAll_string_ (x0 : List (List UInt8)) (x1 : FnVal) : Option d46 := R 49 [⟨(.sl .str), x0⟩, ⟨.fn, x1⟩]
noncomputable def c_strconv_Itoa (x0 : Int) : Option d40 := R 46 [⟨(.int .i64), x0⟩]
noncomputable def c_spec_l00Source (x0 : List Int) : Option d52 := R 13 [⟨t0, x0⟩]
noncomputable def c_pspec_l00Src_byte (x0 : d28) : Option d53 := R 57 [⟨(.ptr t1), x0⟩]
noncomputable def c_pspec_l00Src_next (x0 : d28) (x1 : Int) : Option d53 := R 31 [⟨(.ptr t1), x0⟩, ⟨(.int .i64), x1⟩]
noncomputable def c_impl_areAll_int__1 (x0 : Int) (x1 : FnVal) : Option d46 := R 69 [⟨(.int .i64), x0⟩, ⟨(.ptr .fn), x1⟩]
noncomputable def c_slices_IndexFunc___int_int_ (x0 : List Int) (x1 : FnVal) : Option d44 := R 81 [⟨t10, x0⟩, ⟨.fn, x1⟩]
noncomputable def c_slices_ContainsFunc___int_int_ (x0 : List Int) (x1 : FnVal) : Option d46 := R 68 [⟨t10, x0⟩, ⟨.fn, x1⟩]
noncomputable def c_impl_areAll_int_ (x0 : List Int) (x1 : FnVal) : Option d46 := R 44 [⟨t10, x0⟩, ⟨.fn, x1⟩]
noncomputable def c_impl_areShort_1 (x0 : List UInt8) : Option d46 := R 50 [⟨.str, x0⟩]
noncomputable def c_impl_areShort (x0 : List (List UInt8)) : Option d46 := R 27 [⟨(.sl .str), x0⟩]
noncomputable def c_impl_isCode (x0 : Int) : Option d46 := R 43 [⟨(.int .i64), x0⟩]
noncomputable def c_impl_isResult (x0 : d37) : Option d46 := R 23 [⟨t11, x0⟩]
noncomputable def c_spec_l10ResultOK (x0 : d37) : Option d46 := R 25 [⟨t11, x0⟩]
noncomputable def c_spec_CodeWord (x0 : Int) : Option d40 := R 47 [⟨(.int .i64), x0⟩]
noncomputable def c_spec_l10Text (x0 : d37) : Option d40 := R 26 [⟨t11, x0⟩]
noncomputable def lp_pspec_l00Src_batch_0 (v0 : d28) (v3 : List d30) (v4 : Int) (p : List Nat := [1, 1, 0, 1, 0]) : Option d31 := from_ EE R L 15 Go.Proofs.Tryz.f15 p (mk 35 [(0, .dat ⟨(.ptr t1), v0, (.pin 0 (.own .sh))⟩), (3, .dat ⟨(.sl t3), v3, (.own (.pr (.own .sh) .sh))⟩), (4, .dat ⟨(.int .i64), v4, .sh⟩)])
noncomputable def lp_pspec_l00Src_batch_1 (v0 : d28) (v3 : List d30) (v4 : Int) (v5 : d30) (v6 : Int) (p : List Nat := [1, 1, 0, 1, 0, 0, 1, 0, 0, 1, 0, 1, 0]) : Option d31 := from_ EE R L 15 Go.Proofs.Tryz.f15 p (mk 35 [(0, .dat ⟨(.ptr t1), v0, (.pin 0 (.own .sh))⟩), (3, .dat ⟨(.sl t3), v3, (.own (.pr (.own .sh) .sh))⟩), (4, .dat ⟨(.int .i64), v4, .sh⟩), (5, .dat ⟨(.ptr t3), v5, (.own (.pr (.own .sh) .sh))⟩), (6, .dat ⟨(.int .i64), v6, .sh⟩)])
noncomputable def lp_pspec_l00Src_entries_0 (v0 : d28) (v3 : List d32) (v4 : Int) (p : List Nat := [1, 1, 0, 1, 0]) : Option d33 := from_ EE R L 14 Go.Proofs.Tryz.f14 p (mk 23 [(0, .dat ⟨(.ptr t1), v0, (.pin 0 (.own .sh))⟩), (3, .dat ⟨(.sl t5), v3, (.own .sh)⟩), (4, .dat ⟨(.int .i64), v4, .sh⟩)])
noncomputable def lp_pspec_l00Src_entries_1 (v0 : d28) (v3 : List d32) (v4 : Int) (p : List Nat := [1, 1, 0, 1, 0]) : Option d33 := from_ EE R L 14 Go.Proofs.Tryz.f14 p (mk 23 [(0, .dat ⟨(.ptr t1), v0, (.pin 0 (.own .sh))⟩), (3, .dat ⟨(.sl t5), v3, .sh⟩), (4, .dat ⟨(.int .i64), v4, .sh⟩)])
noncomputable def lp_impl_resultText_0 (v3 : List UInt8) (v10 : List Int) (v11 v12 : Int) (p : List Nat := [1, 1, 0, 1, 0]) : Option d40 := from_ EE R L 24 Go.Proofs.Tryz.f24 p (mk 23 [(3, .dat ⟨.str, v3, .sh⟩), (10, .dat ⟨t10, v10, .sh⟩), (11, .dat ⟨(.int .i64), v11, .sh⟩), (12, .dat ⟨(.int .i64), v12, .sh⟩)])
noncomputable def lp_impl_readNumbers_0 (v4 : List Int) (v9 : List (List UInt8)) (v10 v11 : Int) (p : List Nat := [1, 1, 0, 1, 0]) : Option d43 := from_ EE R L 29 Go.Proofs.Tryz.f29 p (mk 28 [(4, .dat ⟨t10, v4, (.own .sh)⟩), (9, .dat ⟨(.sl .str), v9, .sh⟩), (10, .dat ⟨(.int .i64), v10, .sh⟩), (11, .dat ⟨(.int .i64), v11, .sh⟩)])
noncomputable def lp_slices_Index___string_string__0 (v0 : List (List UInt8)) (v1 : List UInt8) (v7 v8 : Int) (p : List Nat := [1, 0, 1, 0]) : Option d44 := from_ EE R L 55 Go.Proofs.Tryz.f55 p (mk 19 [(0, .dat ⟨(.sl .str), v0, .sh⟩), (1, .dat ⟨.str, v1, .sh⟩), (7, .dat ⟨(.int .i64), v7, .sh⟩), (8, .dat ⟨(.int .i64), v8, .sh⟩)])
noncomputable def lp_laws_sameEntries_0 (v0 v1 : List d32) (v4 : Bool) (v5 : Int) (p : List Nat := [1, 1, 0, 1, 0]) : Option d46 := from_ EE R L 11 Go.Proofs.Tryz.f11 p (mk 26 [(0, .dat ⟨(.sl t5), v0, .sh⟩), (1, .dat ⟨(.sl t5), v1, .sh⟩), (4, .dat ⟨.bool, v4, .sh⟩), (5, .dat ⟨(.int .i64), v5, .sh⟩)])
noncomputable def lp_laws_sameInts_0 (v0 v1 : List Int) (v4 : Bool) (v5 : Int) (p : List Nat := [1, 1, 0, 1, 0]) : Option d46 := from_ EE R L 12 Go.Proofs.Tryz.f12 p (mk 26 [(0, .dat ⟨t10, v0, .sh⟩), (1, .dat ⟨t10, v1, .sh⟩), (4, .dat ⟨.bool, v4, .sh⟩), (5, .dat ⟨(.int .i64), v5, .sh⟩)])
noncomputable def lp_spec_MapOK_0 (v0 : List d32) (v2 : Bool) (v3 : Int) (p : List Nat := [1, 1, 0, 1, 0]) : Option d46 := from_ EE R L 20 Go.Proofs.Tryz.f20 p (mk 50 [(0, .dat ⟨(.sl t5), v0, .sh⟩), (2, .dat ⟨.bool, v2, .sh⟩), (3, .dat ⟨(.int .i64), v3, .sh⟩)])
noncomputable def lp_spec_l09Txn_0 (v0 v1 : d30) (v2 : Bool) (v3 : Int) (p : List Nat := [1, 0, 1, 0]) : Option d46 := from_ EE R L 21 Go.Proofs.Tryz.f21 p (mk 22 [(0, .dat ⟨t3, v0, .sh⟩), (1, .dat ⟨(.ptr t3), v1, (.own .sh)⟩), (2, .dat ⟨.bool, v2, .sh⟩), (3, .dat ⟨(.int .i64), v3, .sh⟩)])
noncomputable def lp_spec_l10Find_0 (v0 : List d32) (v1 v4 v5 : Int) (p : List Nat := [1, 0, 1, 0]) : Option d44 := from_ EE R L 65 Go.Proofs.Tryz.f65 p (mk 20 [(0, .dat ⟨(.sl t5), v0, .sh⟩), (1, .dat ⟨(.int .i64), v1, .sh⟩), (4, .dat ⟨(.int .i64), v4, .sh⟩), (5, .dat ⟨(.int .i64), v5, .sh⟩)])
noncomputable def lp_spec_l10Put_0 (v0 : List d32) (v1 v2 : Int) (v6 : List d32) (v7 : Int) (p : List Nat := [1, 1, 0, 0]) : Option d36 := from_ EE R L 67 Go.Proofs.Tryz.f67 p (mk 56 [(0, .dat ⟨(.sl t5), v0, .sh⟩), (1, .dat ⟨(.int .i64), v1, .sh⟩), (2, .dat ⟨(.int .i64), v2, .sh⟩), (6, .dat ⟨(.sl t5), v6, (.own .sh)⟩), (7, .dat ⟨(.int .i64), v7, .sh⟩)])
noncomputable def lp_spec_l10Do_0 (v0 : List d32) (v1 v3 : d29) (v4 : List d32) (v5 : List Int) (v6 v7 v8 : Int) (v9 : List Int) (v10 v23 : Int) (p : List Nat := [1, 1, 1, 1, 0, 1, 0, 1, 1, 1, 1, 1, 1, 1, 0, 1, 0, 1, 0]) : Option d47 := from_ EE R L 42 Go.Proofs.Tryz.f42 p (mk 153 [(0, .dat ⟨(.sl t5), v0, .sh⟩), (1, .dat ⟨t2, v1, .sh⟩), (3, .dat ⟨(.ptr t2), v3, (.own .sh)⟩), (4, .dat ⟨(.sl t5), v4, (.own .sh)⟩), (5, .dat ⟨t10, v5, (.own .sh)⟩), (6, .dat ⟨(.int .i64), v6, .sh⟩), (7, .dat ⟨(.int .i64), v7, .sh⟩), (8, .dat ⟨(.int .i64), v8, .sh⟩), (9, .dat ⟨t10, v9, (.own .sh)⟩), (10, .dat ⟨(.int .i64), v10, .sh⟩), (23, .dat ⟨(.int .i64), v23, .sh⟩)])
noncomputable def lp_spec_l10Do_1 (v0 : List d32) (v1 v3 : d29) (v4 : List d32) (v5 : List Int) (v6 v7 v8 : Int) (v9 : List Int) (v10 v23 : Int) (p : List Nat := [1, 1, 1, 1, 0, 1, 0, 1, 1, 1, 1, 1, 1, 1, 0, 1, 1, 0, 0]) : Option d47 := from_ EE R L 42 Go.Proofs.Tryz.f42 p (mk 153 [(0, .dat ⟨(.sl t5), v0, .sh⟩), (1, .dat ⟨t2, v1, .sh⟩), (3, .dat ⟨(.ptr t2), v3, (.own .sh)⟩), (4, .dat ⟨(.sl t5), v4, (.own .sh)⟩), (5, .dat ⟨t10, v5, (.own .sh)⟩), (6, .dat ⟨(.int .i64), v6, .sh⟩), (7, .dat ⟨(.int .i64), v7, .sh⟩), (8, .dat ⟨(.int .i64), v8, .sh⟩), (9, .dat ⟨t10, v9, (.own .sh)⟩), (10, .dat ⟨(.int .i64), v10, .sh⟩), (23, .dat ⟨(.int .i64), v23, .sh⟩)])
noncomputable def lp_spec_l10Txn_0 (v0 : List d32) (v1 v3 : d30) (v4 : List d32) (v5 : d37) (v6 : List d32) (v7 : d37) (v8 : Int) (p : List Nat := [1, 1, 1, 0, 1, 0]) : Option d48 := from_ EE R L 22 Go.Proofs.Tryz.f22 p (mk 47 [(0, .dat ⟨(.sl t5), v0, .sh⟩), (1, .dat ⟨t3, v1, .sh⟩), (3, .dat ⟨(.ptr t3), v3, (.own .sh)⟩), (4, .dat ⟨(.sl t5), v4, (.own .sh)⟩), (5, .dat ⟨(.ptr t11), v5, (.own (.pr .sh (.pr (.own .sh) .sh)))⟩), (6, .dat ⟨(.sl t5), v6, .sh⟩), (7, .dat ⟨(.ptr t11), v7, (.own (.pr .sh (.pr (.own .sh) .sh)))⟩), (8, .dat ⟨(.int .i64), v8, .sh⟩)])
noncomputable def lp_spec_l10Txn_1 (v0 : List d32) (v1 v3 : d30) (v4 : List d32) (v5 : d37) (v6 : List d32) (v7 : d37) (v8 : Int) (v9 : List d32) (v10 : List Int) (v11 : Int) (p : List Nat := [1, 1, 1, 0, 1, 0]) : Option d48 := from_ EE R L 22 Go.Proofs.Tryz.f22 p (mk 47 [(0, .dat ⟨(.sl t5), v0, .sh⟩), (1, .dat ⟨t3, v1, .sh⟩), (3, .dat ⟨(.ptr t3), v3, (.own .sh)⟩), (4, .dat ⟨(.sl t5), v4, (.own .sh)⟩), (5, .dat ⟨(.ptr t11), v5, (.own (.pr .sh (.pr (.own .sh) .sh)))⟩), (6, .dat ⟨(.sl t5), v6, .sh⟩), (7, .dat ⟨(.ptr t11), v7, (.own (.pr .sh (.pr (.own .sh) .sh)))⟩), (8, .dat ⟨(.int .i64), v8, .sh⟩), (9, .dat ⟨(.sl t5), v9, .sh⟩), (10, .dat ⟨t10, v10, .sh⟩), (11, .dat ⟨(.int .i64), v11, .sh⟩)])
noncomputable def lp_spec_l10Batch_0 (v0 : List d32) (v1 : List d30) (v4 : List d32) (v5 v6 : List d37) (v7 : Int) (p : List Nat := [1, 1, 0, 1, 0]) : Option d49 := from_ EE R L 32 Go.Proofs.Tryz.f32 p (mk 33 [(0, .dat ⟨(.sl t5), v0, .sh⟩), (1, .dat ⟨(.sl t3), v1, .sh⟩), (4, .dat ⟨(.sl t5), v4, (.own .sh)⟩), (5, .dat ⟨(.sl t11), v5, (.own (.pr .sh (.pr (.own .sh) .sh)))⟩), (6, .dat ⟨(.sl t11), v6, (.own (.pr .sh (.pr (.own .sh) .sh)))⟩), (7, .dat ⟨(.int .i64), v7, .sh⟩)])
noncomputable def lp_spec_l10Batch_1 (v0 : List d32) (v1 : List d30) (v4 : List d32) (v5 v6 : List d37) (v7 : Int) (v8 : List d32) (v9 : d37) (p : List Nat := [1, 1, 0, 1, 0]) : Option d49 := from_ EE R L 32 Go.Proofs.Tryz.f32 p (mk 33 [(0, .dat ⟨(.sl t5), v0, .sh⟩), (1, .dat ⟨(.sl t3), v1, .sh⟩), (4, .dat ⟨(.sl t5), v4, (.own .sh)⟩), (5, .dat ⟨(.sl t11), v5, (.own (.pr .sh (.pr (.own .sh) .sh)))⟩), (6, .dat ⟨(.sl t11), v6, (.own (.pr .sh (.pr (.own .sh) .sh)))⟩), (7, .dat ⟨(.int .i64), v7, .sh⟩), (8, .dat ⟨(.sl t5), v8, .sh⟩), (9, .dat ⟨(.ptr t11), v9, (.own .gone)⟩)])
noncomputable def lp_impl_MapOK_0 (v0 : List d32) (v2 : Bool) (v5 : List d32) (v6 v7 : Int) (p : List Nat := [1, 0, 1, 0]) : Option d46 := from_ EE R L 16 Go.Proofs.Tryz.f16 p (mk 41 [(0, .dat ⟨(.sl t5), v0, .sh⟩), (2, .dat ⟨.bool, v2, .sh⟩), (5, .dat ⟨(.sl t5), v5, .sh⟩), (6, .dat ⟨(.int .i64), v6, .sh⟩), (7, .dat ⟨(.int .i64), v7, .sh⟩)])
noncomputable def lp_impl_MapOK_1 (v0 : List d32) (v2 : Bool) (v3 : Int) (v4 : d32) (v5 : List d32) (v6 v7 : Int) (p : List Nat := [1, 0, 1, 0]) : Option d46 := from_ EE R L 16 Go.Proofs.Tryz.f16 p (mk 41 [(0, .dat ⟨(.sl t5), v0, .sh⟩), (2, .dat ⟨.bool, v2, .sh⟩), (3, .dat ⟨(.int .i64), v3, .sh⟩), (4, .dat ⟨(.ptr t5), v4, (.own .sh)⟩), (5, .dat ⟨(.sl t5), v5, .sh⟩), (6, .dat ⟨(.int .i64), v6, .sh⟩), (7, .dat ⟨(.int .i64), v7, .sh⟩)])
noncomputable def lp_slices_IndexFunc___impl_Op_impl_Op__0 (v0 : List d29) (v1 : FnVal) (v4 v7 v8 : Int) (p : List Nat := [1, 0, 1, 0]) : Option d44 := from_ EE R L 77 Go.Proofs.Tryz.f77 p (mk 19 [(0, .dat ⟨(.sl t2), v0, .sh⟩), (1, .dat ⟨.fn, v1, .sh⟩), (4, .dat ⟨(.int .i64), v4, .sh⟩), (7, .dat ⟨(.int .i64), v7, .sh⟩), (8, .dat ⟨(.int .i64), v8, .sh⟩)])
noncomputable def lp_slices_IndexFunc___impl_Op_impl_Op__1 (v0 : List d29) (v1 : FnVal) (v4 v5 v7 v8 : Int) (p : List Nat := [1, 0, 1, 0]) : Option d44 := from_ EE R L 77 Go.Proofs.Tryz.f77 p (mk 19 [(0, .dat ⟨(.sl t2), v0, .sh⟩), (1, .dat ⟨.fn, v1, .sh⟩), (4, .dat ⟨(.int .i64), v4, .sh⟩), (5, .dat ⟨(.int .i64), v5, .sh⟩), (7, .dat ⟨(.int .i64), v7, .sh⟩), (8, .dat ⟨(.int .i64), v8, .sh⟩)])
noncomputable def lp_slices_BinarySearchFunc___impl_Entry_impl_Entry_int__0 (v0 : List d32) (v1 : Int) (v2 : FnVal) (v6 : Int) (v7 : Bool) (v8 v9 v10 : Int) (p : List Nat := [1, 1, 1, 0, 0]) : Option d42 := from_ EE R L 78 Go.Proofs.Tryz.f78 p (mk 49 [(0, .dat ⟨(.sl t5), v0, .sh⟩), (1, .dat ⟨(.int .i64), v1, .sh⟩), (2, .dat ⟨.fn, v2, .sh⟩), (6, .dat ⟨(.int .i64), v6, .sh⟩), (7, .dat ⟨.bool, v7, .sh⟩), (8, .dat ⟨(.int .i64), v8, .sh⟩), (9, .dat ⟨(.int .i64), v9, .sh⟩), (10, .dat ⟨(.int .i64), v10, .sh⟩)])
noncomputable def lp_slices_BinarySearchFunc___impl_Entry_impl_Entry_int__1 (v0 : List d32) (v1 : Int) (v2 : FnVal) (v6 : Int) (v7 : Bool) (v8 v9 v10 v11 : Int) (p : List Nat := [1, 1, 1, 0, 0]) : Option d42 := from_ EE R L 78 Go.Proofs.Tryz.f78 p (mk 49 [(0, .dat ⟨(.sl t5), v0, .sh⟩), (1, .dat ⟨(.int .i64), v1, .sh⟩), (2, .dat ⟨.fn, v2, .sh⟩), (6, .dat ⟨(.int .i64), v6, .sh⟩), (7, .dat ⟨.bool, v7, .sh⟩), (8, .dat ⟨(.int .i64), v8, .sh⟩), (9, .dat ⟨(.int .i64), v9, .sh⟩), (10, .dat ⟨(.int .i64), v10, .sh⟩), (11, .dat ⟨(.int .i64), v11, .sh⟩)])
noncomputable def lp_impl_scan_0 (v0 : List d32) (v1 v2 : Int) (v6 : List Int) (v7 : Int) (v9 : List Int) (p : List Nat := [1, 1, 1, 0, 0]) : Option d50 := from_ EE R L 63 Go.Proofs.Tryz.f63 p (mk 43 [(0, .dat ⟨(.sl t5), v0, .sh⟩), (1, .dat ⟨(.int .i64), v1, .sh⟩), (2, .dat ⟨(.int .i64), v2, .sh⟩), (6, .dat ⟨t10, v6, (.own .sh)⟩), (7, .dat ⟨(.int .i64), v7, .sh⟩), (9, .dat ⟨t10, v9, (.own .sh)⟩)])
noncomputable def lp_impl_doTxn_0 (v0 : List d32) (v1 v3 : d30) (v4 : List d32) (v5 : d37) (v6 : List d32) (v7 : d37) (v15 : List d29) (v16 v17 : Int) (p : List Nat := [1, 1, 1, 0, 1, 0]) : Option d48 := from_ EE R L 18 Go.Proofs.Tryz.f18 p (mk 42 [(0, .dat ⟨(.sl t5), v0, .sh⟩), (1, .dat ⟨t3, v1, .sh⟩), (3, .dat ⟨(.ptr t3), v3, (.own .sh)⟩), (4, .dat ⟨(.sl t5), v4, (.own .sh)⟩), (5, .dat ⟨(.ptr t11), v5, (.own (.pr .sh (.pr (.own .sh) .sh)))⟩), (6, .dat ⟨(.sl t5), v6, .sh⟩), (7, .dat ⟨(.ptr t11), v7, (.own (.pr .sh (.pr (.own .sh) .sh)))⟩), (15, .dat ⟨(.sl t2), v15, .sh⟩), (16, .dat ⟨(.int .i64), v16, .sh⟩), (17, .dat ⟨(.int .i64), v17, .sh⟩)])
noncomputable def lp_impl_doTxn_1 (v0 : List d32) (v1 v3 : d30) (v4 : List d32) (v5 : d37) (v6 : List d32) (v7 : d37) (v9 : d29) (v10 : List d32) (v11 : List Int) (v12 : Int) (v15 : List d29) (v16 v17 : Int) (p : List Nat := [1, 1, 1, 0, 1, 0]) : Option d48 := from_ EE R L 18 Go.Proofs.Tryz.f18 p (mk 42 [(0, .dat ⟨(.sl t5), v0, .sh⟩), (1, .dat ⟨t3, v1, .sh⟩), (3, .dat ⟨(.ptr t3), v3, (.own .sh)⟩), (4, .dat ⟨(.sl t5), v4, (.own .sh)⟩), (5, .dat ⟨(.ptr t11), v5, (.own (.pr .sh (.pr (.own .sh) .sh)))⟩), (6, .dat ⟨(.sl t5), v6, .sh⟩), (7, .dat ⟨(.ptr t11), v7, (.own (.pr .sh (.pr (.own .sh) .sh)))⟩), (9, .dat ⟨(.ptr t2), v9, (.own .sh)⟩), (10, .dat ⟨(.sl t5), v10, .sh⟩), (11, .dat ⟨t10, v11, .sh⟩), (12, .dat ⟨(.int .i64), v12, .sh⟩), (15, .dat ⟨(.sl t2), v15, .sh⟩), (16, .dat ⟨(.int .i64), v16, .sh⟩), (17, .dat ⟨(.int .i64), v17, .sh⟩)])
noncomputable def lp_slices_IndexFunc___string_string__0 (v0 : List (List UInt8)) (v1 : FnVal) (v4 v7 v8 : Int) (p : List Nat := [1, 0, 1, 0]) : Option d44 := from_ EE R L 73 Go.Proofs.Tryz.f73 p (mk 19 [(0, .dat ⟨(.sl .str), v0, .sh⟩), (1, .dat ⟨.fn, v1, .sh⟩), (4, .dat ⟨(.int .i64), v4, .sh⟩), (7, .dat ⟨(.int .i64), v7, .sh⟩), (8, .dat ⟨(.int .i64), v8, .sh⟩)])
noncomputable def lp_slices_IndexFunc___string_string__1 (v0 : List (List UInt8)) (v1 : FnVal) (v4 v5 v7 v8 : Int) (p : List Nat := [1, 0, 1, 0]) : Option d44 := from_ EE R L 73 Go.Proofs.Tryz.f73 p (mk 19 [(0, .dat ⟨(.sl .str), v0, .sh⟩), (1, .dat ⟨.fn, v1, .sh⟩), (4, .dat ⟨(.int .i64), v4, .sh⟩), (5, .dat ⟨(.int .i64), v5, .sh⟩), (7, .dat ⟨(.int .i64), v7, .sh⟩), (8, .dat ⟨(.int .i64), v8, .sh⟩)])
noncomputable def lp_slices_IndexFunc___int_int__0 (v0 : List Int) (v1 : FnVal) (v4 v7 v8 : Int) (p : List Nat := [1, 0, 1, 0]) : Option d44 := from_ EE R L 81 Go.Proofs.Tryz.f81 p (mk 19 [(0, .dat ⟨t10, v0, .sh⟩), (1, .dat ⟨.fn, v1, .sh⟩), (4, .dat ⟨(.int .i64), v4, .sh⟩), (7, .dat ⟨(.int .i64), v7, .sh⟩), (8, .dat ⟨(.int .i64), v8, .sh⟩)])
noncomputable def lp_slices_IndexFunc___int_int__1 (v0 : List Int) (v1 : FnVal) (v4 v5 v7 v8 : Int) (p : List Nat := [1, 0, 1, 0]) : Option d44 := from_ EE R L 81 Go.Proofs.Tryz.f81 p (mk 19 [(0, .dat ⟨t10, v0, .sh⟩), (1, .dat ⟨.fn, v1, .sh⟩), (4, .dat ⟨(.int .i64), v4, .sh⟩), (5, .dat ⟨(.int .i64), v5, .sh⟩), (7, .dat ⟨(.int .i64), v7, .sh⟩), (8, .dat ⟨(.int .i64), v8, .sh⟩)])
noncomputable def lp_spec_l10ResultOK_0 (v0 v1 : d37) (v2 : Bool) (v3 : Int) (p : List Nat := [1, 1, 0, 1, 0]) : Option d46 := from_ EE R L 25 Go.Proofs.Tryz.f25 p (mk 39 [(0, .dat ⟨t11, v0, .sh⟩), (1, .dat ⟨(.ptr t11), v1, (.own .sh)⟩), (2, .dat ⟨.bool, v2, .sh⟩), (3, .dat ⟨(.int .i64), v3, .sh⟩)])
noncomputable def lp_spec_l10Text_0 (v1 : d37) (v3 : List UInt8) (v4 : Int) (p : List Nat := [1, 1, 0, 1, 0]) : Option d40 := from_ EE R L 26 Go.Proofs.Tryz.f26 p (mk 25 [(1, .dat ⟨(.ptr t11), v1, (.own .sh)⟩), (3, .dat ⟨.str, v3, .sh⟩), (4, .dat ⟨(.int .i64), v4, .sh⟩)])
theorem q_pspec_l00Src_batch (x0 : d28) : @Eq _ (c_pspec_l00Src_batch (bodyK EE R L) x0) ((c_pspec_l00Src_next R x0 2).bind fun r0 =>
 lp_pspec_l00Src_batch_0 R L r0.2.1 [] (IntKind.wrap .i64 (1 + r0.1))) := by kernel_rfl
theorem q_pspec_l00Src_batch_0 (v0 : d28) (v3 : List d30) (v4 : Int) : @Eq _ (lp_pspec_l00Src_batch_0 R L v0 v3 v4 ([1, 1, 0, 1, 0] ++ [0])) (cond (decide (0 < v4))
 ((c_pspec_l00Src_next R v0 4).bind fun r0 =>
 lp_pspec_l00Src_batch_1 R L r0.2.1 v3 v4 ([], ()) (IntKind.wrap .i64 (1 + r0.1)))
 (some (v3, (v0, ())))) := by kernel_rfl
theorem q_pspec_l00Src_batch_1 (v0 : d28) (v3 : List d30) (v4 : Int) (v5 : d30) (v6 : Int) : @Eq _ (lp_pspec_l00Src_batch_1 R L v0 v3 v4 v5 v6 ([1, 1, 0, 1, 0, 0, 1, 0, 0, 1, 0, 1, 0] ++ [0])) (cond (decide (0 < v6))
 ((c_pspec_l00Src_op R v0).bind fun r0 =>
 cond (lenOK (v5.1.length + ([r0.1]).length))
 (lp_pspec_l00Src_batch_1 R L r0.2.1 v3 v4 (v5.1 ++ [r0.1], v5.2) (IntKind.wrap .i64 (v6 - 1)))
 none)
 (cond (lenOK (v3.length + ([v5]).length))
 (lp_pspec_l00Src_batch_0 R L v0 (v3 ++ [v5]) (IntKind.wrap .i64 (v4 - 1)))
 none)) := by kernel_rfl
theorem q_pspec_l00Src_entries (x0 : d28) : @Eq _ (c_pspec_l00Src_entries (bodyK EE R L) x0) ((c_pspec_l00Src_next R x0 9).bind fun r0 =>
 lp_pspec_l00Src_entries_0 R L r0.2.1 [] r0.1) := by kernel_rfl
theorem q_pspec_l00Src_entries_0 (v0 : d28) (v3 : List d32) (v4 : Int) : @Eq _ (lp_pspec_l00Src_entries_0 R L v0 v3 v4 ([1, 1, 0, 1, 0] ++ [0])) (cond (decide (0 < v4))
 ((c_pspec_l00Src_batch R v0).bind fun r0 =>
 (c_spec_l10Batch R v3 r0.1).bind fun r1 =>
 lp_pspec_l00Src_entries_1 R L r0.2.1 r1.1 (IntKind.wrap .i64 (v4 - 1)))
 (some (v3, (v0, ())))) := by kernel_rfl
theorem q_pspec_l00Src_entries_1 (v0 : d28) (v3 : List d32) (v4 : Int) : @Eq _ (lp_pspec_l00Src_entries_1 R L v0 v3 v4 ([1, 1, 0, 1, 0] ++ [0])) (cond (decide (0 < v4))
 ((c_pspec_l00Src_batch R v0).bind fun r0 =>
 (c_spec_l10Batch R v3 r0.1).bind fun r1 =>
 lp_pspec_l00Src_entries_1 R L r0.2.1 r1.1 (IntKind.wrap .i64 (v4 - 1)))
 (some (v3, (v0, ())))) := by kernel_rfl
theorem q_spec_BatchOf (x0 : List Int) : @Eq _ (c_spec_BatchOf (bodyK EE R L) x0) ((c_spec_l00Source R x0).bind fun r0 =>
 (c_pspec_l00Src_batch R r0.1).bind fun r1 =>
 some (r1.1, ())) := by kernel_rfl
theorem q_pspec_l00Src_op (x0 : d28) : @Eq _ (c_pspec_l00Src_op (bodyK EE R L) x0) ((c_pspec_l00Src_next R x0 6).bind fun r0 =>
 (c_pspec_l00Src_next R r0.2.1 3).bind fun r1 =>
 cond (nonneg r1.1)
 (cond (Nat.blt r1.1.toNat ([(2 : Int), 2, IntKind.wrap .i64 (1 + r0.1)]).length)
 ((c_pspec_l00Src_next R r1.2.1 14).bind fun r2 =>
 cond (eqI (([(2 : Int), 2, IntKind.wrap .i64 (1 + r0.1)]).getD r1.1.toNat 0) 1)
 (some ((([(2 : Int), 2, IntKind.wrap .i64 (1 + r0.1)]).getD r1.1.toNat 0, (IntKind.wrap .i64 (1 + r2.1), (0, ()))), (r2.2.1, ())))
 (cond (eqI (([(2 : Int), 2, IntKind.wrap .i64 (1 + r0.1)]).getD r1.1.toNat 0) 3)
 (some ((([(2 : Int), 2, IntKind.wrap .i64 (1 + r0.1)]).getD r1.1.toNat 0, (IntKind.wrap .i64 (1 + r2.1), (0, ()))), (r2.2.1, ())))
 (cond (eqI (([(2 : Int), 2, IntKind.wrap .i64 (1 + r0.1)]).getD r1.1.toNat 0) 6)
 ((c_pspec_l00Src_next R r2.2.1 4).bind fun r3 =>
 some ((([(2 : Int), 2, IntKind.wrap .i64 (1 + r0.1)]).getD r1.1.toNat 0, (IntKind.wrap .i64 (1 + r2.1), (IntKind.wrap .i64 (1 + r3.1), ()))), (r3.2.1, ())))
 (cond (eqI (([(2 : Int), 2, IntKind.wrap .i64 (1 + r0.1)]).getD r1.1.toNat 0) 5)
 ((c_pspec_l00Src_next R r2.2.1 5).bind fun r3 =>
 (c_pspec_l00Src_next R r3.2.1 9).bind fun r4 =>
 cond (nonneg (IntKind.wrap .i64 (Int.tdiv r4.1 8)))
 (cond (Nat.blt (IntKind.wrap .i64 (Int.tdiv r4.1 8)).toNat ([r3.1, 999999]).length)
 (some ((([(2 : Int), 2, IntKind.wrap .i64 (1 + r0.1)]).getD r1.1.toNat 0, (IntKind.wrap .i64 (1 + r2.1), (([r3.1, 999999]).getD (IntKind.wrap .i64 (Int.tdiv r4.1 8)).toNat 0, ()))), (r4.2.1, ())))
 none)
 none)
 ((c_pspec_l00Src_next R r2.2.1 4).bind fun r3 =>
 some ((([(2 : Int), 2, IntKind.wrap .i64 (1 + r0.1)]).getD r1.1.toNat 0, (IntKind.wrap .i64 (1 + r2.1), (r3.1, ()))), (r3.2.1, ())))))))
 none)
 none) := by kernel_rfl
theorem q_spec_EntriesOf (x0 : List Int) : @Eq _ (c_spec_EntriesOf (bodyK EE R L) x0) ((c_spec_l00Source R x0).bind fun r0 =>
 (c_pspec_l00Src_entries R r0.1).bind fun r1 =>
 some (r1.1, ())) := by kernel_rfl
theorem q_impl_MapTxn (x0 : List d32) (x1 : d30) : @Eq _ (c_impl_MapTxn (bodyK EE R L) x0 x1) (cond (decide (4096 < (x0.length : Int)))
 (some ([], ((0, ([], ())), (2, ()))))
 ((c_impl_MapOK R x0).bind fun r0 =>
 cond (!r0.1)
 (some ([], ((0, ([], ())), (1, ()))))
 ((c_impl_isTxn R x1).bind fun r1 =>
 cond (!r1.1)
 (some ([], ((0, ([], ())), (1, ()))))
 ((c_impl_doTxn R x0 x1).bind fun r2 =>
 (c_slices_Clone___impl_Entry_impl_Entry_ R r2.1).bind fun r3 =>
 some (r3.1, (r2.2.1, (0, ()))))))) := by kernel_rfl
theorem q_spec_MapTxn (x0 : List d32) (x1 : d30) : @Eq _ (c_spec_MapTxn (bodyK EE R L) x0 x1) (cond (decide (4096 < (x0.length : Int)))
 (some ([], ((0, ([], ())), (2, ()))))
 ((c_spec_MapOK R x0).bind fun r0 =>
 cond (!r0.1)
 (some ([], ((0, ([], ())), (1, ()))))
 ((c_spec_l09Txn R x1).bind fun r1 =>
 cond (!r1.1)
 (some ([], ((0, ([], ())), (1, ()))))
 ((c_spec_l10Txn R x0 x1).bind fun r2 =>
 cond (lenOK (([] : List d32).length + r2.1.length))
 (some ([] ++ r2.1, (r2.2.1, (0, ()))))
 none)))) := by kernel_rfl
theorem q_impl_codeWords : @Eq _ (c_impl_codeWords (bodyK EE R L)) (some ([[111, 107], [98, 97, 100], [108, 111, 110, 103], [102, 111, 114, 109], [114, 97, 110, 103, 101], [110, 111, 110, 101], [109, 97, 110, 121], [102, 117, 108, 108], [115, 105, 122, 101], [116, 97, 103], [116, 97, 109, 112, 101, 114, 101, 100], [116, 111, 114, 110], [115, 116, 97, 115, 104], [116, 97, 112, 101], [99, 104, 101, 99, 107], [112, 101, 110, 100, 105, 110, 103], [100, 111, 119, 110], [117, 112], [115, 112, 101, 110, 116], [107, 101, 121]], ())) := by kernel_rfl
theorem q_impl_CodeWord (x0 : Int) : @Eq _ (c_impl_CodeWord (bodyK EE R L) x0) ((c_impl_isCode R x0).bind fun r0 =>
 cond (!r0.1)
 (some ([], ()))
 ((c_impl_codeWords R).bind fun r1 =>
 cond (nonneg x0)
 (cond (Nat.blt x0.toNat r1.1.length)
 (some (r1.1.getD x0.toNat [], ()))
 none)
 none)) := by kernel_rfl
theorem q_impl_resultText (x0 : d37) : @Eq _ (c_impl_resultText (bodyK EE R L) x0) ((c_impl_CodeWord R x0.1).bind fun r0 =>
 lp_impl_resultText_0 R L r0.1 x0.2.1 (x0.2.1.length : Int) 0) := by kernel_rfl
theorem q_impl_resultText_0 (v3 : List UInt8) (v10 : List Int) (v11 v12 : Int) : @Eq _ (lp_impl_resultText_0 R L v3 v10 v11 v12 ([1, 1, 0, 1, 0] ++ [0])) (cond (decide (v12 < v11))
 (cond (nonneg v12)
 (cond (Nat.blt v12.toNat v10.length)
 ((c_strconv_Itoa R (v10.getD v12.toNat 0)).bind fun r0 =>
 cond (lenOK (([(32 : UInt8)]).length + r0.1.length))
 (cond (lenOK (v3.length + ([(32 : UInt8)] ++ r0.1).length))
 (lp_impl_resultText_0 R L (v3 ++ ([32] ++ r0.1)) v10 v11 (IntKind.wrap .i64 (v12 + 1)))
 none)
 none)
 none)
 none)
 (some (v3, ()))) := by kernel_rfl
theorem q_impl_ResultText (x0 : d37) : @Eq _ (c_impl_ResultText (bodyK EE R L) x0) ((c_impl_isResult R x0).bind fun r0 =>
 cond (!r0.1)
 (some ([], (1, ())))
 ((c_impl_resultText R x0).bind fun r1 =>
 some (r1.1, (0, ())))) := by kernel_rfl
theorem q_spec_ResultText (x0 : d37) : @Eq _ (c_spec_ResultText (bodyK EE R L) x0) ((c_spec_l10ResultOK R x0).bind fun r0 =>
 cond (!r0.1)
 (some ([], (1, ())))
 ((c_spec_l10Text R x0).bind fun r1 =>
 some (r1.1, (0, ())))) := by kernel_rfl
theorem q_impl_readNumbers (x0 : List (List UInt8)) : @Eq _ (c_impl_readNumbers (bodyK EE R L) x0) (lp_impl_readNumbers_0 R L [] x0 (x0.length : Int) 0) := by kernel_rfl
theorem q_impl_readNumbers_0 (v4 : List Int) (v9 : List (List UInt8)) (v10 v11 : Int) : @Eq _ (lp_impl_readNumbers_0 R L v4 v9 v10 v11 ([1, 1, 0, 1, 0] ++ [0])) (cond (decide (v11 < v10))
 (cond (nonneg v11)
 (cond (Nat.blt v11.toNat v9.length)
 ((c_impl_readNumber R (v9.getD v11.toNat [])).bind fun r0 =>
 cond (!r0.2.1)
 (some ([], (false, ())))
 (cond (lenOK (v4.length + ([r0.1]).length))
 (lp_impl_readNumbers_0 R L (v4 ++ [r0.1]) v9 v10 (IntKind.wrap .i64 (v11 + 1)))
 none))
 none)
 none)
 (some (v4, (true, ())))) := by kernel_rfl
theorem q_slices_Index___string_string_ (x0 : List (List UInt8)) (x1 : List UInt8) : @Eq _ (c_slices_Index___string_string_ (bodyK EE R L) x0 x1) (lp_slices_Index___string_string__0 R L x0 x1 (x0.length : Int) 0) := by kernel_rfl
theorem q_slices_Index___string_string__0 (v0 : List (List UInt8)) (v1 : List UInt8) (v7 v8 : Int) : @Eq _ (lp_slices_Index___string_string__0 R L v0 v1 v7 v8 ([1, 0, 1, 0] ++ [0])) (cond (decide (v8 < v7))
 (cond (nonneg v8)
 (cond (Nat.blt v8.toNat v0.length)
 (cond (eqS v1 (v0.getD v8.toNat []))
 (some (v8, ()))
 (lp_slices_Index___string_string__0 R L v0 v1 v7 (IntKind.wrap .i64 (v8 + 1))))
 none)
 none)
 (some (-1, ()))) := by kernel_rfl
theorem q_impl_CodeOf (x0 : List UInt8) : @Eq _ (c_impl_CodeOf (bodyK EE R L) x0) ((c_impl_codeWords R).bind fun r0 =>
 (c_slices_Index___string_string_ R r0.1 x0).bind fun r1 =>
 some (r1.1, ())) := by kernel_rfl
theorem q_impl_ReadResult (x0 : List UInt8) : @Eq _ (c_impl_ReadResult (bodyK EE R L) x0) ((c_impl_areShort R [x0]).bind fun r0 =>
 cond (!r0.1)
 (some ((0, ([], ())), (2, ())))
 ((c_impl_wordsOf R x0).bind fun r1 =>
 cond (eqI (r1.1.length : Int) 0)
 (some ((0, ([], ())), (3, ())))
 (cond (Nat.ble r1.1.length r1.1.length)
 (cond (Nat.ble (1 : Int).toNat r1.1.length)
 ((c_impl_readNumbers R (List.drop (1 : Int).toNat (List.take r1.1.length r1.1))).bind fun r2 =>
 cond (Nat.blt (0 : Int).toNat r1.1.length)
 ((c_impl_CodeOf R (r1.1.getD (0 : Int).toNat [])).bind fun r3 =>
 cond (!r2.2.1)
 (some ((0, ([], ())), (3, ())))
 ((c_impl_isResult R (r3.1, (r2.1, ()))).bind fun r4 =>
 cond (!r4.1)
 (some ((0, ([], ())), (3, ())))
 (some ((r3.1, (r2.1, ())), (0, ())))))
 none)
 none)
 none))) := by kernel_rfl
theorem q_laws_sameEntries (x0 x1 : List d32) : @Eq _ (c_laws_sameEntries (bodyK EE R L) x0 x1) (cond (!(eqI (x0.length : Int) (x1.length : Int)))
 (some (false, ()))
 (lp_laws_sameEntries_0 R L x0 x1 false 0)) := by kernel_rfl
theorem q_laws_sameEntries_0 (v0 v1 : List d32) (v4 : Bool) (v5 : Int) : @Eq _ (lp_laws_sameEntries_0 R L v0 v1 v4 v5 ([1, 1, 0, 1, 0] ++ [0])) (cond (decide (v5 < (v0.length : Int)))
 (cond (nonneg v5)
 (cond (Nat.blt v5.toNat v0.length)
 (cond (nonneg v5)
 (cond (Nat.blt v5.toNat v1.length)
 (cond (!(Bool.and (eqI (v0.getD v5.toNat (0, (0, ()))).1 (v1.getD v5.toNat (0, (0, ()))).1) (Bool.and (eqI (v0.getD v5.toNat (0, (0, ()))).2.1 (v1.getD v5.toNat (0, (0, ()))).2.1) true)))
 (some (false, ()))
 (lp_laws_sameEntries_0 R L v0 v1 v4 (IntKind.wrap .i64 (v5 + 1))))
 none)
 none)
 none)
 none)
 (some (true, ()))) := by kernel_rfl
theorem q_laws_sameInts (x0 x1 : List Int) : @Eq _ (c_laws_sameInts (bodyK EE R L) x0 x1) (cond (!(eqI (x0.length : Int) (x1.length : Int)))
 (some (false, ()))
 (lp_laws_sameInts_0 R L x0 x1 false 0)) := by kernel_rfl
theorem q_laws_sameInts_0 (v0 v1 : List Int) (v4 : Bool) (v5 : Int) : @Eq _ (lp_laws_sameInts_0 R L v0 v1 v4 v5 ([1, 1, 0, 1, 0] ++ [0])) (cond (decide (v5 < (v0.length : Int)))
 (cond (nonneg v5)
 (cond (Nat.blt v5.toNat v0.length)
 (cond (nonneg v5)
 (cond (Nat.blt v5.toNat v1.length)
 (cond (!(eqI (v0.getD v5.toNat 0) (v1.getD v5.toNat 0)))
 (some (false, ()))
 (lp_laws_sameInts_0 R L v0 v1 v4 (IntKind.wrap .i64 (v5 + 1))))
 none)
 none)
 none)
 none)
 (some (true, ()))) := by kernel_rfl
theorem q_laws_FnAbort (x0 x1 : List Int) : @Eq _ (c_laws_FnAbort (bodyK EE R L) x0 x1) (cond (decide (1048576 < (x0.length : Int)))
 (some (true, ()))
 (cond (decide (1048576 < (x1.length : Int)))
 (some (true, ()))
 ((c_spec_EntriesOf R x0).bind fun r0 =>
 (c_spec_BatchOf R x1).bind fun r1 =>
 cond (Nat.blt (0 : Int).toNat r1.1.length)
 ((c_impl_MapTxn R r0.1 (r1.1.getD (0 : Int).toNat ([], ()))).bind fun r2 =>
 cond (Nat.blt (0 : Int).toNat r1.1.length)
 ((c_spec_MapTxn R r0.1 (r1.1.getD (0 : Int).toNat ([], ()))).bind fun r3 =>
 (c_impl_ResultText R r2.2.1).bind fun r4 =>
 (c_spec_ResultText R r2.2.1).bind fun r5 =>
 (c_impl_ReadResult R r4.1).bind fun r6 =>
 (c_impl_MapTxn R r0.1 ([(2, (9000, (1, ()))), (4, (9001, (1, ())))], ())).bind fun r7 =>
 cond (!(eqI r2.2.2.1 0))
 (some (false, ()))
 ((c_laws_sameEntries R r2.1 r3.1).bind fun r8 =>
 cond (!r8.1)
 (some (false, ()))
 (cond (!(eqI r2.2.1.1 r3.2.1.1))
 (some (false, ()))
 ((c_laws_sameInts R r2.2.1.2.1 r3.2.1.2.1).bind fun r9 =>
 cond (!r9.1)
 (some (false, ()))
 (cond (!(eqI r4.2.1 0))
 (some (false, ()))
 (cond (!(eqS r4.1 r5.1))
 (some (false, ()))
 (cond (!(eqI r6.2.1 0))
 (some (false, ()))
 (cond (!(eqI r6.1.1 r2.2.1.1))
 (some (false, ()))
 ((c_laws_sameInts R r6.1.2.1 r2.2.1.2.1).bind fun r10 =>
 cond (!r10.1)
 (some (false, ()))
 (cond (eqI r7.2.2.1 0)
 (cond (eqI r7.2.1.1 14)
 (cond (!(eqI (r0.1.length : Int) 11))
 ((c_laws_sameEntries R r7.1 r0.1).bind fun r11 =>
 cond r11.1
 (cond (eqI r2.2.1.1 0)
 (some (true, ()))
 ((c_laws_sameEntries R r2.1 r0.1).bind fun r12 =>
 cond r12.1
 (some (eqI (r2.2.1.2.1.length : Int) 0, ()))
 (some (false, ()))))
 (some (false, ())))
 (cond (eqI r7.2.1.1 7)
 (cond (eqI (r0.1.length : Int) 11)
 ((c_laws_sameEntries R r7.1 r0.1).bind fun r11 =>
 cond r11.1
 (cond (eqI r2.2.1.1 0)
 (some (true, ()))
 ((c_laws_sameEntries R r2.1 r0.1).bind fun r12 =>
 cond r12.1
 (some (eqI (r2.2.1.2.1.length : Int) 0, ()))
 (some (false, ()))))
 (some (false, ())))
 (some (false, ())))
 (some (false, ()))))
 (cond (eqI r7.2.1.1 7)
 (cond (eqI (r0.1.length : Int) 11)
 ((c_laws_sameEntries R r7.1 r0.1).bind fun r11 =>
 cond r11.1
 (cond (eqI r2.2.1.1 0)
 (some (true, ()))
 ((c_laws_sameEntries R r2.1 r0.1).bind fun r12 =>
 cond r12.1
 (some (eqI (r2.2.1.2.1.length : Int) 0, ()))
 (some (false, ()))))
 (some (false, ())))
 (some (false, ())))
 (some (false, ()))))
 (some (false, ()))))))))))))
 none)
 none))) := by kernel_rfl
theorem q_spec_l01In (x0 x1 x2 : Int) : @Eq _ (c_spec_l01In (bodyK EE R L) x0 x1 x2) (cond (decide (x1 ≤ x0))
 (some (decide (x0 ≤ x2), ()))
 (some (false, ()))) := by kernel_rfl
theorem q_spec_MapOK (x0 : List d32) : @Eq _ (c_spec_MapOK (bodyK EE R L) x0) (cond (decide (4096 < (x0.length : Int)))
 (some (false, ()))
 (lp_spec_MapOK_0 R L x0 false 0)) := by kernel_rfl
theorem q_spec_MapOK_0 (v0 : List d32) (v2 : Bool) (v3 : Int) : @Eq _ (lp_spec_MapOK_0 R L v0 v2 v3 ([1, 1, 0, 1, 0] ++ [0])) (cond (decide (v3 < (v0.length : Int)))
 (cond (nonneg v3)
 (cond (Nat.blt v3.toNat v0.length)
 ((c_spec_l01In R (v0.getD v3.toNat (0, (0, ()))).1 1 9999).bind fun r0 =>
 cond (!r0.1)
 (some (false, ()))
 (cond (nonneg v3)
 (cond (Nat.blt v3.toNat v0.length)
 ((c_spec_l01In R (v0.getD v3.toNat (0, (0, ()))).2.1 0 999999).bind fun r1 =>
 cond (!r1.1)
 (some (false, ()))
 (cond (decide (0 < v3))
 (cond (nonneg (IntKind.wrap .i64 (v3 - 1)))
 (cond (Nat.blt (IntKind.wrap .i64 (v3 - 1)).toNat v0.length)
 (cond (nonneg v3)
 (cond (Nat.blt v3.toNat v0.length)
 (cond (decide ((v0.getD v3.toNat (0, (0, ()))).1 ≤ (v0.getD (IntKind.wrap .i64 (v3 - 1)).toNat (0, (0, ()))).1))
 (some (false, ()))
 (lp_spec_MapOK_0 R L v0 v2 (IntKind.wrap .i64 (v3 + 1))))
 none)
 none)
 none)
 none)
 (lp_spec_MapOK_0 R L v0 v2 (IntKind.wrap .i64 (v3 + 1)))))
 none)
 none))
 none)
 none)
 (some (decide ((v0.length : Int) ≤ 11), ()))) := by kernel_rfl
theorem q_spec_OpOK (x0 : d29) : @Eq _ (c_spec_OpOK (bodyK EE R L) x0) ((c_spec_l01In R x0.1 1 6).bind fun r0 =>
 cond (!r0.1)
 (some (false, ()))
 ((c_spec_l01In R x0.2.1 1 9999).bind fun r1 =>
 cond (!r1.1)
 (some (false, ()))
 (cond (eqI x0.1 1)
 (some (eqI x0.2.2.1 0, ()))
 (cond (eqI x0.1 3)
 (some (eqI x0.2.2.1 0, ()))
 (cond (eqI x0.1 6)
 ((c_spec_l01In R x0.2.2.1 1 4).bind fun r2 =>
 some (r2.1, ()))
 ((c_spec_l01In R x0.2.2.1 0 999999).bind fun r2 =>
 some (r2.1, ()))))))) := by kernel_rfl
theorem q_spec_l09Txn (x0 : d30) : @Eq _ (c_spec_l09Txn (bodyK EE R L) x0) (lp_spec_l09Txn_0 R L x0 x0 false 0) := by kernel_rfl
theorem q_spec_l09Txn_0 (v0 v1 : d30) (v2 : Bool) (v3 : Int) : @Eq _ (lp_spec_l09Txn_0 R L v0 v1 v2 v3 ([1, 0, 1, 0] ++ [0])) (cond (decide (v3 < (v1.1.length : Int)))
 (cond (nonneg v3)
 (cond (Nat.blt v3.toNat v1.1.length)
 ((c_spec_OpOK R (v1.1.getD v3.toNat (0, (0, (0, ()))))).bind fun r0 =>
 cond (!r0.1)
 (some (false, ()))
 (lp_spec_l09Txn_0 R L v0 v1 v2 (IntKind.wrap .i64 (v3 + 1))))
 none)
 none)
 ((c_spec_l01In R (v1.1.length : Int) 1 4).bind fun r0 =>
 some (r0.1, ()))) := by kernel_rfl
theorem q_spec_l10Find (x0 : List d32) (x1 : Int) : @Eq _ (c_spec_l10Find (bodyK EE R L) x0 x1) (lp_spec_l10Find_0 R L x0 x1 0 0) := by kernel_rfl
theorem q_spec_l10Find_0 (v0 : List d32) (v1 v4 v5 : Int) : @Eq _ (lp_spec_l10Find_0 R L v0 v1 v4 v5 ([1, 0, 1, 0] ++ [0])) (cond (decide (v5 < (v0.length : Int)))
 (cond (nonneg v5)
 (cond (Nat.blt v5.toNat v0.length)
 (cond (eqI (v0.getD v5.toNat (0, (0, ()))).1 v1)
 (some (v5, ()))
 (lp_spec_l10Find_0 R L v0 v1 v4 (IntKind.wrap .i64 (v5 + 1))))
 none)
 none)
 (some (-1, ()))) := by kernel_rfl
theorem q_spec_l01Bit (x0 : Bool) : @Eq _ (c_spec_l01Bit (bodyK EE R L) x0) (cond x0
 (some (1, ()))
 (some (0, ()))) := by kernel_rfl
theorem q_spec_l10Put (x0 : List d32) (x1 x2 : Int) : @Eq _ (c_spec_l10Put (bodyK EE R L) x0 x1 x2) (lp_spec_l10Put_0 R L x0 x1 x2 [] 0) := by kernel_rfl
theorem q_spec_l10Put_0 (v0 : List d32) (v1 v2 : Int) (v6 : List d32) (v7 : Int) : @Eq _ (lp_spec_l10Put_0 R L v0 v1 v2 v6 v7 ([1, 1, 0, 0] ++ [0])) (cond (decide (v7 < (v0.length : Int)))
 (cond (nonneg v7)
 (cond (Nat.blt v7.toNat v0.length)
 (cond (decide ((v0.getD v7.toNat (0, (0, ()))).1 < v1))
 (lp_spec_l10Put_0 R L v0 v1 v2 v6 (IntKind.wrap .i64 (v7 + 1)))
 (cond (nonneg v7)
 (cond (Nat.ble v0.length v0.length)
 (cond (Nat.ble v7.toNat v0.length)
 (cond (decide (v7 < (v0.length : Int)))
 (cond (nonneg v7)
 (cond (Nat.blt v7.toNat v0.length)
 (cond (eqI (v0.getD v7.toNat (0, (0, ()))).1 v1)
 (cond (nonneg (IntKind.wrap .i64 (v7 + 1)))
 (cond (Nat.ble v0.length v0.length)
 (cond (Nat.ble (IntKind.wrap .i64 (v7 + 1)).toNat v0.length)
 (cond (nonneg v7)
 (cond (Nat.ble v7.toNat v0.length)
 (cond (lenOK (([] : List d32).length + (List.drop 0 (List.take v7.toNat v0)).length))
 (cond (lenOK ((([] : List d32) ++ (List.drop 0 (List.take v7.toNat v0))).length + ([(v1, (v2, ()))]).length))
 (cond (lenOK (((([] : List d32) ++ (List.drop 0 (List.take v7.toNat v0))) ++ [(v1, (v2, ()))]).length + (List.drop (IntKind.wrap .i64 (v7 + 1)).toNat (List.take v0.length v0)).length))
 (some ((([] ++ (List.drop 0 (List.take v7.toNat v0))) ++ [(v1, (v2, ()))]) ++ (List.drop (IntKind.wrap .i64 (v7 + 1)).toNat (List.take v0.length v0)), ()))
 none)
 none)
 none)
 none)
 none)
 none)
 none)
 none)
 (cond (nonneg v7)
 (cond (Nat.ble v7.toNat v0.length)
 (cond (lenOK (([] : List d32).length + (List.drop 0 (List.take v7.toNat v0)).length))
 (cond (lenOK ((([] : List d32) ++ (List.drop 0 (List.take v7.toNat v0))).length + ([(v1, (v2, ()))]).length))
 (cond (lenOK (((([] : List d32) ++ (List.drop 0 (List.take v7.toNat v0))) ++ [(v1, (v2, ()))]).length + (List.drop v7.toNat (List.take v0.length v0)).length))
 (some ((([] ++ (List.drop 0 (List.take v7.toNat v0))) ++ [(v1, (v2, ()))]) ++ (List.drop v7.toNat (List.take v0.length v0)), ()))
 none)
 none)
 none)
 none)
 none))
 none)
 none)
 (cond (nonneg v7)
 (cond (Nat.ble v7.toNat v0.length)
 (cond (lenOK (([] : List d32).length + (List.drop 0 (List.take v7.toNat v0)).length))
 (cond (lenOK ((([] : List d32) ++ (List.drop 0 (List.take v7.toNat v0))).length + ([(v1, (v2, ()))]).length))
 (cond (lenOK (((([] : List d32) ++ (List.drop 0 (List.take v7.toNat v0))) ++ [(v1, (v2, ()))]).length + (List.drop v7.toNat (List.take v0.length v0)).length))
 (some ((([] ++ (List.drop 0 (List.take v7.toNat v0))) ++ [(v1, (v2, ()))]) ++ (List.drop v7.toNat (List.take v0.length v0)), ()))
 none)
 none)
 none)
 none)
 none))
 none)
 none)
 none))
 none)
 none)
 (cond (nonneg v7)
 (cond (Nat.ble v0.length v0.length)
 (cond (Nat.ble v7.toNat v0.length)
 (cond (decide (v7 < (v0.length : Int)))
 (cond (nonneg v7)
 (cond (Nat.blt v7.toNat v0.length)
 (cond (eqI (v0.getD v7.toNat (0, (0, ()))).1 v1)
 (cond (nonneg (IntKind.wrap .i64 (v7 + 1)))
 (cond (Nat.ble v0.length v0.length)
 (cond (Nat.ble (IntKind.wrap .i64 (v7 + 1)).toNat v0.length)
 (cond (nonneg v7)
 (cond (Nat.ble v7.toNat v0.length)
 (cond (lenOK (([] : List d32).length + (List.drop 0 (List.take v7.toNat v0)).length))
 (cond (lenOK ((([] : List d32) ++ (List.drop 0 (List.take v7.toNat v0))).length + ([(v1, (v2, ()))]).length))
 (cond (lenOK (((([] : List d32) ++ (List.drop 0 (List.take v7.toNat v0))) ++ [(v1, (v2, ()))]).length + (List.drop (IntKind.wrap .i64 (v7 + 1)).toNat (List.take v0.length v0)).length))
 (some ((([] ++ (List.drop 0 (List.take v7.toNat v0))) ++ [(v1, (v2, ()))]) ++ (List.drop (IntKind.wrap .i64 (v7 + 1)).toNat (List.take v0.length v0)), ()))
 none)
 none)
 none)
 none)
 none)
 none)
 none)
 none)
 (cond (nonneg v7)
 (cond (Nat.ble v7.toNat v0.length)
 (cond (lenOK (([] : List d32).length + (List.drop 0 (List.take v7.toNat v0)).length))
 (cond (lenOK ((([] : List d32) ++ (List.drop 0 (List.take v7.toNat v0))).length + ([(v1, (v2, ()))]).length))
 (cond (lenOK (((([] : List d32) ++ (List.drop 0 (List.take v7.toNat v0))) ++ [(v1, (v2, ()))]).length + (List.drop v7.toNat (List.take v0.length v0)).length))
 (some ((([] ++ (List.drop 0 (List.take v7.toNat v0))) ++ [(v1, (v2, ()))]) ++ (List.drop v7.toNat (List.take v0.length v0)), ()))
 none)
 none)
 none)
 none)
 none))
 none)
 none)
 (cond (nonneg v7)
 (cond (Nat.ble v7.toNat v0.length)
 (cond (lenOK (([] : List d32).length + (List.drop 0 (List.take v7.toNat v0)).length))
 (cond (lenOK ((([] : List d32) ++ (List.drop 0 (List.take v7.toNat v0))).length + ([(v1, (v2, ()))]).length))
 (cond (lenOK (((([] : List d32) ++ (List.drop 0 (List.take v7.toNat v0))) ++ [(v1, (v2, ()))]).length + (List.drop v7.toNat (List.take v0.length v0)).length))
 (some ((([] ++ (List.drop 0 (List.take v7.toNat v0))) ++ [(v1, (v2, ()))]) ++ (List.drop v7.toNat (List.take v0.length v0)), ()))
 none)
 none)
 none)
 none)
 none))
 none)
 none)
 none)) := by kernel_rfl
theorem q_spec_l10Do (x0 : List d32) (x1 : d29) : @Eq _ (c_spec_l10Do (bodyK EE R L) x0 x1) ((c_spec_l10Find R x0 x1.2.1).bind fun r0 =>
 cond (decide (0 ≤ r0.1))
 (cond (nonneg r0.1)
 (cond (Nat.blt r0.1.toNat x0.length)
 (cond (eqI x1.1 1)
 ((c_spec_l01Bit R (decide (0 ≤ r0.1))).bind fun r1 =>
 some (x0, ([r1.1, (x0.getD r0.1.toNat (0, (0, ()))).2.1], (0, ()))))
 (cond (eqI x1.1 3)
 (cond (decide (0 ≤ r0.1))
 (cond (nonneg r0.1)
 (cond (Nat.ble r0.1.toNat x0.length)
 (cond (lenOK (([] : List d32).length + (List.drop 0 (List.take r0.1.toNat x0)).length))
 (cond (nonneg (IntKind.wrap .i64 (r0.1 + 1)))
 (cond (Nat.ble x0.length x0.length)
 (cond (Nat.ble (IntKind.wrap .i64 (r0.1 + 1)).toNat x0.length)
 (cond (lenOK ((([] : List d32) ++ (List.drop 0 (List.take r0.1.toNat x0))).length + (List.drop (IntKind.wrap .i64 (r0.1 + 1)).toNat (List.take x0.length x0)).length))
 ((c_spec_l01Bit R (decide (0 ≤ r0.1))).bind fun r1 =>
 some (([] ++ (List.drop 0 (List.take r0.1.toNat x0))) ++ (List.drop (IntKind.wrap .i64 (r0.1 + 1)).toNat (List.take x0.length x0)), ([r1.1], (0, ()))))
 none)
 none)
 none)
 none)
 none)
 none)
 none)
 ((c_spec_l01Bit R (decide (0 ≤ r0.1))).bind fun r1 =>
 some (x0, ([r1.1], (0, ())))))
 (cond (eqI x1.1 4)
 (cond (decide (r0.1 < 0))
 (some (x0, ([], (14, ()))))
 (cond (!(eqI (x0.getD r0.1.toNat (0, (0, ()))).2.1 x1.2.2.1))
 (some (x0, ([], (14, ()))))
 (some (x0, ([], (0, ()))))))
 (cond (eqI x1.1 6)
 (lp_spec_l10Do_0 R L x0 x1 x1 [] [] 0 r0.1 (x0.getD r0.1.toNat (0, (0, ()))).2.1 [] 0 x1.1)
 (cond (decide (r0.1 < 0))
 (cond (eqI (x0.length : Int) 11)
 (some (x0, ([], (7, ()))))
 (cond (eqI x1.1 2)
 ((c_spec_l10Put R x0 x1.2.1 x1.2.2.1).bind fun r1 =>
 some (r1.1, ([], (0, ()))))
 (cond (decide (999999 < (IntKind.wrap .i64 ((x0.getD r0.1.toNat (0, (0, ()))).2.1 + x1.2.2.1))))
 (some (x0, ([], (4, ()))))
 ((c_spec_l10Put R x0 x1.2.1 (IntKind.wrap .i64 ((x0.getD r0.1.toNat (0, (0, ()))).2.1 + x1.2.2.1))).bind fun r1 =>
 some (r1.1, ([IntKind.wrap .i64 ((x0.getD r0.1.toNat (0, (0, ()))).2.1 + x1.2.2.1)], (0, ())))))))
 (cond (eqI x1.1 2)
 ((c_spec_l10Put R x0 x1.2.1 x1.2.2.1).bind fun r1 =>
 some (r1.1, ([], (0, ()))))
 (cond (decide (999999 < (IntKind.wrap .i64 ((x0.getD r0.1.toNat (0, (0, ()))).2.1 + x1.2.2.1))))
 (some (x0, ([], (4, ()))))
 ((c_spec_l10Put R x0 x1.2.1 (IntKind.wrap .i64 ((x0.getD r0.1.toNat (0, (0, ()))).2.1 + x1.2.2.1))).bind fun r1 =>
 some (r1.1, ([IntKind.wrap .i64 ((x0.getD r0.1.toNat (0, (0, ()))).2.1 + x1.2.2.1)], (0, ())))))))))))
 none)
 none)
 (cond (eqI x1.1 1)
 ((c_spec_l01Bit R (decide (0 ≤ r0.1))).bind fun r1 =>
 some (x0, ([r1.1, 0], (0, ()))))
 (cond (eqI x1.1 3)
 (cond (decide (0 ≤ r0.1))
 (cond (nonneg r0.1)
 (cond (Nat.ble r0.1.toNat x0.length)
 (cond (lenOK (([] : List d32).length + (List.drop 0 (List.take r0.1.toNat x0)).length))
 (cond (nonneg (IntKind.wrap .i64 (r0.1 + 1)))
 (cond (Nat.ble x0.length x0.length)
 (cond (Nat.ble (IntKind.wrap .i64 (r0.1 + 1)).toNat x0.length)
 (cond (lenOK ((([] : List d32) ++ (List.drop 0 (List.take r0.1.toNat x0))).length + (List.drop (IntKind.wrap .i64 (r0.1 + 1)).toNat (List.take x0.length x0)).length))
 ((c_spec_l01Bit R (decide (0 ≤ r0.1))).bind fun r1 =>
 some (([] ++ (List.drop 0 (List.take r0.1.toNat x0))) ++ (List.drop (IntKind.wrap .i64 (r0.1 + 1)).toNat (List.take x0.length x0)), ([r1.1], (0, ()))))
 none)
 none)
 none)
 none)
 none)
 none)
 none)
 ((c_spec_l01Bit R (decide (0 ≤ r0.1))).bind fun r1 =>
 some (x0, ([r1.1], (0, ())))))
 (cond (eqI x1.1 4)
 (cond (decide (r0.1 < 0))
 (some (x0, ([], (14, ()))))
 (cond (!(eqI 0 x1.2.2.1))
 (some (x0, ([], (14, ()))))
 (some (x0, ([], (0, ()))))))
 (cond (eqI x1.1 6)
 (lp_spec_l10Do_0 R L x0 x1 x1 [] [] 0 r0.1 0 [] 0 x1.1)
 (cond (decide (r0.1 < 0))
 (cond (eqI (x0.length : Int) 11)
 (some (x0, ([], (7, ()))))
 (cond (eqI x1.1 2)
 ((c_spec_l10Put R x0 x1.2.1 x1.2.2.1).bind fun r1 =>
 some (r1.1, ([], (0, ()))))
 (cond (decide (999999 < (IntKind.wrap .i64 (0 + x1.2.2.1))))
 (some (x0, ([], (4, ()))))
 ((c_spec_l10Put R x0 x1.2.1 (IntKind.wrap .i64 (0 + x1.2.2.1))).bind fun r1 =>
 some (r1.1, ([IntKind.wrap .i64 (0 + x1.2.2.1)], (0, ())))))))
 (cond (eqI x1.1 2)
 ((c_spec_l10Put R x0 x1.2.1 x1.2.2.1).bind fun r1 =>
 some (r1.1, ([], (0, ()))))
 (cond (decide (999999 < (IntKind.wrap .i64 (0 + x1.2.2.1))))
 (some (x0, ([], (4, ()))))
 ((c_spec_l10Put R x0 x1.2.1 (IntKind.wrap .i64 (0 + x1.2.2.1))).bind fun r1 =>
 some (r1.1, ([IntKind.wrap .i64 (0 + x1.2.2.1)], (0, ())))))))))))) := by kernel_rfl
theorem q_spec_l10Do_0 (v0 : List d32) (v1 v3 : d29) (v4 : List d32) (v5 : List Int) (v6 v7 v8 : Int) (v9 : List Int) (v10 v23 : Int) : @Eq _ (lp_spec_l10Do_0 R L v0 v1 v3 v4 v5 v6 v7 v8 v9 v10 v23 ([1, 1, 1, 1, 0, 1, 0, 1, 1, 1, 1, 1, 1, 1, 0, 1, 0, 1, 0] ++ [0])) (cond (decide (v10 < (v0.length : Int)))
 (cond (decide ((v9.length : Int) < (IntKind.wrap .i64 (2 * v3.2.2.1))))
 (cond (nonneg v10)
 (cond (Nat.blt v10.toNat v0.length)
 (cond (decide (v3.2.1 ≤ (v0.getD v10.toNat (0, (0, ()))).1))
 (cond (nonneg v10)
 (cond (Nat.blt v10.toNat v0.length)
 (cond (nonneg v10)
 (cond (Nat.blt v10.toNat v0.length)
 (cond (lenOK (v9.length + ([(v0.getD v10.toNat (0, (0, ()))).1, (v0.getD v10.toNat (0, (0, ()))).2.1]).length))
 (lp_spec_l10Do_0 R L v0 v1 v3 v4 v5 v6 v7 v8 (v9 ++ [(v0.getD v10.toNat (0, (0, ()))).1, (v0.getD v10.toNat (0, (0, ()))).2.1]) (IntKind.wrap .i64 (v10 + 1)) v23)
 none)
 none)
 none)
 none)
 none)
 (lp_spec_l10Do_0 R L v0 v1 v3 v4 v5 v6 v7 v8 v9 (IntKind.wrap .i64 (v10 + 1)) v23))
 none)
 none)
 (lp_spec_l10Do_1 R L v0 v1 v3 v4 v5 v6 v7 v8 v9 v10 v23))
 (lp_spec_l10Do_1 R L v0 v1 v3 v4 v5 v6 v7 v8 v9 v10 v23)) := by kernel_rfl
theorem q_spec_l10Do_1 (v0 : List d32) (v1 v3 : d29) (v4 : List d32) (v5 : List Int) (v6 v7 v8 : Int) (v9 : List Int) (v10 v23 : Int) : @Eq _ (lp_spec_l10Do_1 R L v0 v1 v3 v4 v5 v6 v7 v8 v9 v10 v23 ([1, 1, 1, 1, 0, 1, 0, 1, 1, 1, 1, 1, 1, 1, 0, 1, 1, 0, 0] ++ [0])) (cond (decide ((v9.length : Int) < (IntKind.wrap .i64 (2 * v3.2.2.1))))
 (cond (lenOK (v9.length + ([(0 : Int)]).length))
 (lp_spec_l10Do_1 R L v0 v1 v3 v4 v5 v6 v7 v8 (v9 ++ [0]) v10 v23)
 none)
 (some (v0, (v9, (0, ()))))) := by kernel_rfl
theorem q_spec_l10Txn (x0 : List d32) (x1 : d30) : @Eq _ (c_spec_l10Txn (bodyK EE R L) x0 x1) (lp_spec_l10Txn_0 R L x0 x1 x1 [] (0, ([], ())) x0 (0, ([], ())) 0) := by kernel_rfl
theorem q_spec_l10Txn_0 (v0 : List d32) (v1 v3 : d30) (v4 : List d32) (v5 : d37) (v6 : List d32) (v7 : d37) (v8 : Int) : @Eq _ (lp_spec_l10Txn_0 R L v0 v1 v3 v4 v5 v6 v7 v8 ([1, 1, 1, 0, 1, 0] ++ [0])) (cond (decide (v8 < (v3.1.length : Int)))
 (cond (nonneg v8)
 (cond (Nat.blt v8.toNat v3.1.length)
 ((c_spec_l10Do R v6 (v3.1.getD v8.toNat (0, (0, (0, ()))))).bind fun r0 =>
 cond (!(eqI r0.2.2.1 0))
 (some (v0, ((r0.2.2.1, ([], ())), ())))
 (cond (lenOK (v7.2.1.length + r0.2.1.length))
 (lp_spec_l10Txn_1 R L v0 v1 v3 v4 v5 r0.1 (v7.1, (v7.2.1 ++ r0.2.1, v7.2.2)) (IntKind.wrap .i64 (v8 + 1)) r0.1 r0.2.1 r0.2.2.1)
 none))
 none)
 none)
 (some (v6, (v7, ())))) := by kernel_rfl
theorem q_spec_l10Txn_1 (v0 : List d32) (v1 v3 : d30) (v4 : List d32) (v5 : d37) (v6 : List d32) (v7 : d37) (v8 : Int) (v9 : List d32) (v10 : List Int) (v11 : Int) : @Eq _ (lp_spec_l10Txn_1 R L v0 v1 v3 v4 v5 v6 v7 v8 v9 v10 v11 ([1, 1, 1, 0, 1, 0] ++ [0])) (cond (decide (v8 < (v3.1.length : Int)))
 (cond (nonneg v8)
 (cond (Nat.blt v8.toNat v3.1.length)
 ((c_spec_l10Do R v6 (v3.1.getD v8.toNat (0, (0, (0, ()))))).bind fun r0 =>
 cond (!(eqI r0.2.2.1 0))
 (some (v0, ((r0.2.2.1, ([], ())), ())))
 (cond (lenOK (v7.2.1.length + r0.2.1.length))
 (lp_spec_l10Txn_1 R L v0 v1 v3 v4 v5 r0.1 (v7.1, (v7.2.1 ++ r0.2.1, v7.2.2)) (IntKind.wrap .i64 (v8 + 1)) r0.1 r0.2.1 r0.2.2.1)
 none))
 none)
 none)
 (some (v6, (v7, ())))) := by kernel_rfl
theorem q_spec_l10Batch (x0 : List d32) (x1 : List d30) : @Eq _ (c_spec_l10Batch (bodyK EE R L) x0 x1) (lp_spec_l10Batch_0 R L x0 x1 [] [] [] 0) := by kernel_rfl
theorem q_spec_l10Batch_0 (v0 : List d32) (v1 : List d30) (v4 : List d32) (v5 v6 : List d37) (v7 : Int) : @Eq _ (lp_spec_l10Batch_0 R L v0 v1 v4 v5 v6 v7 ([1, 1, 0, 1, 0] ++ [0])) (cond (decide (v7 < (v1.length : Int)))
 (cond (nonneg v7)
 (cond (Nat.blt v7.toNat v1.length)
 ((c_spec_l10Txn R v0 (v1.getD v7.toNat ([], ()))).bind fun r0 =>
 cond (lenOK (v6.length + ([r0.2.1]).length))
 (lp_spec_l10Batch_1 R L r0.1 v1 v4 v5 (v6 ++ [r0.2.1]) (IntKind.wrap .i64 (v7 + 1)) r0.1 r0.2.1)
 none)
 none)
 none)
 (some (v0, (v6, ())))) := by kernel_rfl
theorem q_spec_l10Batch_1 (v0 : List d32) (v1 : List d30) (v4 : List d32) (v5 v6 : List d37) (v7 : Int) (v8 : List d32) (v9 : d37) : @Eq _ (lp_spec_l10Batch_1 R L v0 v1 v4 v5 v6 v7 v8 v9 ([1, 1, 0, 1, 0] ++ [0])) (cond (decide (v7 < (v1.length : Int)))
 (cond (nonneg v7)
 (cond (Nat.blt v7.toNat v1.length)
 ((c_spec_l10Txn R v0 (v1.getD v7.toNat ([], ()))).bind fun r0 =>
 cond (lenOK (v6.length + ([r0.2.1]).length))
 (lp_spec_l10Batch_1 R L r0.1 v1 v4 v5 (v6 ++ [r0.2.1]) (IntKind.wrap .i64 (v7 + 1)) r0.1 r0.2.1)
 none)
 none)
 none)
 (some (v0, (v6, ())))) := by kernel_rfl
theorem q_impl_within (x0 x1 x2 : Int) : @Eq _ (c_impl_within (bodyK EE R L) x0 x1 x2) (cond (decide (x1 ≤ x0))
 (some (decide (x0 ≤ x2), ()))
 (some (false, ()))) := by kernel_rfl
theorem q_impl_isKey (x0 : Int) : @Eq _ (c_impl_isKey (bodyK EE R L) x0) ((c_impl_within R x0 1 9999).bind fun r0 =>
 some (r0.1, ())) := by kernel_rfl
theorem q_impl_isValue (x0 : Int) : @Eq _ (c_impl_isValue (bodyK EE R L) x0) ((c_impl_within R x0 0 999999).bind fun r0 =>
 some (r0.1, ())) := by kernel_rfl
theorem q_impl_MapOK (x0 : List d32) : @Eq _ (c_impl_MapOK (bodyK EE R L) x0) (lp_impl_MapOK_0 R L x0 false x0 (x0.length : Int) 0) := by kernel_rfl
theorem q_impl_MapOK_0 (v0 : List d32) (v2 : Bool) (v5 : List d32) (v6 v7 : Int) : @Eq _ (lp_impl_MapOK_0 R L v0 v2 v5 v6 v7 ([1, 0, 1, 0] ++ [0])) (cond (decide (v7 < v6))
 (cond (nonneg v7)
 (cond (Nat.blt v7.toNat v5.length)
 ((c_impl_isKey R (v5.getD v7.toNat (0, (0, ()))).1).bind fun r0 =>
 cond (!r0.1)
 (some (false, ()))
 ((c_impl_isValue R (v5.getD v7.toNat (0, (0, ()))).2.1).bind fun r1 =>
 cond (!r1.1)
 (some (false, ()))
 (cond (decide (0 < v7))
 (cond (nonneg (IntKind.wrap .i64 (v7 - 1)))
 (cond (Nat.blt (IntKind.wrap .i64 (v7 - 1)).toNat v0.length)
 (cond (decide ((v5.getD v7.toNat (0, (0, ()))).1 ≤ (v0.getD (IntKind.wrap .i64 (v7 - 1)).toNat (0, (0, ()))).1))
 (some (false, ()))
 (lp_impl_MapOK_1 R L v0 v2 v7 (v5.getD v7.toNat (0, (0, ()))) v5 v6 (IntKind.wrap .i64 (v7 + 1))))
 none)
 none)
 (lp_impl_MapOK_1 R L v0 v2 v7 (v5.getD v7.toNat (0, (0, ()))) v5 v6 (IntKind.wrap .i64 (v7 + 1))))))
 none)
 none)
 (some (decide ((v0.length : Int) ≤ 11), ()))) := by kernel_rfl
theorem q_impl_MapOK_1 (v0 : List d32) (v2 : Bool) (v3 : Int) (v4 : d32) (v5 : List d32) (v6 v7 : Int) : @Eq _ (lp_impl_MapOK_1 R L v0 v2 v3 v4 v5 v6 v7 ([1, 0, 1, 0] ++ [0])) (cond (decide (v7 < v6))
 (cond (nonneg v7)
 (cond (Nat.blt v7.toNat v5.length)
 ((c_impl_isKey R (v5.getD v7.toNat (0, (0, ()))).1).bind fun r0 =>
 cond (!r0.1)
 (some (false, ()))
 ((c_impl_isValue R (v5.getD v7.toNat (0, (0, ()))).2.1).bind fun r1 =>
 cond (!r1.1)
 (some (false, ()))
 (cond (decide (0 < v7))
 (cond (nonneg (IntKind.wrap .i64 (v7 - 1)))
 (cond (Nat.blt (IntKind.wrap .i64 (v7 - 1)).toNat v0.length)
 (cond (decide ((v5.getD v7.toNat (0, (0, ()))).1 ≤ (v0.getD (IntKind.wrap .i64 (v7 - 1)).toNat (0, (0, ()))).1))
 (some (false, ()))
 (lp_impl_MapOK_1 R L v0 v2 v7 (v5.getD v7.toNat (0, (0, ()))) v5 v6 (IntKind.wrap .i64 (v7 + 1))))
 none)
 none)
 (lp_impl_MapOK_1 R L v0 v2 v7 (v5.getD v7.toNat (0, (0, ()))) v5 v6 (IntKind.wrap .i64 (v7 + 1))))))
 none)
 none)
 (some (decide ((v0.length : Int) ≤ 11), ()))) := by kernel_rfl
theorem q_impl_areAll_impl_Op__1 (x0 : d29) (x1 : FnVal) : @Eq _ (c_impl_areAll_impl_Op__1 (bodyK EE R L) x0 x1) ((callVB EE R x1 [⟨t2, (x0 : d29)⟩]).bind fun (r0 : Bool) =>
 some (!r0, ())) := by kernel_rfl
theorem q_slices_IndexFunc___impl_Op_impl_Op_ (x0 : List d29) (x1 : FnVal) : @Eq _ (c_slices_IndexFunc___impl_Op_impl_Op_ (bodyK EE R L) x0 x1) (lp_slices_IndexFunc___impl_Op_impl_Op__0 R L x0 x1 0 (x0.length : Int) 0) := by kernel_rfl
theorem q_slices_IndexFunc___impl_Op_impl_Op__0 (v0 : List d29) (v1 : FnVal) (v4 v7 v8 : Int) : @Eq _ (lp_slices_IndexFunc___impl_Op_impl_Op__0 R L v0 v1 v4 v7 v8 ([1, 0, 1, 0] ++ [0])) (cond (decide (v8 < v7))
 (cond (nonneg v8)
 (cond (Nat.blt v8.toNat v0.length)
 ((callVB EE R v1 [⟨t2, (v0.getD v8.toNat (0, (0, (0, ()))) : d29)⟩]).bind fun (r0 : Bool) =>
 cond r0
 (some (v8, ()))
 (lp_slices_IndexFunc___impl_Op_impl_Op__1 R L v0 v1 v4 v8 v7 (IntKind.wrap .i64 (v8 + 1))))
 none)
 none)
 (some (-1, ()))) := by kernel_rfl
theorem q_slices_IndexFunc___impl_Op_impl_Op__1 (v0 : List d29) (v1 : FnVal) (v4 v5 v7 v8 : Int) : @Eq _ (lp_slices_IndexFunc___impl_Op_impl_Op__1 R L v0 v1 v4 v5 v7 v8 ([1, 0, 1, 0] ++ [0])) (cond (decide (v8 < v7))
 (cond (nonneg v8)
 (cond (Nat.blt v8.toNat v0.length)
 ((callVB EE R v1 [⟨t2, (v0.getD v8.toNat (0, (0, (0, ()))) : d29)⟩]).bind fun (r0 : Bool) =>
 cond r0
 (some (v8, ()))
 (lp_slices_IndexFunc___impl_Op_impl_Op__1 R L v0 v1 v4 v8 v7 (IntKind.wrap .i64 (v8 + 1))))
 none)
 none)
 (some (-1, ()))) := by kernel_rfl
theorem q_slices_ContainsFunc___impl_Op_impl_Op_ (x0 : List d29) (x1 : FnVal) : @Eq _ (c_slices_ContainsFunc___impl_Op_impl_Op_ (bodyK EE R L) x0 x1) ((c_slices_IndexFunc___impl_Op_impl_Op_ R x0 x1).bind fun r0 =>
 some (decide (0 ≤ r0.1), ())) := by kernel_rfl
theorem q_impl_areAll_impl_Op_ (x0 : List d29) (x1 : FnVal) : @Eq _ (c_impl_areAll_impl_Op_ (bodyK EE R L) x0 x1) ((c_slices_ContainsFunc___impl_Op_impl_Op_ R x0 (FnVal.mk (59 : Nat) (FCaps.fn x1 FCaps.nil))).bind fun r0 =>
 some (!r0.1, ())) := by kernel_rfl
theorem q_impl_isBare (x0 : Int) : @Eq _ (c_impl_isBare (bodyK EE R L) x0) (cond (eqI x0 1)
 (some (true, ()))
 (some (eqI x0 3, ()))) := by kernel_rfl
theorem q_impl_OpOK (x0 : d29) : @Eq _ (c_impl_OpOK (bodyK EE R L) x0) ((c_impl_within R x0.1 1 6).bind fun r0 =>
 cond (!r0.1)
 (some (false, ()))
 ((c_impl_isKey R x0.2.1).bind fun r1 =>
 cond (!r1.1)
 (some (false, ()))
 ((c_impl_isBare R x0.1).bind fun r2 =>
 cond r2.1
 (some (eqI x0.2.2.1 0, ()))
 (cond (eqI x0.1 6)
 ((c_impl_within R x0.2.2.1 1 4).bind fun r3 =>
 some (r3.1, ()))
 ((c_impl_isValue R x0.2.2.1).bind fun r3 =>
 some (r3.1, ())))))) := by kernel_rfl
theorem q_impl_isTxn (x0 : d30) : @Eq _ (c_impl_isTxn (bodyK EE R L) x0) ((c_impl_within R (x0.1.length : Int) 1 4).bind fun r0 =>
 cond r0.1
 ((c_impl_areAll_impl_Op_ R x0.1 (FnVal.mk (38 : Nat) FCaps.nil)).bind fun r1 =>
 some (r1.1, ()))
 (some (false, ()))) := by kernel_rfl
theorem q_slices_BinarySearchFunc___impl_Entry_impl_Entry_int_ (x0 : List d32) (x1 : Int) (x2 : FnVal) : @Eq _ (c_slices_BinarySearchFunc___impl_Entry_impl_Entry_int_ (bodyK EE R L) x0 x1 x2) (lp_slices_BinarySearchFunc___impl_Entry_impl_Entry_int__0 R L x0 x1 x2 0 false (x0.length : Int) 0 (x0.length : Int)) := by kernel_rfl
theorem q_slices_BinarySearchFunc___impl_Entry_impl_Entry_int__0 (v0 : List d32) (v1 : Int) (v2 : FnVal) (v6 : Int) (v7 : Bool) (v8 v9 v10 : Int) : @Eq _ (lp_slices_BinarySearchFunc___impl_Entry_impl_Entry_int__0 R L v0 v1 v2 v6 v7 v8 v9 v10 ([1, 1, 1, 0, 0] ++ [0])) (cond (decide (v9 < v10))
 (cond (nonneg (IntKind.wrap .i64 (Int.fdiv (IntKind.wrap .u64 (IntKind.wrap .i64 (v9 + v10))) (2 ^ (Min.min (1 : Int).toNat (IntKind.bits .u64))))))
 (cond (Nat.blt (IntKind.wrap .i64 (Int.fdiv (IntKind.wrap .u64 (IntKind.wrap .i64 (v9 + v10))) (2 ^ (Min.min (1 : Int).toNat (IntKind.bits .u64))))).toNat v0.length)
 ((callVI EE R v2 [⟨t5, (v0.getD (IntKind.wrap .i64 (Int.fdiv (IntKind.wrap .u64 (IntKind.wrap .i64 (v9 + v10))) (2 ^ (Min.min (1 : Int).toNat (IntKind.bits .u64))))).toNat (0, (0, ())) : d32)⟩, ⟨(.int .i64), (v1 : Int)⟩]).bind fun (r0 : Int) =>
 cond (decide (r0 < 0))
 (lp_slices_BinarySearchFunc___impl_Entry_impl_Entry_int__1 R L v0 v1 v2 v6 v7 v8 (IntKind.wrap .i64 ((IntKind.wrap .i64 (Int.fdiv (IntKind.wrap .u64 (IntKind.wrap .i64 (v9 + v10))) (2 ^ (Min.min (1 : Int).toNat (IntKind.bits .u64))))) + 1)) v10 (IntKind.wrap .i64 (Int.fdiv (IntKind.wrap .u64 (IntKind.wrap .i64 (v9 + v10))) (2 ^ (Min.min (1 : Int).toNat (IntKind.bits .u64))))))
 (lp_slices_BinarySearchFunc___impl_Entry_impl_Entry_int__1 R L v0 v1 v2 v6 v7 v8 v9 (IntKind.wrap .i64 (Int.fdiv (IntKind.wrap .u64 (IntKind.wrap .i64 (v9 + v10))) (2 ^ (Min.min (1 : Int).toNat (IntKind.bits .u64))))) (IntKind.wrap .i64 (Int.fdiv (IntKind.wrap .u64 (IntKind.wrap .i64 (v9 + v10))) (2 ^ (Min.min (1 : Int).toNat (IntKind.bits .u64)))))))
 none)
 none)
 (cond (decide (v9 < v8))
 (cond (nonneg v9)
 (cond (Nat.blt v9.toNat v0.length)
 ((callVI EE R v2 [⟨t5, (v0.getD v9.toNat (0, (0, ())) : d32)⟩, ⟨(.int .i64), (v1 : Int)⟩]).bind fun (r0 : Int) =>
 some (v9, (eqI r0 0, ())))
 none)
 none)
 (some (v9, (false, ()))))) := by kernel_rfl
theorem q_slices_BinarySearchFunc___impl_Entry_impl_Entry_int__1 (v0 : List d32) (v1 : Int) (v2 : FnVal) (v6 : Int) (v7 : Bool) (v8 v9 v10 v11 : Int) : @Eq _ (lp_slices_BinarySearchFunc___impl_Entry_impl_Entry_int__1 R L v0 v1 v2 v6 v7 v8 v9 v10 v11 ([1, 1, 1, 0, 0] ++ [0])) (cond (decide (v9 < v10))
 (cond (nonneg (IntKind.wrap .i64 (Int.fdiv (IntKind.wrap .u64 (IntKind.wrap .i64 (v9 + v10))) (2 ^ (Min.min (1 : Int).toNat (IntKind.bits .u64))))))
 (cond (Nat.blt (IntKind.wrap .i64 (Int.fdiv (IntKind.wrap .u64 (IntKind.wrap .i64 (v9 + v10))) (2 ^ (Min.min (1 : Int).toNat (IntKind.bits .u64))))).toNat v0.length)
 ((callVI EE R v2 [⟨t5, (v0.getD (IntKind.wrap .i64 (Int.fdiv (IntKind.wrap .u64 (IntKind.wrap .i64 (v9 + v10))) (2 ^ (Min.min (1 : Int).toNat (IntKind.bits .u64))))).toNat (0, (0, ())) : d32)⟩, ⟨(.int .i64), (v1 : Int)⟩]).bind fun (r0 : Int) =>
 cond (decide (r0 < 0))
 (lp_slices_BinarySearchFunc___impl_Entry_impl_Entry_int__1 R L v0 v1 v2 v6 v7 v8 (IntKind.wrap .i64 ((IntKind.wrap .i64 (Int.fdiv (IntKind.wrap .u64 (IntKind.wrap .i64 (v9 + v10))) (2 ^ (Min.min (1 : Int).toNat (IntKind.bits .u64))))) + 1)) v10 (IntKind.wrap .i64 (Int.fdiv (IntKind.wrap .u64 (IntKind.wrap .i64 (v9 + v10))) (2 ^ (Min.min (1 : Int).toNat (IntKind.bits .u64))))))
 (lp_slices_BinarySearchFunc___impl_Entry_impl_Entry_int__1 R L v0 v1 v2 v6 v7 v8 v9 (IntKind.wrap .i64 (Int.fdiv (IntKind.wrap .u64 (IntKind.wrap .i64 (v9 + v10))) (2 ^ (Min.min (1 : Int).toNat (IntKind.bits .u64))))) (IntKind.wrap .i64 (Int.fdiv (IntKind.wrap .u64 (IntKind.wrap .i64 (v9 + v10))) (2 ^ (Min.min (1 : Int).toNat (IntKind.bits .u64)))))))
 none)
 none)
 (cond (decide (v9 < v8))
 (cond (nonneg v9)
 (cond (Nat.blt v9.toNat v0.length)
 ((callVI EE R v2 [⟨t5, (v0.getD v9.toNat (0, (0, ())) : d32)⟩, ⟨(.int .i64), (v1 : Int)⟩]).bind fun (r0 : Int) =>
 some (v9, (eqI r0 0, ())))
 none)
 none)
 (some (v9, (false, ()))))) := by kernel_rfl
theorem q_impl_find_1 (x0 : d32) (x1 : Int) : @Eq _ (c_impl_find_1 (bodyK EE R L) x0 x1) (some (IntKind.wrap .i64 (x0.1 - x1), ())) := by kernel_rfl
theorem q_impl_find (x0 : List d32) (x1 : Int) : @Eq _ (c_impl_find (bodyK EE R L) x0 x1) ((c_slices_BinarySearchFunc___impl_Entry_impl_Entry_int_ R x0 x1 (FnVal.mk (79 : Nat) FCaps.nil)).bind fun r0 =>
 some (r0.1, (r0.2.1, ()))) := by kernel_rfl
theorem q_slices_Clone___impl_Entry_impl_Entry_ (x0 : List d32) : @Eq _ (c_slices_Clone___impl_Entry_impl_Entry_ (bodyK EE R L) x0) (cond (Nat.beq x0.length 0)
 (agree
 (some ([], ()))
 (cond (lenOK (([] : List d32).length + x0.length))
 (some ([] ++ x0, ()))
 none))
 (cond (lenOK (([] : List d32).length + x0.length))
 (some ([] ++ x0, ()))
 none)) := by kernel_rfl
theorem q_impl_scan (x0 : List d32) (x1 x2 : Int) : @Eq _ (c_impl_scan (bodyK EE R L) x0 x1 x2) ((c_impl_find R x0 x1).bind fun r0 =>
 lp_impl_scan_0 R L x0 x1 x2 [] r0.1 []) := by kernel_rfl
theorem q_impl_scan_0 (v0 : List d32) (v1 v2 : Int) (v6 : List Int) (v7 : Int) (v9 : List Int) : @Eq _ (lp_impl_scan_0 R L v0 v1 v2 v6 v7 v9 ([1, 1, 1, 0, 0] ++ [0])) (cond (decide (0 < v2))
 (cond (decide (v7 < (v0.length : Int)))
 (cond (nonneg v7)
 (cond (Nat.blt v7.toNat v0.length)
 (cond (nonneg v7)
 (cond (Nat.blt v7.toNat v0.length)
 (cond (lenOK (v9.length + ([(v0.getD v7.toNat (0, (0, ()))).1, (v0.getD v7.toNat (0, (0, ()))).2.1]).length))
 (lp_impl_scan_0 R L v0 v1 (IntKind.wrap .i64 (v2 - 1)) v6 (IntKind.wrap .i64 (v7 + 1)) (v9 ++ [(v0.getD v7.toNat (0, (0, ()))).1, (v0.getD v7.toNat (0, (0, ()))).2.1]))
 none)
 none)
 none)
 none)
 none)
 (cond (lenOK (v9.length + ([(0 : Int), 0]).length))
 (lp_impl_scan_0 R L v0 v1 (IntKind.wrap .i64 (v2 - 1)) v6 (IntKind.wrap .i64 (v7 + 1)) (v9 ++ [0, 0]))
 none))
 (some (v9, ()))) := by kernel_rfl
theorem q_impl_put (x0 : List d32) (x1 x2 : Int) : @Eq _ (c_impl_put (bodyK EE R L) x0 x1 x2) ((c_impl_find R x0 x1).bind fun r0 =>
 (c_slices_Clone___impl_Entry_impl_Entry_ R x0).bind fun r1 =>
 cond r0.2.1
 (cond (nonneg r0.1)
 (cond (Nat.blt r0.1.toNat r1.1.length)
 (some (r1.1.set r0.1.toNat ((r1.1.getD r0.1.toNat (0, (0, ()))).1, (x2, (r1.1.getD r0.1.toNat (0, (0, ()))).2.2)), (true, ())))
 none)
 none)
 (cond (eqI (x0.length : Int) 11)
 (some (x0, (false, ())))
 ((c_slices_Insert___impl_Entry_impl_Entry_ R r1.1 r0.1 [(x1, (x2, ()))]).bind fun r2 =>
 some (r2.1, (true, ()))))) := by kernel_rfl
theorem q_impl_do2 (x0 : List d32) (x1 : d29) (x2 : Int) : @Eq _ (c_impl_do2 (bodyK EE R L) x0 x1 x2) (cond (eqI x1.1 5)
 ((c_impl_put R x0 x1.2.1 (IntKind.wrap .i64 (x1.2.2.1 + x2))).bind fun r0 =>
 cond (!r0.2.1)
 (some (x0, ([], (7, ()))))
 ((c_impl_isValue R (IntKind.wrap .i64 (x1.2.2.1 + x2))).bind fun r1 =>
 cond (!r1.1)
 (some (x0, ([], (4, ()))))
 (some (r0.1, ([IntKind.wrap .i64 (x1.2.2.1 + x2)], (0, ()))))))
 ((c_impl_put R x0 x1.2.1 x1.2.2.1).bind fun r0 =>
 cond (!r0.2.1)
 (some (x0, ([], (7, ()))))
 ((c_impl_isValue R x1.2.2.1).bind fun r1 =>
 cond (!r1.1)
 (some (x0, ([], (4, ()))))
 (some (r0.1, ([], (0, ()))))))) := by kernel_rfl
theorem q_impl_do (x0 : List d32) (x1 : d29) : @Eq _ (c_impl_do (bodyK EE R L) x0 x1) ((c_impl_find R x0 x1.2.1).bind fun r0 =>
 cond r0.2.1
 (cond (nonneg r0.1)
 (cond (Nat.blt r0.1.toNat x0.length)
 (cond (eqI x1.1 1)
 (cond r0.2.1
 (some (x0, ([1, (x0.getD r0.1.toNat (0, (0, ()))).2.1], (0, ()))))
 (some (x0, ([0, 0], (0, ())))))
 (cond (eqI x1.1 3)
 (cond r0.2.1
 ((c_slices_Clone___impl_Entry_impl_Entry_ R x0).bind fun r1 =>
 (c_slices_Delete___impl_Entry_impl_Entry_ R r1.1 r0.1 (IntKind.wrap .i64 (r0.1 + 1))).bind fun r2 =>
 some (r2.1, ([1], (0, ()))))
 (some (x0, ([0], (0, ())))))
 (cond (eqI x1.1 4)
 (cond (!r0.2.1)
 (some (x0, ([], (14, ()))))
 (cond (!(eqI (x0.getD r0.1.toNat (0, (0, ()))).2.1 x1.2.2.1))
 (some (x0, ([], (14, ()))))
 (some (x0, ([], (0, ()))))))
 (cond (eqI x1.1 6)
 ((c_impl_scan R x0 x1.2.1 x1.2.2.1).bind fun r1 =>
 some (x0, (r1.1, (0, ()))))
 ((c_impl_do2 R x0 x1 (x0.getD r0.1.toNat (0, (0, ()))).2.1).bind fun r1 =>
 some (r1.1, (r1.2.1, (r1.2.2.1, ()))))))))
 none)
 none)
 (cond (eqI x1.1 1)
 (cond r0.2.1
 (some (x0, ([1, 0], (0, ()))))
 (some (x0, ([0, 0], (0, ())))))
 (cond (eqI x1.1 3)
 (cond r0.2.1
 ((c_slices_Clone___impl_Entry_impl_Entry_ R x0).bind fun r1 =>
 (c_slices_Delete___impl_Entry_impl_Entry_ R r1.1 r0.1 (IntKind.wrap .i64 (r0.1 + 1))).bind fun r2 =>
 some (r2.1, ([1], (0, ()))))
 (some (x0, ([0], (0, ())))))
 (cond (eqI x1.1 4)
 (cond (!r0.2.1)
 (some (x0, ([], (14, ()))))
 (cond (!(eqI 0 x1.2.2.1))
 (some (x0, ([], (14, ()))))
 (some (x0, ([], (0, ()))))))
 (cond (eqI x1.1 6)
 ((c_impl_scan R x0 x1.2.1 x1.2.2.1).bind fun r1 =>
 some (x0, (r1.1, (0, ()))))
 ((c_impl_do2 R x0 x1 0).bind fun r1 =>
 some (r1.1, (r1.2.1, (r1.2.2.1, ()))))))))) := by kernel_rfl
theorem q_impl_doTxn (x0 : List d32) (x1 : d30) : @Eq _ (c_impl_doTxn (bodyK EE R L) x0 x1) (lp_impl_doTxn_0 R L x0 x1 x1 [] (0, ([], ())) x0 (0, ([], ())) x1.1 (x1.1.length : Int) 0) := by kernel_rfl
theorem q_impl_doTxn_0 (v0 : List d32) (v1 v3 : d30) (v4 : List d32) (v5 : d37) (v6 : List d32) (v7 : d37) (v15 : List d29) (v16 v17 : Int) : @Eq _ (lp_impl_doTxn_0 R L v0 v1 v3 v4 v5 v6 v7 v15 v16 v17 ([1, 1, 1, 0, 1, 0] ++ [0])) (cond (decide (v17 < v16))
 (cond (nonneg v17)
 (cond (Nat.blt v17.toNat v15.length)
 ((c_impl_do R v6 (v15.getD v17.toNat (0, (0, (0, ()))))).bind fun r0 =>
 cond (!(eqI r0.2.2.1 0))
 (some (v0, ((r0.2.2.1, ([], ())), ())))
 (cond (lenOK (v7.2.1.length + r0.2.1.length))
 (lp_impl_doTxn_1 R L v0 v1 v3 v4 v5 r0.1 (v7.1, (v7.2.1 ++ r0.2.1, v7.2.2)) (v15.getD v17.toNat (0, (0, (0, ())))) r0.1 r0.2.1 r0.2.2.1 v15 v16 (IntKind.wrap .i64 (v17 + 1)))
 none))
 none)
 none)
 (some (v6, (v7, ())))) := by kernel_rfl
theorem q_impl_doTxn_1 (v0 : List d32) (v1 v3 : d30) (v4 : List d32) (v5 : d37) (v6 : List d32) (v7 : d37) (v9 : d29) (v10 : List d32) (v11 : List Int) (v12 : Int) (v15 : List d29) (v16 v17 : Int) : @Eq _ (lp_impl_doTxn_1 R L v0 v1 v3 v4 v5 v6 v7 v9 v10 v11 v12 v15 v16 v17 ([1, 1, 1, 0, 1, 0] ++ [0])) (cond (decide (v17 < v16))
 (cond (nonneg v17)
 (cond (Nat.blt v17.toNat v15.length)
 ((c_impl_do R v6 (v15.getD v17.toNat (0, (0, (0, ()))))).bind fun r0 =>
 cond (!(eqI r0.2.2.1 0))
 (some (v0, ((r0.2.2.1, ([], ())), ())))
 (cond (lenOK (v7.2.1.length + r0.2.1.length))
 (lp_impl_doTxn_1 R L v0 v1 v3 v4 v5 r0.1 (v7.1, (v7.2.1 ++ r0.2.1, v7.2.2)) (v15.getD v17.toNat (0, (0, (0, ())))) r0.1 r0.2.1 r0.2.2.1 v15 v16 (IntKind.wrap .i64 (v17 + 1)))
 none))
 none)
 none)
 (some (v6, (v7, ())))) := by kernel_rfl
theorem q_spec_l00Digits (x0 : Int) : @Eq _ (c_spec_l00Digits (bodyK EE R L) x0) (cond (eqI x0 (-9223372036854775808))
 (some ([45, 57, 50, 50, 51, 51, 55, 50, 48, 51, 54, 56, 53, 52, 55, 55, 53, 56, 48, 56], ()))
 (cond (decide (x0 < 0))
 ((c_spec_l00Digits R (negI .i64 x0)).bind fun r0 =>
 cond (lenOK (([(45 : UInt8)]).length + r0.1.length))
 (some ([45] ++ r0.1, ()))
 none)
 (cond (decide (x0 < 10))
 (some (List.map (fun (n : Int) => UInt8.ofNat n.toNat) [IntKind.wrap .u8 (IntKind.wrap .i64 (48 + x0))], ()))
 ((c_spec_l00Digits R (IntKind.wrap .i64 (Int.tdiv x0 10))).bind fun r0 =>
 cond (lenOK (r0.1.length + (List.map (fun (n : Int) => UInt8.ofNat n.toNat) [IntKind.wrap .u8 (IntKind.wrap .i64 (48 + (Int.tmod x0 10)))]).length))
 (some (r0.1 ++ (List.map (fun (n : Int) => UInt8.ofNat n.toNat) [IntKind.wrap .u8 (IntKind.wrap .i64 (48 + (Int.tmod x0 10)))]), ()))
 none)))) := by kernel_rfl
theorem q_impl_areAll_string__1 (x0 : List UInt8) (x1 : FnVal) : @Eq _ (c_impl_areAll_string__1 (bodyK EE R L) x0 x1) ((callVB EE R x1 [⟨.str, (x0 : List UInt8)⟩]).bind fun (r0 : Bool) =>
 some (!r0, ())) := by kernel_rfl
theorem q_slices_IndexFunc___string_string_ (x0 : List (List UInt8)) (x1 : FnVal) : @Eq _ (c_slices_IndexFunc___string_string_ (bodyK EE R L) x0 x1) (lp_slices_IndexFunc___string_string__0 R L x0 x1 0 (x0.length : Int) 0) := by kernel_rfl
theorem q_slices_IndexFunc___string_string__0 (v0 : List (List UInt8)) (v1 : FnVal) (v4 v7 v8 : Int) : @Eq _ (lp_slices_IndexFunc___string_string__0 R L v0 v1 v4 v7 v8 ([1, 0, 1, 0] ++ [0])) (cond (decide (v8 < v7))
 (cond (nonneg v8)
 (cond (Nat.blt v8.toNat v0.length)
 ((callVB EE R v1 [⟨.str, (v0.getD v8.toNat [] : List UInt8)⟩]).bind fun (r0 : Bool) =>
 cond r0
 (some (v8, ()))
 (lp_slices_IndexFunc___string_string__1 R L v0 v1 v4 v8 v7 (IntKind.wrap .i64 (v8 + 1))))
 none)
 none)
 (some (-1, ()))) := by kernel_rfl
theorem q_slices_IndexFunc___string_string__1 (v0 : List (List UInt8)) (v1 : FnVal) (v4 v5 v7 v8 : Int) : @Eq _ (lp_slices_IndexFunc___string_string__1 R L v0 v1 v4 v5 v7 v8 ([1, 0, 1, 0] ++ [0])) (cond (decide (v8 < v7))
 (cond (nonneg v8)
 (cond (Nat.blt v8.toNat v0.length)
 ((callVB EE R v1 [⟨.str, (v0.getD v8.toNat [] : List UInt8)⟩]).bind fun (r0 : Bool) =>
 cond r0
 (some (v8, ()))
 (lp_slices_IndexFunc___string_string__1 R L v0 v1 v4 v8 v7 (IntKind.wrap .i64 (v8 + 1))))
 none)
 none)
 (some (-1, ()))) := by kernel_rfl
theorem q_slices_ContainsFunc___string_string_ (x0 : List (List UInt8)) (x1 : FnVal) : @Eq _ (c_slices_ContainsFunc___string_string_ (bodyK EE R L) x0 x1) ((c_slices_IndexFunc___string_string_ R x0 x1).bind fun r0 =>
 some (decide (0 ≤ r0.1), ())) := by kernel_rfl
theorem q_impl_areAll_string_ (x0 : List (List UInt8)) (x1 : FnVal) : @Eq _ (c_impl_areAll_string_ (bodyK EE R L) x0 x1) ((c_slices_ContainsFunc___string_string_ R x0 (FnVal.mk (72 : Nat) (FCaps.fn x1 FCaps.nil))).bind fun r0 =>
 some (!r0.1, ())) := by kernel_rfl
theorem q_spec_l00Source (x0 : List Int) : @Eq _ (c_spec_l00Source (bodyK EE R L) x0) (some ((x0, (0, (Int.tmod (x0.length : Int) 1000, ()))), ())) := by kernel_rfl
theorem q_pspec_l00Src_byte (x0 : d28) : @Eq _ (c_pspec_l00Src_byte (bodyK EE R L) x0) (cond (decide ((IntKind.wrap .i64 (x0.2.1 + 1)) ≤ (x0.1.length : Int)))
 (cond (nonneg (IntKind.wrap .i64 ((IntKind.wrap .i64 (x0.2.1 + 1)) - 1)))
 (cond (Nat.blt (IntKind.wrap .i64 ((IntKind.wrap .i64 (x0.2.1 + 1)) - 1)).toNat x0.1.length)
 (cond (nonneg (IntKind.wrap .i64 ((IntKind.wrap .i64 (x0.2.1 + 1)) - 1)))
 (cond (Nat.blt (IntKind.wrap .i64 ((IntKind.wrap .i64 (x0.2.1 + 1)) - 1)).toNat x0.1.length)
 (some (IntKind.wrap .i64 (x0.1.getD (IntKind.wrap .i64 ((IntKind.wrap .i64 (x0.2.1 + 1)) - 1)).toNat 0), ((x0.1, (IntKind.wrap .i64 (x0.2.1 + 1), (Int.tmod (IntKind.wrap .i64 ((IntKind.wrap .i64 ((IntKind.wrap .i64 (x0.2.2.1 * 31)) + (IntKind.wrap .i64 (x0.1.getD (IntKind.wrap .i64 ((IntKind.wrap .i64 (x0.2.1 + 1)) - 1)).toNat 0)))) + 7)) 2147483648, x0.2.2.2))), ())))
 none)
 none)
 none)
 none)
 (cond (decide (3000 < (IntKind.wrap .i64 (x0.2.1 + 1))))
 (some (0, ((x0.1, (IntKind.wrap .i64 (x0.2.1 + 1), x0.2.2)), ())))
 (some (Int.tmod (IntKind.wrap .i64 (Int.tdiv (Int.tmod (IntKind.wrap .i64 ((IntKind.wrap .i64 (x0.2.2.1 * 1103515245)) + 12345)) 2147483648) 65536)) 256, ((x0.1, (IntKind.wrap .i64 (x0.2.1 + 1), (Int.tmod (IntKind.wrap .i64 ((IntKind.wrap .i64 (x0.2.2.1 * 1103515245)) + 12345)) 2147483648, x0.2.2.2))), ()))))) := by kernel_rfl
theorem q_pspec_l00Src_next (x0 : d28) (x1 : Int) : @Eq _ (c_pspec_l00Src_next (bodyK EE R L) x0 x1) (cond (decide (x1 ≤ 1))
 (some (0, (x0, ())))
 (cond (decide (x1 ≤ 256))
 ((c_pspec_l00Src_byte R x0).bind fun r0 =>
 cond (eqI x1 0)
 none
 (some (Int.tmod r0.1 x1, (r0.2.1, ()))))
 ((c_pspec_l00Src_byte R x0).bind fun r0 =>
 (c_pspec_l00Src_byte R r0.2.1).bind fun r1 =>
 (c_pspec_l00Src_byte R r1.2.1).bind fun r2 =>
 cond (eqI x1 0)
 none
 (some (Int.tmod (IntKind.wrap .i64 ((IntKind.wrap .i64 ((IntKind.wrap .i64 (r0.1 * 65536)) + (IntKind.wrap .i64 (r1.1 * 256)))) + r2.1)) x1, (r2.2.1, ())))))) := by kernel_rfl
theorem q_impl_areAll_int__1 (x0 : Int) (x1 : FnVal) : @Eq _ (c_impl_areAll_int__1 (bodyK EE R L) x0 x1) ((callVB EE R x1 [⟨(.int .i64), (x0 : Int)⟩]).bind fun (r0 : Bool) =>
 some (!r0, ())) := by kernel_rfl
theorem q_slices_IndexFunc___int_int_ (x0 : List Int) (x1 : FnVal) : @Eq _ (c_slices_IndexFunc___int_int_ (bodyK EE R L) x0 x1) (lp_slices_IndexFunc___int_int__0 R L x0 x1 0 (x0.length : Int) 0) := by kernel_rfl
theorem q_slices_IndexFunc___int_int__0 (v0 : List Int) (v1 : FnVal) (v4 v7 v8 : Int) : @Eq _ (lp_slices_IndexFunc___int_int__0 R L v0 v1 v4 v7 v8 ([1, 0, 1, 0] ++ [0])) (cond (decide (v8 < v7))
 (cond (nonneg v8)
 (cond (Nat.blt v8.toNat v0.length)
 ((callVB EE R v1 [⟨(.int .i64), (v0.getD v8.toNat 0 : Int)⟩]).bind fun (r0 : Bool) =>
 cond r0
 (some (v8, ()))
 (lp_slices_IndexFunc___int_int__1 R L v0 v1 v4 v8 v7 (IntKind.wrap .i64 (v8 + 1))))
 none)
 none)
 (some (-1, ()))) := by kernel_rfl
theorem q_slices_IndexFunc___int_int__1 (v0 : List Int) (v1 : FnVal) (v4 v5 v7 v8 : Int) : @Eq _ (lp_slices_IndexFunc___int_int__1 R L v0 v1 v4 v5 v7 v8 ([1, 0, 1, 0] ++ [0])) (cond (decide (v8 < v7))
 (cond (nonneg v8)
 (cond (Nat.blt v8.toNat v0.length)
 ((callVB EE R v1 [⟨(.int .i64), (v0.getD v8.toNat 0 : Int)⟩]).bind fun (r0 : Bool) =>
 cond r0
 (some (v8, ()))
 (lp_slices_IndexFunc___int_int__1 R L v0 v1 v4 v8 v7 (IntKind.wrap .i64 (v8 + 1))))
 none)
 none)
 (some (-1, ()))) := by kernel_rfl
theorem q_slices_ContainsFunc___int_int_ (x0 : List Int) (x1 : FnVal) : @Eq _ (c_slices_ContainsFunc___int_int_ (bodyK EE R L) x0 x1) ((c_slices_IndexFunc___int_int_ R x0 x1).bind fun r0 =>
 some (decide (0 ≤ r0.1), ())) := by kernel_rfl
theorem q_impl_areAll_int_ (x0 : List Int) (x1 : FnVal) : @Eq _ (c_impl_areAll_int_ (bodyK EE R L) x0 x1) ((c_slices_ContainsFunc___int_int_ R x0 (FnVal.mk (69 : Nat) (FCaps.fn x1 FCaps.nil))).bind fun r0 =>
 some (!r0.1, ())) := by kernel_rfl
theorem q_impl_areShort_1 (x0 : List UInt8) : @Eq _ (c_impl_areShort_1 (bodyK EE R L) x0) (some (decide ((x0.length : Int) ≤ 65536), ())) := by kernel_rfl
theorem q_impl_areShort (x0 : List (List UInt8)) : @Eq _ (c_impl_areShort (bodyK EE R L) x0) ((c_impl_areAll_string_ R x0 (FnVal.mk (50 : Nat) FCaps.nil)).bind fun r0 =>
 some (r0.1, ())) := by kernel_rfl
theorem q_impl_isCode (x0 : Int) : @Eq _ (c_impl_isCode (bodyK EE R L) x0) ((c_impl_within R x0 0 19).bind fun r0 =>
 some (r0.1, ())) := by kernel_rfl
theorem q_impl_isResult (x0 : d37) : @Eq _ (c_impl_isResult (bodyK EE R L) x0) ((c_impl_isCode R x0.1).bind fun r0 =>
 cond r0.1
 (cond (decide ((x0.2.1.length : Int) ≤ 32))
 ((c_impl_areAll_int_ R x0.2.1 (FnVal.mk (35 : Nat) FCaps.nil)).bind fun r1 =>
 cond r1.1
 (cond (eqI x0.1 0)
 (some (true, ()))
 (some (eqI (x0.2.1.length : Int) 0, ())))
 (some (false, ())))
 (some (false, ())))
 (some (false, ()))) := by kernel_rfl
theorem q_spec_l10ResultOK (x0 : d37) : @Eq _ (c_spec_l10ResultOK (bodyK EE R L) x0) ((c_spec_l01In R x0.1 0 19).bind fun r0 =>
 cond (!r0.1)
 (some (false, ()))
 (cond (decide (32 < (x0.2.1.length : Int)))
 (some (false, ()))
 (cond (!(eqI x0.1 0))
 (cond (decide (0 < (x0.2.1.length : Int)))
 (some (false, ()))
 (lp_spec_l10ResultOK_0 R L x0 x0 false 0))
 (lp_spec_l10ResultOK_0 R L x0 x0 false 0)))) := by kernel_rfl
theorem q_spec_l10ResultOK_0 (v0 v1 : d37) (v2 : Bool) (v3 : Int) : @Eq _ (lp_spec_l10ResultOK_0 R L v0 v1 v2 v3 ([1, 1, 0, 1, 0] ++ [0])) (cond (decide (v3 < (v1.2.1.length : Int)))
 (cond (nonneg v3)
 (cond (Nat.blt v3.toNat v1.2.1.length)
 ((c_spec_l01In R (v1.2.1.getD v3.toNat 0) 0 999999).bind fun r0 =>
 cond (!r0.1)
 (some (false, ()))
 (lp_spec_l10ResultOK_0 R L v0 v1 v2 (IntKind.wrap .i64 (v3 + 1))))
 none)
 none)
 (some (true, ()))) := by kernel_rfl
theorem q_spec_CodeWord (x0 : Int) : @Eq _ (c_spec_CodeWord (bodyK EE R L) x0) (cond (decide (x0 < 0))
 (some ([], ()))
 (cond (decide ((([[(111 : UInt8), 107], [98, 97, 100], [108, 111, 110, 103], [102, 111, 114, 109], [114, 97, 110, 103, 101], [110, 111, 110, 101], [109, 97, 110, 121], [102, 117, 108, 108], [115, 105, 122, 101], [116, 97, 103], [116, 97, 109, 112, 101, 114, 101, 100], [116, 111, 114, 110], [115, 116, 97, 115, 104], [116, 97, 112, 101], [99, 104, 101, 99, 107], [112, 101, 110, 100, 105, 110, 103], [100, 111, 119, 110], [117, 112], [115, 112, 101, 110, 116], [107, 101, 121]]).length : Int) ≤ x0))
 (some ([], ()))
 (cond (nonneg x0)
 (cond (Nat.blt x0.toNat ([[(111 : UInt8), 107], [98, 97, 100], [108, 111, 110, 103], [102, 111, 114, 109], [114, 97, 110, 103, 101], [110, 111, 110, 101], [109, 97, 110, 121], [102, 117, 108, 108], [115, 105, 122, 101], [116, 97, 103], [116, 97, 109, 112, 101, 114, 101, 100], [116, 111, 114, 110], [115, 116, 97, 115, 104], [116, 97, 112, 101], [99, 104, 101, 99, 107], [112, 101, 110, 100, 105, 110, 103], [100, 111, 119, 110], [117, 112], [115, 112, 101, 110, 116], [107, 101, 121]]).length)
 (some (([[(111 : UInt8), 107], [98, 97, 100], [108, 111, 110, 103], [102, 111, 114, 109], [114, 97, 110, 103, 101], [110, 111, 110, 101], [109, 97, 110, 121], [102, 117, 108, 108], [115, 105, 122, 101], [116, 97, 103], [116, 97, 109, 112, 101, 114, 101, 100], [116, 111, 114, 110], [115, 116, 97, 115, 104], [116, 97, 112, 101], [99, 104, 101, 99, 107], [112, 101, 110, 100, 105, 110, 103], [100, 111, 119, 110], [117, 112], [115, 112, 101, 110, 116], [107, 101, 121]]).getD x0.toNat [], ()))
 none)
 none))) := by kernel_rfl
theorem q_spec_l10Text (x0 : d37) : @Eq _ (c_spec_l10Text (bodyK EE R L) x0) ((c_spec_CodeWord R x0.1).bind fun r0 =>
 lp_spec_l10Text_0 R L x0 r0.1 0) := by kernel_rfl
theorem q_spec_l10Text_0 (v1 : d37) (v3 : List UInt8) (v4 : Int) : @Eq _ (lp_spec_l10Text_0 R L v1 v3 v4 ([1, 1, 0, 1, 0] ++ [0])) (cond (decide (v4 < (v1.2.1.length : Int)))
 (cond (nonneg v4)
 (cond (Nat.blt v4.toNat v1.2.1.length)
 ((c_spec_l00Digits R (v1.2.1.getD v4.toNat 0)).bind fun r0 =>
 cond (lenOK (([(32 : UInt8)]).length + r0.1.length))
 (cond (lenOK (v3.length + ([(32 : UInt8)] ++ r0.1).length))
 (lp_spec_l10Text_0 R L v1 (v3 ++ ([32] ++ r0.1)) (IntKind.wrap .i64 (v4 + 1)))
 none)
 none)
 none)
 none)
 (some (v3, ()))) := by kernel_rfl
end Go.Rf.S

end
section
namespace Go.Rf.S
open Go.Proofs
set_option maxRecDepth 100000
set_option linter.unusedVariables false
set_option linter.unusedSimpArgs false
def worH : List Dyn → Option (Ty.pair (.sl .str) .unit).D
 | [t] => (strOf t).bind fun t => cond (Nat.ble t.length 1048576) (some (wordsF t, ())) none
 | _ => none
def numH : List Dyn → Option (Ty.pair (.int .i64) (.pair .bool .unit)).D
 | [t] => (strOf t).bind fun t => (Go.Lib.atoi t).bind fun n => cond (Nat.ble t.length 18 && decide (0 ≤ n) && decide (Go.Lib.itoa n = t)) (some (n, (true, ()))) none
 | _ => none
instance laid : Laid := ⟨[]⟩
noncomputable def X : (f : FuncId) → Option (List Dyn → Option (EE.cfg f).rt.D)
 | 28 => some worH
 | 54 => some numH
 | 46 => some itoaH
 | 62 => some (delH (.pair (.int .i64) (.pair (.int .i64) .unit)))
 | 89 => some (insH (.pair (.int .i64) (.pair (.int .i64) .unit)))
 | _ => none
theorem run_x {f : FuncId} {h : List Dyn → Option (EE.cfg f).rt.D} (hX : X f = some h) (ds : List Dyn) : run X f ds = h ds := by
 rw [run_eq]; unfold nextR; rw [hX]
noncomputable abbrev R : Run EE := run X
noncomputable abbrev L : Loops := lps X
theorem call {f : FuncId} {ds : List Dyn} {r : Option (EE.cfg f).rt.D} (h : bodyK EE R L f ds = r) (hX : X f = none := by rfl) : R f ds = r := (run_fn X hX ds).trans h
theorem round {f : FuncId} {fn : Func} {p : List Nat} {σ : List SV} {r : Option (EE.cfg f).rt.D} (h : (okPath (codeOf fn) p && !unkOK (EE.cfg f).keep) = true) (q : from_ EE R L f fn (p ++ [0]) σ = r) : from_ EE R L f fn p σ = r := (from_loop h).trans q
abbrev T_Entry : Ty := (.pair (.int .i64) (.pair (.int .i64) .unit))
abbrev D_Entry : Type := (Int × (Int × Unit))
abbrev T_Op : Ty := (.pair (.int .i64) (.pair (.int .i64) (.pair (.int .i64) .unit)))
abbrev D_Op : Type := (Int × (Int × (Int × Unit)))
abbrev D_Txn : Type := (List ((Int × (Int × (Int × Unit)))) × Unit)
abbrev D_Result : Type := (Int × (List (Int) × Unit))
end Go.Rf.S

end
section
namespace Go.Rf.S
set_option maxRecDepth 100000
set_option linter.unusedVariables false
set_option linter.unusedSimpArgs false
def mt (_ : Nat) : List UInt8 := []
abbrev n_impl_areAll_impl_Op__1 : FuncId := 59
theorem cv_impl_areAll_impl_Op__1 (R : Run EE) (s0 : (Int × (Int × (Int × Unit)))) (a0 : FnVal) : callVB EE R (.mk 59 (.fn a0 .nil)) [⟨(.pair (.int .i64) (.pair (.int .i64) (.pair (.int .i64) .unit))), s0⟩] = (c_impl_areAll_impl_Op__1 R s0 a0).map (·.1) := by kernel_rfl
abbrev n_impl_OpOK : FuncId := 38
theorem cv_impl_OpOK (R : Run EE) (s0 : (Int × (Int × (Int × Unit))))  : callVB EE R (.mk 38 .nil) [⟨(.pair (.int .i64) (.pair (.int .i64) (.pair (.int .i64) .unit))), s0⟩] = (c_impl_OpOK R s0 ).map (·.1) := by kernel_rfl
abbrev n_impl_find_1 : FuncId := 79
theorem cv_impl_find_1 (R : Run EE) (s0 : (Int × (Int × Unit))) (s1 : Int)  : callVI EE R (.mk 79 .nil) [⟨(.pair (.int .i64) (.pair (.int .i64) .unit)), s0⟩, ⟨(.int .i64), s1⟩] = (c_impl_find_1 R s0 s1 ).map (·.1) := by kernel_rfl
abbrev n_impl_areAll_string__1 : FuncId := 72
theorem cv_impl_areAll_string__1 (R : Run EE) (s0 : List UInt8) (a0 : FnVal) : callVB EE R (.mk 72 (.fn a0 .nil)) [⟨.str, s0⟩] = (c_impl_areAll_string__1 R s0 a0).map (·.1) := by kernel_rfl
abbrev n_impl_areAll_int__1 : FuncId := 69
theorem cv_impl_areAll_int__1 (R : Run EE) (s0 : Int) (a0 : FnVal) : callVB EE R (.mk 69 (.fn a0 .nil)) [⟨(.int .i64), s0⟩] = (c_impl_areAll_int__1 R s0 a0).map (·.1) := by kernel_rfl
abbrev n_impl_areShort_1 : FuncId := 50
theorem cv_impl_areShort_1 (R : Run EE) (s0 : List UInt8)  : callVB EE R (.mk 50 .nil) [⟨.str, s0⟩] = (c_impl_areShort_1 R s0 ).map (·.1) := by kernel_rfl
abbrev n_impl_isValue : FuncId := 35
theorem cv_impl_isValue (R : Run EE) (s0 : Int)  : callVB EE R (.mk 35 .nil) [⟨(.int .i64), s0⟩] = (c_impl_isValue R s0 ).map (·.1) := by kernel_rfl
theorem idx_slices_IndexFunc___impl_Op_impl_Op_ (x : List ((Int × (Int × (Int × Unit))))) (w : FnVal) (p : (Int × (Int × (Int × Unit))) → Bool) (hl : x.length ≤ 4611686018427387904) (hp : ∀ s ∈ x, callVB EE R w [⟨(.pair (.int .i64) (.pair (.int .i64) (.pair (.int .i64) .unit))), s⟩] = some (p s)) : c_slices_IndexFunc___impl_Op_impl_Op_ R x w = some (idxF p x 0, ()) := by
 have hq : c_slices_IndexFunc___impl_Op_impl_Op_ R x w = _ := call (q_slices_IndexFunc___impl_Op_impl_Op_ R L x w)
 have hq0 : lp_slices_IndexFunc___impl_Op_impl_Op__0 R L x w 0 x.length 0 = _ := round (by kernel_rfl) (q_slices_IndexFunc___impl_Op_impl_Op__0 R L x w 0 x.length 0)
 have hq1 : lp_slices_IndexFunc___impl_Op_impl_Op__1 R L x w 0 0 x.length 0 = _ := round (by kernel_rfl) (q_slices_IndexFunc___impl_Op_impl_Op__1 R L x w 0 0 x.length 0)
 rw [hq, hq0.trans hq1.symm]
 refine gen_idx (fun a i => lp_slices_IndexFunc___impl_Op_impl_Op__1 R L x w 0 a x.length i) x ((0 : Int), ((0 : Int), ((0 : Int), ()))) p (fun a => ?_) (fun a i hlt => ?_) _ 0 0 rfl (Nat.zero_le _)
 ·have hq : lp_slices_IndexFunc___impl_Op_impl_Op__1 R L x w 0 a x.length (x.length : Nat) = _ := round (by kernel_rfl) (q_slices_IndexFunc___impl_Op_impl_Op__1 R L x w 0 a x.length (x.length : Nat))
  show lp_slices_IndexFunc___impl_Op_impl_Op__1 R L x w 0 a x.length (x.length : Nat) = _
  rw [hq, lt_f (Nat.le_refl _)]; rfl
 ·have hq : lp_slices_IndexFunc___impl_Op_impl_Op__1 R L x w 0 a x.length i = _ := round (by kernel_rfl) (q_slices_IndexFunc___impl_Op_impl_Op__1 R L x w 0 a x.length i)
  show lp_slices_IndexFunc___impl_Op_impl_Op__1 R L x w 0 a x.length i = _
  rw [hq, lt_t hlt, nn, tn, blt_t hlt, wrap_succ (by omega)]
  simp only [cond_true]
  rw [hp _ (getD_mem (d := ((0 : Int), ((0 : Int), ((0 : Int), ())))) hlt)]
  rfl
theorem idx_slices_IndexFunc___string_string_ (x : List (List UInt8)) (w : FnVal) (p : List UInt8 → Bool) (hl : x.length ≤ 4611686018427387904) (hp : ∀ s ∈ x, callVB EE R w [⟨.str, s⟩] = some (p s)) : c_slices_IndexFunc___string_string_ R x w = some (idxF p x 0, ()) := by
 have hq : c_slices_IndexFunc___string_string_ R x w = _ := call (q_slices_IndexFunc___string_string_ R L x w)
 have hq0 : lp_slices_IndexFunc___string_string__0 R L x w 0 x.length 0 = _ := round (by kernel_rfl) (q_slices_IndexFunc___string_string__0 R L x w 0 x.length 0)
 have hq1 : lp_slices_IndexFunc___string_string__1 R L x w 0 0 x.length 0 = _ := round (by kernel_rfl) (q_slices_IndexFunc___string_string__1 R L x w 0 0 x.length 0)
 rw [hq, hq0.trans hq1.symm]
 refine gen_idx (fun a i => lp_slices_IndexFunc___string_string__1 R L x w 0 a x.length i) x ([] : List UInt8) p (fun a => ?_) (fun a i hlt => ?_) _ 0 0 rfl (Nat.zero_le _)
 ·have hq : lp_slices_IndexFunc___string_string__1 R L x w 0 a x.length (x.length : Nat) = _ := round (by kernel_rfl) (q_slices_IndexFunc___string_string__1 R L x w 0 a x.length (x.length : Nat))
  show lp_slices_IndexFunc___string_string__1 R L x w 0 a x.length (x.length : Nat) = _
  rw [hq, lt_f (Nat.le_refl _)]; rfl
 ·have hq : lp_slices_IndexFunc___string_string__1 R L x w 0 a x.length i = _ := round (by kernel_rfl) (q_slices_IndexFunc___string_string__1 R L x w 0 a x.length i)
  show lp_slices_IndexFunc___string_string__1 R L x w 0 a x.length i = _
  rw [hq, lt_t hlt, nn, tn, blt_t hlt, wrap_succ (by omega)]
  simp only [cond_true]
  rw [hp _ (getD_mem (d := ([] : List UInt8)) hlt)]
  rfl
theorem idx_slices_IndexFunc___int_int_ (x : List (Int)) (w : FnVal) (p : Int → Bool) (hl : x.length ≤ 4611686018427387904) (hp : ∀ s ∈ x, callVB EE R w [⟨(.int .i64), s⟩] = some (p s)) : c_slices_IndexFunc___int_int_ R x w = some (idxF p x 0, ()) := by
 have hq : c_slices_IndexFunc___int_int_ R x w = _ := call (q_slices_IndexFunc___int_int_ R L x w)
 have hq0 : lp_slices_IndexFunc___int_int__0 R L x w 0 x.length 0 = _ := round (by kernel_rfl) (q_slices_IndexFunc___int_int__0 R L x w 0 x.length 0)
 have hq1 : lp_slices_IndexFunc___int_int__1 R L x w 0 0 x.length 0 = _ := round (by kernel_rfl) (q_slices_IndexFunc___int_int__1 R L x w 0 0 x.length 0)
 rw [hq, hq0.trans hq1.symm]
 refine gen_idx (fun a i => lp_slices_IndexFunc___int_int__1 R L x w 0 a x.length i) x (0 : Int) p (fun a => ?_) (fun a i hlt => ?_) _ 0 0 rfl (Nat.zero_le _)
 ·have hq : lp_slices_IndexFunc___int_int__1 R L x w 0 a x.length (x.length : Nat) = _ := round (by kernel_rfl) (q_slices_IndexFunc___int_int__1 R L x w 0 a x.length (x.length : Nat))
  show lp_slices_IndexFunc___int_int__1 R L x w 0 a x.length (x.length : Nat) = _
  rw [hq, lt_f (Nat.le_refl _)]; rfl
 ·have hq : lp_slices_IndexFunc___int_int__1 R L x w 0 a x.length i = _ := round (by kernel_rfl) (q_slices_IndexFunc___int_int__1 R L x w 0 a x.length i)
  show lp_slices_IndexFunc___int_int__1 R L x w 0 a x.length i = _
  rw [hq, lt_t hlt, nn, tn, blt_t hlt, wrap_succ (by omega)]
  simp only [cond_true]
  rw [hp _ (getD_mem (d := (0 : Int)) hlt)]
  rfl
theorem any_slices_ContainsFunc___impl_Op_impl_Op_ (x : List ((Int × (Int × (Int × Unit))))) (w : FnVal) (p : (Int × (Int × (Int × Unit))) → Bool) (hl : x.length ≤ 4611686018427387904) (hp : ∀ s ∈ x, callVB EE R w [⟨(.pair (.int .i64) (.pair (.int .i64) (.pair (.int .i64) .unit))), s⟩] = some (p s)) : c_slices_ContainsFunc___impl_Op_impl_Op_ R x w = some (x.any p, ()) := by
 have hq : c_slices_ContainsFunc___impl_Op_impl_Op_ R x w = _ := call (q_slices_ContainsFunc___impl_Op_impl_Op_ R L x w)
 rw [hq, idx_slices_IndexFunc___impl_Op_impl_Op_ x w p hl hp]
 simp only [Option.bind_some]
 rw [idxF_any]
theorem any_slices_ContainsFunc___string_string_ (x : List (List UInt8)) (w : FnVal) (p : List UInt8 → Bool) (hl : x.length ≤ 4611686018427387904) (hp : ∀ s ∈ x, callVB EE R w [⟨.str, s⟩] = some (p s)) : c_slices_ContainsFunc___string_string_ R x w = some (x.any p, ()) := by
 have hq : c_slices_ContainsFunc___string_string_ R x w = _ := call (q_slices_ContainsFunc___string_string_ R L x w)
 rw [hq, idx_slices_IndexFunc___string_string_ x w p hl hp]
 simp only [Option.bind_some]
 rw [idxF_any]
theorem any_slices_ContainsFunc___int_int_ (x : List (Int)) (w : FnVal) (p : Int → Bool) (hl : x.length ≤ 4611686018427387904) (hp : ∀ s ∈ x, callVB EE R w [⟨(.int .i64), s⟩] = some (p s)) : c_slices_ContainsFunc___int_int_ R x w = some (x.any p, ()) := by
 have hq : c_slices_ContainsFunc___int_int_ R x w = _ := call (q_slices_ContainsFunc___int_int_ R L x w)
 rw [hq, idx_slices_IndexFunc___int_int_ x w p hl hp]
 simp only [Option.bind_some]
 rw [idxF_any]
theorem all_impl_areAll_impl_Op_ (x : List ((Int × (Int × (Int × Unit))))) (v : FnVal) (p : (Int × (Int × (Int × Unit))) → Bool) (hl : x.length ≤ 4611686018427387904) (hp : ∀ s ∈ x, callVB EE R v [⟨(.pair (.int .i64) (.pair (.int .i64) (.pair (.int .i64) .unit))), s⟩] = some (p s)) : c_impl_areAll_impl_Op_ R x v = some (x.all p, ()) := by
 have hq : c_impl_areAll_impl_Op_ R x v = _ := call (q_impl_areAll_impl_Op_ R L x v)
 rw [hq, any_slices_ContainsFunc___impl_Op_impl_Op_ x (.mk 59 (.fn v .nil)) (fun s => !p s) hl (fun s hs => by
  have h1 : c_impl_areAll_impl_Op__1 R s v = _ := call (q_impl_areAll_impl_Op__1 R L s v)
  rw [cv_impl_areAll_impl_Op__1, h1, hp s hs]; rfl)]
 simp only [Option.bind_some]
 rw [all_any]
theorem all_impl_areAll_string_ (x : List (List UInt8)) (v : FnVal) (p : List UInt8 → Bool) (hl : x.length ≤ 4611686018427387904) (hp : ∀ s ∈ x, callVB EE R v [⟨.str, s⟩] = some (p s)) : c_impl_areAll_string_ R x v = some (x.all p, ()) := by
 have hq : c_impl_areAll_string_ R x v = _ := call (q_impl_areAll_string_ R L x v)
 rw [hq, any_slices_ContainsFunc___string_string_ x (.mk 72 (.fn v .nil)) (fun s => !p s) hl (fun s hs => by
  have h1 : c_impl_areAll_string__1 R s v = _ := call (q_impl_areAll_string__1 R L s v)
  rw [cv_impl_areAll_string__1, h1, hp s hs]; rfl)]
 simp only [Option.bind_some]
 rw [all_any]
theorem all_impl_areAll_int_ (x : List (Int)) (v : FnVal) (p : Int → Bool) (hl : x.length ≤ 4611686018427387904) (hp : ∀ s ∈ x, callVB EE R v [⟨(.int .i64), s⟩] = some (p s)) : c_impl_areAll_int_ R x v = some (x.all p, ()) := by
 have hq : c_impl_areAll_int_ R x v = _ := call (q_impl_areAll_int_ R L x v)
 rw [hq, any_slices_ContainsFunc___int_int_ x (.mk 69 (.fn v .nil)) (fun s => !p s) hl (fun s hs => by
  have h1 : c_impl_areAll_int__1 R s v = _ := call (q_impl_areAll_int__1 R L s v)
  rw [cv_impl_areAll_int__1, h1, hp s hs]; rfl)]
 simp only [Option.bind_some]
 rw [all_any]
end Go.Rf.S

end
section
namespace Go.Rf.S
set_option maxRecDepth 100000
set_option linter.unusedVariables false
set_option linter.unusedSimpArgs false
def inB (n a b : Int) : Bool := decide (a ≤ n) && decide (n ≤ b)
theorem inB_bounds {n a b : Int} (h : inB n a b = true) : a ≤ n ∧ n ≤ b := by
 unfold inB at h
 simpa using h
theorem p_spec_l01In (n a b : Int) : c_spec_l01In R n a b = some (inB n a b, ()) := by
 have hq : c_spec_l01In R n a b = _ := call (q_spec_l01In R L n a b)
 rw [hq]
 unfold inB
 cases decide (a ≤ n) <;> rfl
theorem p_impl_within (n a b : Int) : c_impl_within R n a b = some (inB n a b, ()) := by
 have hq : c_impl_within R n a b = _ := call (q_impl_within R L n a b)
 rw [hq]
 unfold inB
 cases decide (a ≤ n) <;> rfl
theorem p_impl_isKey (n : Int) : c_impl_isKey R n = some (inB n 1 9999, ()) := by
 have hq : c_impl_isKey R n = _ := call (q_impl_isKey R L n)
 rw [hq, p_impl_within]; rfl
theorem p_impl_isValue (n : Int) : c_impl_isValue R n = some (inB n 0 999999, ()) := by
 have hq : c_impl_isValue R n = _ := call (q_impl_isValue R L n)
 rw [hq, p_impl_within]; rfl
theorem gtN (n m : Nat) : decide ((m : Int) < (n : Int)) = !decide (n ≤ m) := by
 by_cases h : n ≤ m
 ·rw [decide_eq_false (by omega), decide_eq_true h]; rfl
 ·rw [decide_eq_true (by omega), decide_eq_false h]; rfl
theorem leN (n m : Nat) : decide ((n : Int) ≤ (m : Int)) = decide (n ≤ m) := decide_eq_decide.2 (by omega)
def ltO : Option Int → Int → Bool
 | none, _ => true
 | some p, k => decide (p < k)
def mapF : Option Int → List D_Entry → Bool
 | _, [] => true
 | p, e :: es => inB e.1 1 9999 && (inB e.2.1 0 999999 && (ltO p e.1 && mapF (some e.1) es))
def prevOf (v : List D_Entry) : Nat → Option Int
 | 0 => none
 | j + 1 => some (v.getD j (0, (0, ()))).1
def mapOK (m : List D_Entry) : Bool := mapF none m && decide (m.length ≤ 11)
theorem lt_not_le (p k : Int) : decide (p < k) = !decide (k ≤ p) := by
 by_cases h : k ≤ p
 ·rw [decide_eq_true h, decide_eq_false (by omega)]; rfl
 ·rw [decide_eq_false h, decide_eq_true (by omega)]; rfl
theorem wrap_pred {i : Nat} (h : i + 1 < 9223372036854775807) : IntKind.wrap .i64 (((i + 1 : Nat) : Int) - 1) = (i : Int) := by
 rw [wrap_id (by omega) (by omega)]; omega
theorem map_spec : ∀ (n : Nat) (v : List D_Entry) (b : Bool) (i : Nat), v.length - i = n → i ≤ v.length → v.length ≤ 4611686018427387904 → lp_spec_MapOK_0 R L v b i = some (mapF (prevOf v i) (v.drop i) && decide (v.length ≤ 11), ())
 | 0, v, b, i, hn, hi, hl => by
  have hq : lp_spec_MapOK_0 R L v b i = _ := round (by kernel_rfl) (q_spec_MapOK_0 R L v b i)
  rw [hq, lt_f (by omega), List.drop_eq_nil_of_le (by omega), show (11 : Int) = ((11 : Nat) : Int) from rfl, leN]; rfl
 | n + 1, v, b, i, hn, hi, hl => by
  have hlt : i < v.length := by omega
  have hq : lp_spec_MapOK_0 R L v b i = _ := round (by kernel_rfl) (q_spec_MapOK_0 R L v b i)
  rw [hq, lt_t hlt, nn, tn, blt_t hlt, p_spec_l01In, p_spec_l01In, wrap_succ (by omega), map_spec n v b (i + 1) (by omega) (by omega) hl, drop_getD (d := (0, (0, ()))) hlt]
  simp only [cond_true, Option.bind_some, mapF]
  cases i with
  | zero =>
   rw [show decide ((0 : Int) < ((0 : Nat) : Int)) = false from rfl]
   show _ = some ((inB _ _ _ && (inB _ _ _ && (true && mapF (prevOf v 1) _))) && _, ())
   generalize mapF (prevOf v 1) (v.drop 1) = z
   cases inB (v.getD 0 (0, (0, ()))).1 1 9999 <;> cases inB (v.getD 0 (0, (0, ()))).2.1 0 999999 <;> rfl
  | succ j =>
   rw [show decide ((0 : Int) < ((j + 1 : Nat) : Int)) = true from decide_eq_true (by omega), wrap_pred (by omega), nn, tn, blt_t (by omega)]
   show _ = some ((inB _ _ _ && (inB _ _ _ && (decide ((v.getD j (0, (0, ()))).1 < (v.getD (j + 1) (0, (0, ()))).1) && mapF (prevOf v (j + 1 + 1)) _))) && _, ())
   rw [lt_not_le]
   simp only [cond_true]
   generalize mapF (prevOf v (j + 1 + 1)) (v.drop (j + 1 + 1)) = z
   cases inB (v.getD (j + 1) (0, (0, ()))).1 1 9999 <;> cases inB (v.getD (j + 1) (0, (0, ()))).2.1 0 999999 <;> cases decide ((v.getD (j + 1) (0, (0, ()))).1 ≤ (v.getD j (0, (0, ()))).1) <;> rfl
theorem p_spec_MapOK (m : List D_Entry) : c_spec_MapOK R m = some (mapOK m, ()) := by
 have hq : c_spec_MapOK R m = _ := call (q_spec_MapOK R L m)
 rw [hq]
 by_cases h : m.length ≤ 4096
 ·rw [show decide ((4096 : Int) < (m.length : Int)) = false from decide_eq_false (by omega)]
  exact map_spec _ m false 0 rfl (by omega) (by omega)
 ·rw [show decide ((4096 : Int) < (m.length : Int)) = true from decide_eq_true (by omega)]
  unfold mapOK
  rw [show decide (m.length ≤ 11) = false from decide_eq_false (by omega), Bool.and_false]; rfl
theorem map_impl : ∀ (n : Nat) (v : List D_Entry) (b : Bool) (v3 : Int) (v4 : D_Entry) (i : Nat), v.length - i = n → i ≤ v.length → v.length ≤ 4611686018427387904 → lp_impl_MapOK_1 R L v b v3 v4 v v.length i = some (mapF (prevOf v i) (v.drop i) && decide (v.length ≤ 11), ())
 | 0, v, b, v3, v4, i, hn, hi, hl => by
  have hq : lp_impl_MapOK_1 R L v b v3 v4 v v.length i = _ := round (by kernel_rfl) (q_impl_MapOK_1 R L v b v3 v4 v v.length i)
  rw [hq, lt_f (by omega), List.drop_eq_nil_of_le (by omega), show (11 : Int) = ((11 : Nat) : Int) from rfl, leN]; rfl
 | n + 1, v, b, v3, v4, i, hn, hi, hl => by
  have hlt : i < v.length := by omega
  have hq : lp_impl_MapOK_1 R L v b v3 v4 v v.length i = _ := round (by kernel_rfl) (q_impl_MapOK_1 R L v b v3 v4 v v.length i)
  rw [hq, lt_t hlt, nn, tn, blt_t hlt, p_impl_isKey, p_impl_isValue, wrap_succ (by omega), map_impl n v b _ _ (i + 1) (by omega) (by omega) hl, drop_getD (d := (0, (0, ()))) hlt]
  simp only [cond_true, Option.bind_some, mapF]
  cases i with
  | zero =>
   rw [show decide ((0 : Int) < ((0 : Nat) : Int)) = false from rfl]
   show _ = some ((inB _ _ _ && (inB _ _ _ && (true && mapF (prevOf v 1) _))) && _, ())
   generalize mapF (prevOf v 1) (v.drop 1) = z
   cases inB (v.getD 0 (0, (0, ()))).1 1 9999 <;> cases inB (v.getD 0 (0, (0, ()))).2.1 0 999999 <;> rfl
  | succ j =>
   rw [show decide ((0 : Int) < ((j + 1 : Nat) : Int)) = true from decide_eq_true (by omega), wrap_pred (by omega), nn, tn, blt_t (by omega)]
   show _ = some ((inB _ _ _ && (inB _ _ _ && (decide ((v.getD j (0, (0, ()))).1 < (v.getD (j + 1) (0, (0, ()))).1) && mapF (prevOf v (j + 1 + 1)) _))) && _, ())
   rw [lt_not_le]
   simp only [cond_true]
   generalize mapF (prevOf v (j + 1 + 1)) (v.drop (j + 1 + 1)) = z
   cases inB (v.getD (j + 1) (0, (0, ()))).1 1 9999 <;> cases inB (v.getD (j + 1) (0, (0, ()))).2.1 0 999999 <;> cases decide ((v.getD (j + 1) (0, (0, ()))).1 ≤ (v.getD j (0, (0, ()))).1) <;> rfl
theorem p_impl_MapOK (m : List D_Entry) (hl : m.length ≤ 4611686018427387904) : c_impl_MapOK R m = some (mapOK m, ()) := by
 have hq : c_impl_MapOK R m = _ := call (q_impl_MapOK R L m)
 have hq0 : lp_impl_MapOK_0 R L m false m m.length 0 = _ := round (by kernel_rfl) (q_impl_MapOK_0 R L m false m m.length 0)
 have hq1 : lp_impl_MapOK_1 R L m false 0 (0, (0, ())) m m.length 0 = _ := round (by kernel_rfl) (q_impl_MapOK_1 R L m false 0 (0, (0, ())) m m.length 0)
 rw [hq, hq0.trans hq1.symm]
 exact map_impl _ m false 0 _ 0 rfl (by omega) hl
theorem gen_all {α : Type} (F : Int → Option (Bool × Unit)) (v : List α) (d : α) (p : α → Bool) (z : Bool)
  (stop : F (v.length : Nat) = some (z, ()))
  (step : ∀ (i : Nat), i < v.length → F i = cond (p (v.getD i d)) (F ((i + 1 : Nat) : Int)) (some (false, ()))) :
  ∀ (n i : Nat), v.length - i = n → i ≤ v.length → F i = some ((v.drop i).all p && z, ())
 | 0, i, hn, hi => by
  have : i = v.length := by omega
  subst this
  rw [stop, List.drop_eq_nil_of_le (Nat.le_refl _)]; rfl
 | n + 1, i, hn, hi => by
  rw [step i (by omega), drop_getD (d := d) (by omega), List.all_cons, gen_all F v d p z stop step n (i + 1) (by omega) (by omega)]
  cases p (v.getD i d) <;> rfl
theorem eqI0 (n : Nat) : eqI (n : Int) 0 = decide (n = 0) := by
 rw [eqI_iff]; exact decide_eq_decide.2 (by omega)
theorem gtO (n : Nat) : decide ((0 : Int) < (n : Int)) = !decide (n = 0) := by
 by_cases h : n = 0
 ·rw [decide_eq_true h, decide_eq_false (by omega)]; rfl
 ·rw [decide_eq_false h, decide_eq_true (by omega)]; rfl
def opOK (o : D_Op) : Bool := inB o.1 1 6 && (inB o.2.1 1 9999 && cond (decide (o.1 = 1) || decide (o.1 = 3)) (decide (o.2.2.1 = 0)) (cond (decide (o.1 = 6)) (inB o.2.2.1 1 4) (inB o.2.2.1 0 999999)))
def txnOK (t : D_Txn) : Bool := inB (t.1.length : Int) 1 4 && t.1.all opOK
def batchOK (l : List D_Txn) : Bool := inB (l.length : Int) 1 2 && l.all txnOK
theorem p_spec_OpOK (o : D_Op) : c_spec_OpOK R o = some (opOK o, ()) := by
 have hq : c_spec_OpOK R o = _ := call (q_spec_OpOK R L o)
 rw [hq, p_spec_l01In, p_spec_l01In]
 simp only [Option.bind_some, p_spec_l01In, eqI_iff]
 unfold opOK
 cases inB o.1 1 6 <;> cases inB o.2.1 1 9999 <;> cases decide (o.1 = 1) <;> cases decide (o.1 = 3) <;> cases decide (o.1 = 6) <;> rfl
theorem p_impl_isBare (k : Int) : c_impl_isBare R k = some (decide (k = 1) || decide (k = 3), ()) := by
 have hq : c_impl_isBare R k = _ := call (q_impl_isBare R L k)
 rw [hq, eqI_iff, eqI_iff]
 cases decide (k = 1) <;> rfl
theorem p_impl_OpOK (o : D_Op) : c_impl_OpOK R o = some (opOK o, ()) := by
 have hq : c_impl_OpOK R o = _ := call (q_impl_OpOK R L o)
 rw [hq, p_impl_within, p_impl_isKey]
 simp only [Option.bind_some, p_impl_within, p_impl_isBare, p_impl_isValue, eqI_iff]
 unfold opOK
 cases inB o.1 1 6 <;> cases inB o.2.1 1 9999 <;> cases decide (o.1 = 1) <;> cases decide (o.1 = 3) <;> cases decide (o.1 = 6) <;> rfl
theorem p_spec_l09Txn (t : D_Txn) (hl : t.1.length ≤ 4611686018427387904) : c_spec_l09Txn R t = some (txnOK t, ()) := by
 have hq : c_spec_l09Txn R t = _ := call (q_spec_l09Txn R L t)
 rw [hq]
 have h := gen_all (fun i => lp_spec_l09Txn_0 R L t t false i) t.1 (0, (0, (0, ()))) opOK (inB (t.1.length : Int) 1 4) (by
  have hq : lp_spec_l09Txn_0 R L t t false (t.1.length : Nat) = _ := round (by kernel_rfl) (q_spec_l09Txn_0 R L t t false (t.1.length : Nat))
  show lp_spec_l09Txn_0 R L t t false (t.1.length : Nat) = _
  rw [hq, lt_f (Nat.le_refl _), p_spec_l01In]; rfl) (fun i hlt => by
  have hq : lp_spec_l09Txn_0 R L t t false i = _ := round (by kernel_rfl) (q_spec_l09Txn_0 R L t t false i)
  show lp_spec_l09Txn_0 R L t t false i = _
  rw [hq, lt_t hlt, nn, tn, blt_t hlt, p_spec_OpOK, wrap_succ (by omega)]
  simp only [cond_true, Option.bind_some]
  cases opOK (t.1.getD i (0, (0, (0, ())))) <;> rfl) _ 0 rfl (by omega)
 unfold txnOK
 rw [Bool.and_comm]
 exact h
theorem p_impl_isTxn (t : D_Txn) (hl : t.1.length ≤ 4611686018427387904) : c_impl_isTxn R t = some (txnOK t, ()) := by
 have hq : c_impl_isTxn R t = _ := call (q_impl_isTxn R L t)
 rw [hq, p_impl_within, all_impl_areAll_impl_Op_ t.1 _ opOK hl (fun s _ => by rw [cv_impl_OpOK, p_impl_OpOK]; rfl)]
 unfold txnOK
 simp only [Option.bind_some]
 cases inB (t.1.length : Int) 1 4 <;> rfl
end Go.Rf.S

end
section
namespace Go.Rf.S
set_option maxRecDepth 100000
set_option linter.unusedVariables false
set_option linter.unusedSimpArgs false
abbrev E0 : D_Entry := (0, (0, ()))
def lo (key : Int) : List D_Entry → Nat
 | [] => 0
 | e :: es => if e.1 < key then lo key es + 1 else 0
def fnd (key : Int) (m : List D_Entry) : Bool := decide (lo key m < m.length) && decide ((m.getD (lo key m) E0).1 = key)
structure MI (m : List D_Entry) : Prop where
 srt : m.Pairwise fun a b => a.1 < b.1
 keys : ∀ e ∈ m, 1 ≤ e.1 ∧ e.1 ≤ 9999
 vals : ∀ e ∈ m, 0 ≤ e.2.1 ∧ e.2.1 ≤ 999999
 len : m.length ≤ 11
theorem mapF_inv : ∀ {m : List D_Entry} {p : Option Int}, mapF p m = true → (∀ e ∈ m, ltO p e.1 = true ∧ (1 ≤ e.1 ∧ e.1 ≤ 9999) ∧ (0 ≤ e.2.1 ∧ e.2.1 ≤ 999999)) ∧ m.Pairwise fun a b => a.1 < b.1
 | [], _, _ => ⟨by simp, .nil⟩
 | e :: es, p, h => by
  simp only [mapF, Bool.and_eq_true] at h
  obtain ⟨h1, h2, h3, h4⟩ := h
  obtain ⟨q1, q2⟩ := mapF_inv h4
  refine ⟨fun x hx => ?_, .cons (fun x hx => ?_) q2⟩
  ·rcases List.mem_cons.1 hx with rfl | hx
   ·exact ⟨h3, inB_bounds h1, inB_bounds h2⟩
   ·obtain ⟨k1, k2, k3⟩ := q1 x hx
    refine ⟨?_, k2, k3⟩
    have k1 : e.1 < x.1 := by simpa [ltO] using k1
    cases p with
    | none => rfl
    | some p =>
     have h3 : p < e.1 := by simpa [ltO] using h3
     simp only [ltO, decide_eq_true_eq]; omega
  ·have := (q1 x hx).1
   simpa [ltO] using this
theorem mi_of {m : List D_Entry} (h : mapOK m = true) : MI m := by
 unfold mapOK at h
 rw [Bool.and_eq_true] at h
 obtain ⟨q1, q2⟩ := mapF_inv h.1
 exact ⟨q2, fun e he => (q1 e he).2.1, fun e he => (q1 e he).2.2, by simpa using h.2⟩
theorem lo_le {key : Int} : ∀ {m : List D_Entry}, lo key m ≤ m.length
 | [] => Nat.le_refl _
 | e :: es => by
  unfold lo
  split
  ·have := lo_le (key := key) (m := es); simp only [List.length_cons]; omega
  ·omega
theorem lo_lt {key : Int} : ∀ {m : List D_Entry} {i : Nat}, i < lo key m → (m.getD i E0).1 < key
 | [], i, h => absurd h (Nat.not_lt_zero _)
 | e :: es, i, h => by
  unfold lo at h
  split at h
  ·rename_i he
   cases i with
   | zero => exact he
   | succ i =>
    have := lo_lt (m := es) (i := i) (key := key) (by omega)
    simpa using this
  ·omega
theorem lo_at {key : Int} : ∀ {m : List D_Entry}, lo key m < m.length → key ≤ (m.getD (lo key m) E0).1
 | [], h => absurd h (Nat.not_lt_zero _)
 | e :: es, h => by
  unfold lo
  split
  ·rename_i he
   unfold lo at h
   rw [if_pos he] at h
   have := lo_at (m := es) (key := key) (by simp only [List.length_cons] at h; omega)
   simpa using this
  ·rename_i he
   simp only [List.getD_cons_zero]; omega
theorem srt_lt {m : List D_Entry} (h : m.Pairwise fun a b => a.1 < b.1) {i j : Nat} (hij : i < j) (hj : j < m.length) : (m.getD i E0).1 < (m.getD j E0).1 := by
 have := List.pairwise_iff_getElem.1 h i j (by omega) hj hij
 rw [List.getD_eq_getElem?_getD, List.getD_eq_getElem?_getD, List.getElem?_eq_getElem (by omega), List.getElem?_eq_getElem hj]
 exact this
theorem lo_ge {key : Int} {m : List D_Entry} (h : m.Pairwise fun a b => a.1 < b.1) {i : Nat} (hi : lo key m ≤ i) (hl : i < m.length) : key ≤ (m.getD i E0).1 := by
 rcases Nat.eq_or_lt_of_le hi with e | e
 ·subst e; exact lo_at hl
 ·have := srt_lt h e hl
  have := lo_at (key := key) (m := m) (by omega)
  omega
theorem lo_gt {key : Int} {m : List D_Entry} (h : m.Pairwise fun a b => a.1 < b.1) {i : Nat} (hi : lo key m < i) (hl : i < m.length) : key < (m.getD i E0).1 := by
 have := srt_lt h hi hl
 have := lo_at (key := key) (m := m) (by omega)
 omega
theorem lo_is {key : Int} {m : List D_Entry} (h : m.Pairwise fun a b => a.1 < b.1) {i : Nat} (hl : i < m.length) (he : (m.getD i E0).1 = key) : lo key m = i := by
 rcases Nat.lt_trichotomy i (lo key m) with e | e | e
 ·have := lo_lt e; omega
 ·exact e.symm
 ·have := lo_gt h e hl; omega
theorem fnd_t {key : Int} {m : List D_Entry} (h : fnd key m = true) : lo key m < m.length ∧ (m.getD (lo key m) E0).1 = key := by
 unfold fnd at h
 simpa using h
theorem fnd_f {key : Int} {m : List D_Entry} (h : fnd key m = false) : lo key m < m.length → (m.getD (lo key m) E0).1 ≠ key := by
 unfold fnd at h
 intro hl
 rw [decide_eq_true hl] at h
 simpa using h
def atI (key : Int) (m : List D_Entry) : Int := cond (fnd key m) (lo key m : Int) (-1)
theorem find_loop (m : List D_Entry) (key : Int) (hm : MI m) : ∀ (n : Nat) (v4 : Int) (i : Nat), m.length - i = n → i ≤ m.length → (∀ j, j < i → (m.getD j E0).1 ≠ key) → lp_spec_l10Find_0 R L m key v4 i = some (atI key m, ())
 | 0, v4, i, hn, hi, hj => by
  have hq : lp_spec_l10Find_0 R L m key v4 i = _ := round (by kernel_rfl) (q_spec_l10Find_0 R L m key v4 i)
  rw [hq, lt_f (by omega)]
  have hf : fnd key m = false := by
   cases hf : fnd key m with
   | false => rfl
   | true => obtain ⟨h1, h2⟩ := fnd_t hf; exact absurd h2 (hj _ (by omega))
  unfold atI
  rw [hf]; rfl
 | n + 1, v4, i, hn, hi, hj => by
  have hlt : i < m.length := by omega
  have hq : lp_spec_l10Find_0 R L m key v4 i = _ := round (by kernel_rfl) (q_spec_l10Find_0 R L m key v4 i)
  have hl := hm.len
  rw [hq, lt_t hlt, nn, tn, blt_t hlt, eqI_iff, wrap_succ (by omega)]
  simp only [cond_true]
  by_cases he : (m.getD i E0).1 = key
  ·rw [decide_eq_true he]
   have := lo_is hm.srt hlt he
   have hf : fnd key m = true := by unfold fnd; rw [this, decide_eq_true hlt, decide_eq_true he]; rfl
   unfold atI
   rw [hf, this]; rfl
  ·rw [decide_eq_false he]
   exact find_loop m key hm n v4 (i + 1) (by omega) (by omega) fun j hj' => by
    by_cases e : j = i
    ·subst e; exact he
    ·exact hj j (by omega)
theorem p_spec_l10Find (m : List D_Entry) (key : Int) (hm : MI m) : c_spec_l10Find R m key = some (atI key m, ()) := by
 have hq : c_spec_l10Find R m key = _ := call (q_spec_l10Find R L m key)
 rw [hq]
 exact find_loop m key hm _ 0 0 rfl (Nat.zero_le _) fun j h => absurd h (Nat.not_lt_zero _)
theorem mid_eq {i j : Nat} (h : i + j ≤ 1000) : Go.IntKind.wrap .i64 (Int.fdiv (Go.IntKind.wrap .u64 (Go.IntKind.wrap .i64 ((i : Int) + (j : Int)))) ((2 : Int) ^ (Min.min (Int.toNat (1 : Int)) (Go.IntKind.bits .u64)))) = (((i + j) / 2 : Nat) : Int) := by
 rw [show (i : Int) + (j : Int) = ((i + j : Nat) : Int) by omega, wrap_id (n := ((i + j : Nat) : Int)) (by omega) (by omega)]
 have hu : Go.IntKind.wrap .u64 ((i + j : Nat) : Int) = ((i + j : Nat) : Int) := by
  show ((i + j : Nat) : Int) % 18446744073709551616 = _
  omega
 have h2 : ((2 : Int) ^ (Min.min (Int.toNat (1 : Int)) (Go.IntKind.bits .u64))) = 2 := rfl
 rw [hu, h2]
 have h3 : Int.fdiv ((i + j : Nat) : Int) 2 = (((i + j) / 2 : Nat) : Int) := by
  rw [Int.fdiv_eq_ediv_of_nonneg _ (by omega)]; omega
 rw [h3, wrap_id (by omega) (by omega)]
theorem cvi_find (e : D_Entry) (key : Int) (h1 : 0 ≤ e.1 ∧ e.1 ≤ 9999) (h2 : 0 ≤ key ∧ key ≤ 9999) : callVI EE R (.mk 79 .nil) [⟨T_Entry, e⟩, ⟨.int .i64, key⟩] = some (e.1 - key) := by
 rw [cv_impl_find_1]
 have hq : c_impl_find_1 R e key = _ := call (q_impl_find_1 R L e key)
 rw [hq, wrap_id (by omega) (by omega)]; rfl
theorem bs_loop (m : List D_Entry) (key : Int) (hm : MI m) (hk : 1 ≤ key ∧ key ≤ 9999) : ∀ (n : Nat) (v6 : Int) (v7 : Bool) (i j : Nat) (v11 : Int), j - i ≤ n → i ≤ lo key m → lo key m ≤ j → j ≤ m.length →
  lp_slices_BinarySearchFunc___impl_Entry_impl_Entry_int__1 R L m key (.mk 79 .nil) v6 v7 m.length i j v11 = some (((lo key m : Nat) : Int), (fnd key m, ()))
 | n, v6, v7, i, j, v11, hn, hi, hj, hl => by
  have hlen := hm.len
  have hq : lp_slices_BinarySearchFunc___impl_Entry_impl_Entry_int__1 R L m key (.mk 79 .nil) v6 v7 m.length i j v11 = _ := round (by kernel_rfl) (q_slices_BinarySearchFunc___impl_Entry_impl_Entry_int__1 R L m key (.mk 79 .nil) v6 v7 m.length i j v11)
  have cv : ∀ t, t < m.length → callVI EE R (.mk 79 .nil) [⟨T_Entry, m.getD t E0⟩, ⟨.int .i64, key⟩] = some ((m.getD t E0).1 - key) := fun t ht => by
   have := hm.keys _ (getD_mem (d := E0) ht)
   exact cvi_find _ _ (by omega) (by omega)
  rw [hq]
  by_cases hlt : i < j
  ·have hmid : (i + j) / 2 < m.length := by omega
   rw [lt_t hlt, mid_eq (by omega), nn, tn, blt_t hmid]
   simp only [cond_true]
   rw [cv _ hmid]
   simp only [Option.bind_some]
   cases n with
   | zero => omega
   | succ n =>
    by_cases hless : (m.getD ((i + j) / 2) E0).1 < key
    ·rw [decide_eq_true (by omega), wrap_succ (by omega)]
     refine bs_loop m key hm hk n _ _ _ _ _ (by omega) ?_ hj hl
     rcases Nat.lt_or_ge ((i + j) / 2) (lo key m) with h | h
     ·omega
     ·have := lo_ge (key := key) hm.srt h hmid; omega
    ·rw [decide_eq_false (by omega)]
     refine bs_loop m key hm hk n _ _ _ _ _ (by omega) hi ?_ (by omega)
     rcases Nat.lt_or_ge ((i + j) / 2) (lo key m) with h | h
     ·have := lo_lt (key := key) h; omega
     ·exact h
  ·have hij : i = lo key m := by omega
   subst hij
   rw [lt_f (by omega)]
   simp only [cond_false]
   by_cases hend : lo key m < m.length
   ·rw [lt_t hend, nn, tn, blt_t hend]
    simp only [cond_true]
    rw [cv _ hend]
    simp only [Option.bind_some, eqI_iff]
    unfold fnd
    rw [decide_eq_true hend, Bool.true_and]
    congr 3
    exact decide_eq_decide.2 (by omega)
   ·rw [lt_f (by omega)]
    unfold fnd
    rw [decide_eq_false hend]; rfl
theorem p_impl_find (m : List D_Entry) (key : Int) (hm : MI m) (hk : 1 ≤ key ∧ key ≤ 9999) : c_impl_find R m key = some (((lo key m : Nat) : Int), (fnd key m, ())) := by
 have hq : c_impl_find R m key = _ := call (q_impl_find R L m key)
 have hb : c_slices_BinarySearchFunc___impl_Entry_impl_Entry_int_ R m key (.mk 79 .nil) = _ := call (q_slices_BinarySearchFunc___impl_Entry_impl_Entry_int_ R L m key (.mk 79 .nil))
 have hq0 : lp_slices_BinarySearchFunc___impl_Entry_impl_Entry_int__0 R L m key (.mk 79 .nil) 0 false m.length 0 m.length = _ := round (by kernel_rfl) (q_slices_BinarySearchFunc___impl_Entry_impl_Entry_int__0 R L m key (.mk 79 .nil) 0 false m.length 0 m.length)
 have hq1 : lp_slices_BinarySearchFunc___impl_Entry_impl_Entry_int__1 R L m key (.mk 79 .nil) 0 false m.length 0 m.length 0 = _ := round (by kernel_rfl) (q_slices_BinarySearchFunc___impl_Entry_impl_Entry_int__1 R L m key (.mk 79 .nil) 0 false m.length 0 m.length 0)
 rw [hq, hb, hq0.trans hq1.symm]
 exact congrArg (fun z : Option (Int × (Bool × Unit)) => z.bind fun r0 => some (r0.1, (r0.2.1, ()))) (bs_loop m key hm hk m.length 0 false 0 m.length 0 (by omega) (Nat.zero_le _) lo_le (Nat.le_refl _))
end Go.Rf.S

end
section
namespace Go.Rf.S
set_option maxRecDepth 100000
set_option linter.unusedVariables false
set_option linter.unusedSimpArgs false
theorem ble_t {a b : Nat} (h : a ≤ b) : Nat.ble a b = true := by rw [Nat.ble_eq]; exact h
theorem blt_f {a b : Nat} (h : b ≤ a) : Nat.blt a b = false := by
 cases e : Nat.blt a b with
 | false => rfl
 | true => rw [Nat.blt_eq] at e; omega
def putM (m : List D_Entry) (key v : Int) : List D_Entry := m.take (lo key m) ++ (key, (v, ())) :: m.drop (cond (fnd key m) (lo key m + 1) (lo key m))
theorem putM_len {m : List D_Entry} {key v : Int} : (putM m key v).length ≤ m.length + 1 := by
 unfold putM
 have := lo_le (key := key) (m := m)
 cases fnd key m <;> simp <;> omega
theorem put_loop (m : List D_Entry) (key v : Int) (hm : MI m) : ∀ (n : Nat) (v6 : List D_Entry) (i : Nat), lo key m - i = n → i ≤ lo key m → lp_spec_l10Put_0 R L m key v v6 i = some (putM m key v, ())
 | 0, v6, i, hn, hi => by
  have hlen := hm.len
  have hll := lo_le (key := key) (m := m)
  have e : i = lo key m := by omega
  have hq : lp_spec_l10Put_0 R L m key v v6 i = _ := round (by kernel_rfl) (q_spec_l10Put_0 R L m key v v6 i)
  subst e
  rw [hq]
  by_cases hlt : lo key m < m.length
  ·have hge := lo_at (key := key) hlt
   rw [lt_t hlt, nn, tn, blt_t hlt, decide_eq_false (p := (m.getD (lo key m) (0, (0, ()))).1 < key) (Int.not_lt.2 hge), ble_t (Nat.le_refl m.length), ble_t hll, wrap_succ (by omega), nn, tn, ble_t (show lo key m + 1 ≤ m.length by omega), eqI_iff]
   simp only [cond_true, cond_false]
   rw [lenOK_t (by simp; omega), lenOK_t (by simp; omega), lenOK_t (by simp; omega), lenOK_t (by simp; omega)]
   simp only [cond_true]
   unfold putM fnd
   rw [decide_eq_true hlt, Bool.true_and]
   by_cases he : (m.getD (lo key m) E0).1 = key
   ·rw [decide_eq_true he]; simp
   ·rw [decide_eq_false he]; simp
  ·have hl2 : lo key m = m.length := by omega
   rw [lt_f (by omega), nn, tn, ble_t (Nat.le_refl m.length), ble_t hll]
   simp only [cond_true, cond_false]
   rw [lenOK_t (by simp; omega), lenOK_t (by simp; omega), lenOK_t (by simp; omega)]
   simp only [cond_true]
   unfold putM fnd
   rw [decide_eq_false hlt]; simp
 | n + 1, v6, i, hn, hi => by
  have hlen := hm.len
  have hll := lo_le (key := key) (m := m)
  have hlt : i < m.length := by omega
  have hq : lp_spec_l10Put_0 R L m key v v6 i = _ := round (by kernel_rfl) (q_spec_l10Put_0 R L m key v v6 i)
  rw [hq, lt_t hlt, nn, tn, blt_t hlt, decide_eq_true (p := (m.getD i (0, (0, ()))).1 < key) (lo_lt (key := key) (by omega)), wrap_succ (by omega)]
  exact put_loop m key v hm n v6 (i + 1) (by omega) (by omega)
theorem p_spec_l10Put (m : List D_Entry) (key v : Int) (hm : MI m) : c_spec_l10Put R m key v = some (putM m key v, ()) := by
 have hq : c_spec_l10Put R m key v = _ := call (q_spec_l10Put R L m key v)
 rw [hq]
 exact put_loop m key v hm _ _ 0 rfl (Nat.zero_le _)
theorem p_clone (m : List D_Entry) (hl : m.length ≤ 1099511627776) : c_slices_Clone___impl_Entry_impl_Entry_ R m = some (m, ()) := by
 have hq : c_slices_Clone___impl_Entry_impl_Entry_ R m = _ := call (q_slices_Clone___impl_Entry_impl_Entry_ R L m)
 rw [hq]
 cases m with
 | nil => exact agree_self _
 | cons e es =>
  rw [lenOK_t (by simpa using hl)]; rfl
theorem p_insert (m : List D_Entry) (i : Nat) (e : D_Entry) (hi : i ≤ m.length) (hl : m.length ≤ 1000) : c_slices_Insert___impl_Entry_impl_Entry_ R m i [e] = some (m.take i ++ e :: m.drop i, ()) := by
 refine (run_x (f := 89) (h := insH T_Entry) rfl _).trans ?_
 show cond (decide ((0 : Int) ≤ (i : Int)) && (decide ((i : Int) ≤ (m.length : Int)) && (Nat.blt 0 1 && Nat.ble (m.length + 1) 1099511627776))) (some ((m.take (i : Int).toNat ++ [e] ++ m.drop (i : Int).toNat : List D_Entry), ())) none = _
 rw [decide_eq_true (by omega), decide_eq_true (by omega), blt_t (by omega), ble_t (by omega), tn]
 simp
theorem p_delete (m : List D_Entry) (i : Nat) (hi : i < m.length) : c_slices_Delete___impl_Entry_impl_Entry_ R m i ((i + 1 : Nat) : Int) = some (m.take i ++ m.drop (i + 1), ()) := by
 refine (run_x (f := 62) (h := delH T_Entry) rfl _).trans ?_
 show cond (decide ((0 : Int) ≤ (i : Int)) && (decide ((i : Int) < ((i + 1 : Nat) : Int)) && decide (((i + 1 : Nat) : Int) ≤ (m.length : Int)))) (some ((m.take (i : Int).toNat ++ m.drop ((i + 1 : Nat) : Int).toNat : List D_Entry), ())) none = _
 rw [decide_eq_true (by omega), decide_eq_true (by omega), decide_eq_true (by omega), tn, tn]; rfl
def fullM (m : List D_Entry) (key : Int) : Bool := !fnd key m && decide (m.length = 11)
theorem p_impl_put (m : List D_Entry) (key v : Int) (hm : MI m) (hk : 1 ≤ key ∧ key ≤ 9999) : c_impl_put R m key v = some (cond (fullM m key) (m, (false, ())) (putM m key v, (true, ()))) := by
 have hlen := hm.len
 have hll := lo_le (key := key) (m := m)
 have hq : c_impl_put R m key v = _ := call (q_impl_put R L m key v)
 rw [hq, p_impl_find m key hm hk]
 simp only [Option.bind_some]
 rw [p_clone m (by omega)]
 simp only [Option.bind_some, nn, tn]
 unfold fullM putM
 cases hf : fnd key m with
 | true =>
  obtain ⟨h1, h2⟩ := fnd_t hf
  rw [blt_t h1]
  simp only [cond_true, Bool.not_true, Bool.false_and, cond_false]
  rw [show m.set (lo key m) ((m.getD (lo key m) (0, (0, ()))).1, (v, (m.getD (lo key m) (0, (0, ()))).2.2)) = m.take (lo key m) ++ (key, (v, ())) :: m.drop (lo key m + 1) by
   rw [List.set_eq_take_append_cons_drop, if_pos h1]
   congr 2
   exact Prod.ext h2 rfl]
 | false =>
  simp only [cond_false, Bool.not_false, Bool.true_and, eqI_iff]
  by_cases h : m.length = 11
  ·rw [decide_eq_true (p := (m.length : Int) = 11) (by omega), decide_eq_true h]; rfl
  ·rw [decide_eq_false (p := (m.length : Int) = 11) (by omega), decide_eq_false h]
   simp only [cond_false]
   rw [p_insert m _ _ hll (by omega)]; rfl
def scanF : List D_Entry → Nat → List Int
 | _, 0 => []
 | [], n + 1 => 0 :: 0 :: scanF [] n
 | e :: es, n + 1 => e.1 :: e.2.1 :: scanF es n
theorem scanF_len : ∀ {m : List D_Entry} {n : Nat}, (scanF m n).length = 2 * n
 | _, 0 => rfl
 | [], n + 1 => by simp only [scanF, List.length_cons, scanF_len]; omega
 | e :: es, n + 1 => by simp only [scanF, List.length_cons, scanF_len]; omega
theorem scan_impl (m : List D_Entry) (key : Int) (hl : m.length ≤ 11) : ∀ (n : Nat) (v6 : List Int) (i : Nat) (out : List Int), n ≤ 1000 → i + n ≤ 2000 → out.length + 2 * n ≤ 100000 →
  lp_impl_scan_0 R L m key n v6 i out = some (out ++ scanF (m.drop i) n, ())
 | 0, v6, i, out, hn, hi, ho => by
  have hq : lp_impl_scan_0 R L m key (0 : Nat) v6 i out = _ := round (by kernel_rfl) (q_impl_scan_0 R L m key (0 : Nat) v6 i out)
  rw [hq]
  show some (out, ()) = _
  unfold scanF; rw [List.append_nil]
 | n + 1, v6, i, out, hn, hi, ho => by
  have hq : lp_impl_scan_0 R L m key (n + 1 : Nat) v6 i out = _ := round (by kernel_rfl) (q_impl_scan_0 R L m key (n + 1 : Nat) v6 i out)
  rw [hq, decide_eq_true (p := (0 : Int) < ((n + 1 : Nat) : Int)) (by omega), show (((n + 1 : Nat) : Int) - 1) = (n : Int) by omega, wrap_id (n := (n : Int)) (by omega) (by omega), wrap_succ (by omega)]
  simp only [cond_true]
  by_cases hlt : i < m.length
  ·rw [lt_t hlt, nn, tn, blt_t hlt, lenOK_t (by simp; omega)]
   simp only [cond_true]
   rw [scan_impl m key hl n v6 (i + 1) _ (by omega) (by omega) (by simp; omega), drop_getD (d := E0) hlt, List.append_assoc]; rfl
  ·rw [lt_f (by omega)]
   simp only [cond_false]
   rw [lenOK_t (by simp; omega)]
   simp only [cond_true]
   rw [scan_impl m key hl n v6 (i + 1) _ (by omega) (by omega) (by simp; omega), List.drop_eq_nil_of_le (by omega), List.drop_eq_nil_of_le (by omega), List.append_assoc]; rfl
theorem p_impl_scan (m : List D_Entry) (key : Int) (n : Nat) (hm : MI m) (hk : 1 ≤ key ∧ key ≤ 9999) (hn : n ≤ 100) : c_impl_scan R m key n = some (scanF (m.drop (lo key m)) n, ()) := by
 have hq : c_impl_scan R m key n = _ := call (q_impl_scan R L m key n)
 have hll := lo_le (key := key) (m := m)
 have hlen := hm.len
 rw [hq, p_impl_find m key hm hk]
 simp only [Option.bind_some]
 rw [scan_impl m key hm.len n [] (lo key m) [] (by omega) (by omega) (by simp; omega)]; rfl
theorem pad_spec (m : List D_Entry) (o : D_Op) (b : Nat) (ho : o.2.2.1 = b) (hb : b ≤ 100) (v1 : D_Op) (v4 : List D_Entry) (v5 : List Int) (v6 v7 v8 v10 v23 : Int) : ∀ (n : Nat) (out : List Int), out.length + n = 2 * b →
  lp_spec_l10Do_1 R L m v1 o v4 v5 v6 v7 v8 out v10 v23 = some (m, (out ++ List.replicate n 0, (0, ())))
 | 0, out, hn => by
  have hq : lp_spec_l10Do_1 R L m v1 o v4 v5 v6 v7 v8 out v10 v23 = _ := round (by kernel_rfl) (q_spec_l10Do_1 R L m v1 o v4 v5 v6 v7 v8 out v10 v23)
  rw [hq, ho, wrap_id (by omega) (by omega), decide_eq_false (by omega)]
  simp
 | n + 1, out, hn => by
  have hq : lp_spec_l10Do_1 R L m v1 o v4 v5 v6 v7 v8 out v10 v23 = _ := round (by kernel_rfl) (q_spec_l10Do_1 R L m v1 o v4 v5 v6 v7 v8 out v10 v23)
  rw [hq, ho, wrap_id (by omega) (by omega), decide_eq_true (by omega), lenOK_t (by simp; omega)]
  simp only [cond_true]
  rw [pad_spec m o b ho hb v1 v4 v5 v6 v7 v8 v10 v23 n (out ++ [0]) (by simp; omega), List.append_assoc]; rfl
theorem scanF_nil : ∀ {n : Nat}, scanF [] n = List.replicate (2 * n) 0
 | 0 => rfl
 | n + 1 => by rw [show 2 * (n + 1) = 2 * n + 1 + 1 by omega, List.replicate_succ, List.replicate_succ, ← scanF_nil]; rfl
theorem scan_spec (m : List D_Entry) (o : D_Op) (b : Nat) (ho : o.2.2.1 = b) (hb : b ≤ 100) (hm : MI m) (v1 : D_Op) (v4 : List D_Entry) (v5 : List Int) (v6 v7 v8 v23 : Int) : ∀ (n i : Nat) (out : List Int) (k : Nat), m.length - i = n → i ≤ m.length → out.length + 2 * k = 2 * b → (i < lo o.2.1 m → out = []) →
  lp_spec_l10Do_0 R L m v1 o v4 v5 v6 v7 v8 out i v23 = some (m, (out ++ scanF (m.drop (max i (lo o.2.1 m))) k, (0, ())))
 | 0, i, out, k, hn, hi, hk, hout => by
  have hll := lo_le (key := o.2.1) (m := m)
  have hq : lp_spec_l10Do_0 R L m v1 o v4 v5 v6 v7 v8 out i v23 = _ := round (by kernel_rfl) (q_spec_l10Do_0 R L m v1 o v4 v5 v6 v7 v8 out i v23)
  rw [hq, lt_f (by omega)]
  simp only [cond_false]
  rw [pad_spec m o b ho hb v1 v4 v5 v6 v7 v8 i v23 (2 * k) out hk, List.drop_eq_nil_of_le (by omega), scanF_nil]
 | n + 1, i, out, k, hn, hi, hk, hout => by
  have hll := lo_le (key := o.2.1) (m := m)
  have hlt : i < m.length := by omega
  have hlen := hm.len
  have hq : lp_spec_l10Do_0 R L m v1 o v4 v5 v6 v7 v8 out i v23 = _ := round (by kernel_rfl) (q_spec_l10Do_0 R L m v1 o v4 v5 v6 v7 v8 out i v23)
  rw [hq, lt_t hlt, ho, wrap_id (n := 2 * (b : Int)) (by omega) (by omega), nn, tn, blt_t hlt, wrap_succ (by omega)]
  simp only [cond_true]
  cases k with
  | zero =>
   rw [decide_eq_false (by omega)]
   simp only [cond_false]
   rw [pad_spec m o b ho hb v1 v4 v5 v6 v7 v8 i v23 0 out (by omega)]
   simp [scanF]
  | succ k =>
   rw [decide_eq_true (p := (out.length : Int) < 2 * (b : Int)) (by omega)]
   simp only [cond_true]
   by_cases hlo : i < lo o.2.1 m
   ·have := lo_lt (key := o.2.1) hlo
    rw [decide_eq_false (p := o.2.1 ≤ (m.getD i (0, (0, ()))).1) (Int.not_le.2 this)]
    simp only [cond_false]
    rw [scan_spec m o b ho hb hm v1 v4 v5 v6 v7 v8 v23 n (i + 1) out (k + 1) (by omega) (by omega) hk (fun _ => hout hlo), show max (i + 1) (lo o.2.1 m) = max i (lo o.2.1 m) by omega]
   ·have := lo_ge (key := o.2.1) hm.srt (Nat.not_lt.1 hlo) hlt
    rw [decide_eq_true (p := o.2.1 ≤ (m.getD i (0, (0, ()))).1) this, lenOK_t (by simp; omega)]
    simp only [cond_true]
    rw [scan_spec m o b ho hb hm v1 v4 v5 v6 v7 v8 v23 n (i + 1) _ k (by omega) (by omega) (by simp; omega) (fun h => absurd h (by omega)), show max (i + 1) (lo o.2.1 m) = i + 1 by omega, show max i (lo o.2.1 m) = i by omega, drop_getD (d := E0) hlt, List.append_assoc]; rfl
end Go.Rf.S

end
section
namespace Go.Rf.S
set_option maxRecDepth 100000
set_option linter.unusedVariables false
set_option linter.unusedSimpArgs false
structure OpM (o : D_Op) : Prop where
 k : 1 ≤ o.1 ∧ o.1 ≤ 6
 key : 1 ≤ o.2.1 ∧ o.2.1 ≤ 9999
 v : 0 ≤ o.2.2.1 ∧ o.2.2.1 ≤ 999999
 sc : o.1 = 6 → o.2.2.1 ≤ 4
theorem opM {o : D_Op} (h : opOK o = true) : OpM o := by
 unfold opOK at h
 rw [Bool.and_eq_true, Bool.and_eq_true] at h
 obtain ⟨h1, h2, h3⟩ := h
 by_cases hb : o.1 = 1 ∨ o.1 = 3
 ·rw [show (decide (o.1 = 1) || decide (o.1 = 3)) = true by simpa using hb] at h3
  have h3 : o.2.2.1 = 0 := by simpa using h3
  exact ⟨inB_bounds h1, inB_bounds h2, by omega, fun _ => by omega⟩
 ·rw [show (decide (o.1 = 1) || decide (o.1 = 3)) = false by simpa using hb] at h3
  simp only [cond_false] at h3
  by_cases h6 : o.1 = 6
  ·rw [decide_eq_true h6] at h3
   have := inB_bounds (show inB o.2.2.1 1 4 = true from h3)
   exact ⟨inB_bounds h1, inB_bounds h2, by omega, fun _ => by omega⟩
  ·rw [decide_eq_false h6] at h3
   exact ⟨inB_bounds h1, inB_bounds h2, inB_bounds h3, fun h => absurd h h6⟩
def bitI (b : Bool) : Int := cond b 1 0
theorem p_spec_l01Bit (b : Bool) : c_spec_l01Bit R b = some (bitI b, ()) := by
 have hq : c_spec_l01Bit R b = _ := call (q_spec_l01Bit R L b)
 rw [hq]; cases b <;> rfl
def valM (m : List D_Entry) (key : Int) : Int := cond (fnd key m) (m.getD (lo key m) E0).2.1 0
abbrev D_Do : Type := List D_Entry × (List Int × (Int × Unit))
def dropM (m : List D_Entry) (key : Int) : List D_Entry := cond (fnd key m) (m.take (lo key m) ++ m.drop (lo key m + 1)) m
def doM (m : List D_Entry) (o : D_Op) : D_Do :=
 cond (decide (o.1 = 1)) (m, ([bitI (fnd o.2.1 m), valM m o.2.1], (0, ())))
 (cond (decide (o.1 = 3)) (dropM m o.2.1, ([bitI (fnd o.2.1 m)], (0, ())))
 (cond (decide (o.1 = 4)) (m, ([], (cond (fnd o.2.1 m && decide (valM m o.2.1 = o.2.2.1)) 0 14, ())))
 (cond (decide (o.1 = 6)) (m, (scanF (m.drop (lo o.2.1 m)) o.2.2.1.toNat, (0, ())))
 (cond (fullM m o.2.1) (m, ([], (7, ())))
 (cond (decide (o.1 = 2)) (putM m o.2.1 o.2.2.1, ([], (0, ())))
 (cond (decide (999999 < valM m o.2.1 + o.2.2.1)) (m, ([], (4, ()))) (putM m o.2.1 (valM m o.2.1 + o.2.2.1), ([valM m o.2.1 + o.2.2.1], (0, ())))))))))
theorem valM_b {m : List D_Entry} {key : Int} (hm : MI m) : 0 ≤ valM m key ∧ valM m key ≤ 999999 := by
 unfold valM
 cases hf : fnd key m with
 | false => simp
 | true =>
  obtain ⟨h1, _⟩ := fnd_t hf
  exact hm.vals _ (getD_mem h1)
theorem p_spec_l10Do (m : List D_Entry) (o : D_Op) (hm : MI m) (ho : OpM o) : c_spec_l10Do R m o = some (doM m o) := by
 have hlen := hm.len
 have hll := lo_le (key := o.2.1) (m := m)
 have hv := valM_b (key := o.2.1) hm
 have hov := ho.v
 have hq : c_spec_l10Do R m o = _ := call (q_spec_l10Do R L m o)
 have hsc : o.1 = 6 → ∀ v7 v8, lp_spec_l10Do_0 R L m o o ([] : List D_Entry) ([] : List Int) (0 : Int) v7 v8 ([] : List Int) (0 : Int) o.1 = some (m, (scanF (m.drop (lo o.2.1 m)) o.2.2.1.toNat, (0, ()))) := fun h6 v7 v8 => by
  have h4 := ho.sc h6
  have := scan_spec m o o.2.2.1.toNat (by omega) (by omega) hm o [] [] 0 v7 v8 o.1 m.length 0 [] o.2.2.1.toNat (by omega) (by omega) (by simp) (fun _ => rfl)
  rw [show max 0 (lo o.2.1 m) = lo o.2.1 m by omega, List.nil_append] at this
  exact this
 rw [hq, p_spec_l10Find m _ hm]
 simp only [Option.bind_some, p_spec_l01Bit, eqI_iff, p_spec_l10Put m _ _ hm]
 unfold atI
 cases hf : fnd o.2.1 m with
 | true =>
  obtain ⟨h1, h2⟩ := fnd_t hf
  have hv' : valM m o.2.1 = (m.getD (lo o.2.1 m) (0, (0, ()))).2.1 := by unfold valM; rw [hf]; rfl
  simp only [cond_true]
  rw [decide_eq_true (p := (0 : Int) ≤ (lo o.2.1 m : Int)) (by omega), decide_eq_false (p := (lo o.2.1 m : Int) < 0) (by omega)]
  simp only [cond_true, cond_false, nn, tn]
  rw [blt_t h1, ble_t hll, ble_t (Nat.le_refl m.length), wrap_succ (by omega)]
  simp only [cond_true, nn, tn]
  rw [ble_t (show lo o.2.1 m + 1 ≤ m.length by omega), lenOK_t (by simp; omega), lenOK_t (by simp; omega), ← hv', wrap_id (n := valM m o.2.1 + o.2.2.1) (by omega) (by omega)]
  simp only [cond_true]
  unfold doM dropM fullM
  rw [hf]
  by_cases k1 : o.1 = 1
  ·rw [decide_eq_true k1]; rfl
  rw [decide_eq_false k1]
  by_cases k3 : o.1 = 3
  ·rw [decide_eq_true k3]; simp [bitI]
  rw [decide_eq_false k3]
  by_cases k4 : o.1 = 4
  ·rw [decide_eq_true k4]
   simp only [cond_true, cond_false]
   cases decide (valM m o.2.1 = o.2.2.1) <;> rfl
  rw [decide_eq_false k4]
  by_cases k6 : o.1 = 6
  ·rw [decide_eq_true k6]; exact hsc k6 _ _
  rw [decide_eq_false k6]
  simp only [cond_false, Bool.not_true, Bool.false_and]
  cases decide (o.1 = 2) <;> cases decide ((999999 : Int) < valM m o.2.1 + o.2.2.1) <;> rfl
 | false =>
  have hv' : valM m o.2.1 = 0 := by unfold valM; rw [hf]; rfl
  simp only [cond_false]
  rw [show decide ((0 : Int) ≤ -1) = false from rfl, show decide ((-1 : Int) < 0) = true from rfl, wrap_id (n := 0 + o.2.2.1) (by omega) (by omega)]
  simp only [cond_true, cond_false]
  unfold doM dropM fullM
  rw [hf, hv']
  by_cases k1 : o.1 = 1
  ·rw [decide_eq_true k1]; rfl
  rw [decide_eq_false k1]
  by_cases k3 : o.1 = 3
  ·rw [decide_eq_true k3]; rfl
  rw [decide_eq_false k3]
  by_cases k4 : o.1 = 4
  ·rw [decide_eq_true k4]; rfl
  rw [decide_eq_false k4]
  by_cases k6 : o.1 = 6
  ·rw [decide_eq_true k6]; exact hsc k6 _ _
  rw [decide_eq_false k6]
  simp only [cond_false, Bool.not_false, Bool.true_and]
  rw [show decide ((m.length : Int) = 11) = decide (m.length = 11) from decide_eq_decide.2 (by omega)]
  cases decide (m.length = 11) <;> cases decide (o.1 = 2) <;> cases decide ((999999 : Int) < 0 + o.2.2.1) <;> rfl
theorem p_impl_do2 (m : List D_Entry) (o : D_Op) (hm : MI m) (ho : OpM o) (hk : o.1 = 2 ∨ o.1 = 5) : c_impl_do2 R m o (valM m o.2.1) = some (doM m o) := by
 have hv := valM_b (key := o.2.1) hm
 have hov := ho.v
 have hq : c_impl_do2 R m o (valM m o.2.1) = _ := call (q_impl_do2 R L m o (valM m o.2.1))
 rw [hq, p_impl_put m _ _ hm ho.key, p_impl_put m _ _ hm ho.key, wrap_id (n := o.2.2.1 + valM m o.2.1) (by omega) (by omega), Int.add_comm o.2.2.1]
 simp only [Option.bind_some, p_impl_isValue, eqI_iff]
 unfold doM
 rcases hk with hk | hk
 ·rw [decide_eq_false (p := o.1 = 1) (by omega), decide_eq_false (p := o.1 = 3) (by omega), decide_eq_false (p := o.1 = 4) (by omega), decide_eq_false (p := o.1 = 6) (by omega), decide_eq_true (p := o.1 = 2) hk, decide_eq_false (p := o.1 = 5) (by omega)]
  simp only [cond_true, cond_false]
  cases fullM m o.2.1 with
  | true => rfl
  | false =>
   simp only [cond_false, Bool.not_true]
   rw [show inB o.2.2.1 0 999999 = true by unfold inB; rw [decide_eq_true (by omega), decide_eq_true (by omega)]; rfl]; rfl
 ·rw [decide_eq_false (p := o.1 = 1) (by omega), decide_eq_false (p := o.1 = 3) (by omega), decide_eq_false (p := o.1 = 4) (by omega), decide_eq_false (p := o.1 = 6) (by omega), decide_eq_false (p := o.1 = 2) (by omega), decide_eq_true (p := o.1 = 5) hk]
  simp only [cond_true, cond_false]
  cases fullM m o.2.1 with
  | true => rfl
  | false =>
   simp only [cond_false, Bool.not_true]
   by_cases h : 999999 < valM m o.2.1 + o.2.2.1
   ·rw [decide_eq_true h, show inB (valM m o.2.1 + o.2.2.1) 0 999999 = false by unfold inB; rw [decide_eq_false (p := valM m o.2.1 + o.2.2.1 ≤ 999999) (by omega), Bool.and_false]]; rfl
   ·rw [decide_eq_false h, show inB (valM m o.2.1 + o.2.2.1) 0 999999 = true by unfold inB; rw [decide_eq_true (by omega), decide_eq_true (by omega)]; rfl]; rfl
theorem p_impl_do (m : List D_Entry) (o : D_Op) (hm : MI m) (ho : OpM o) : c_impl_do R m o = some (doM m o) := by
 have hlen := hm.len
 have hll := lo_le (key := o.2.1) (m := m)
 have hov := ho.v
 have hq : c_impl_do R m o = _ := call (q_impl_do R L m o)
 have hk := ho.k
 have hsc : o.1 = 6 → c_impl_scan R m o.2.1 o.2.2.1 = some (scanF (m.drop (lo o.2.1 m)) o.2.2.1.toNat, ()) := fun h6 => by
  have h4 := ho.sc h6
  have := p_impl_scan m o.2.1 o.2.2.1.toNat hm ho.key (by omega)
  rwa [Int.toNat_of_nonneg (by omega)] at this
 have hd2 : o.1 ≠ 1 → o.1 ≠ 3 → o.1 ≠ 4 → o.1 ≠ 6 → c_impl_do2 R m o (valM m o.2.1) = some (doM m o) := fun h1 h3 h4 h6 => p_impl_do2 m o hm ho (by omega)
 rw [hq, p_impl_find m _ hm ho.key]
 simp only [Option.bind_some, eqI_iff]
 cases hf : fnd o.2.1 m with
 | true =>
  obtain ⟨h1, h2⟩ := fnd_t hf
  have hv' : valM m o.2.1 = (m.getD (lo o.2.1 m) (0, (0, ()))).2.1 := by unfold valM; rw [hf]; rfl
  simp only [cond_true, nn, tn, blt_t h1, ← hv', Bool.not_true, cond_false]
  by_cases k1 : o.1 = 1
  ·unfold doM; rw [hf, decide_eq_true k1]; rfl
  by_cases k3 : o.1 = 3
  ·unfold doM dropM
   rw [hf, decide_eq_false k1, decide_eq_true k3]
   simp only [cond_true, cond_false]
   rw [p_clone m (by omega)]
   simp only [Option.bind_some]
   rw [wrap_succ (by omega), p_delete m _ h1]; rfl
  by_cases k4 : o.1 = 4
  ·unfold doM
   rw [hf, decide_eq_false k1, decide_eq_false k3, decide_eq_true k4]
   simp only [cond_true, cond_false]
   cases decide (valM m o.2.1 = o.2.2.1) <;> rfl
  by_cases k6 : o.1 = 6
  ·unfold doM
   rw [hf, decide_eq_false k1, decide_eq_false k3, decide_eq_false k4, decide_eq_true k6]
   simp only [cond_true, cond_false]
   rw [hsc k6]; rfl
  rw [hd2 k1 k3 k4 k6, decide_eq_false k1, decide_eq_false k3, decide_eq_false k4, decide_eq_false k6]; rfl
 | false =>
  have hv' : valM m o.2.1 = 0 := by unfold valM; rw [hf]; rfl
  simp only [cond_true, cond_false, Bool.not_false]
  by_cases k1 : o.1 = 1
  ·unfold doM; rw [hf, decide_eq_true k1, hv']; rfl
  by_cases k3 : o.1 = 3
  ·unfold doM dropM
   rw [hf, decide_eq_false k1, decide_eq_true k3]; rfl
  by_cases k4 : o.1 = 4
  ·unfold doM
   rw [hf, decide_eq_false k1, decide_eq_false k3, decide_eq_true k4]; rfl
  by_cases k6 : o.1 = 6
  ·unfold doM
   rw [decide_eq_false k1, decide_eq_false k3, decide_eq_false k4, decide_eq_true k6]
   simp only [cond_true, cond_false]
   rw [hsc k6]; rfl
  rw [← hv', hd2 k1 k3 k4 k6, decide_eq_false k1, decide_eq_false k3, decide_eq_false k4, decide_eq_false k6]; rfl
end Go.Rf.S

end
section
namespace Go.Rf.S
set_option maxRecDepth 100000
set_option linter.unusedVariables false
set_option linter.unusedSimpArgs false
theorem mem_take_lt {m : List D_Entry} {key : Int} {a : D_Entry} (h : a ∈ m.take (lo key m)) : a.1 < key := by
 obtain ⟨i, hi, e⟩ := List.getElem_of_mem h
 rw [List.length_take] at hi
 have := lo_lt (key := key) (m := m) (i := i) (by omega)
 rw [List.getElem_take] at e
 rw [List.getD_eq_getElem?_getD, List.getElem?_eq_getElem (by omega), Option.getD_some, e] at this
 exact this
theorem mem_drop_ge {m : List D_Entry} {key : Int} {a : D_Entry} (hs : m.Pairwise fun a b => a.1 < b.1) (h : a ∈ m.drop (cond (fnd key m) (lo key m + 1) (lo key m))) : key < a.1 := by
 obtain ⟨i, hi, e⟩ := List.getElem_of_mem h
 rw [List.length_drop] at hi
 rw [List.getElem_drop] at e
 have hl : (cond (fnd key m) (lo key m + 1) (lo key m)) + i < m.length := by omega
 have e2 : m.getD ((cond (fnd key m) (lo key m + 1) (lo key m)) + i) E0 = a := by
  rw [List.getD_eq_getElem?_getD, List.getElem?_eq_getElem hl, Option.getD_some, e]
 rw [← e2]
 cases hf : fnd key m with
 | true =>
  rw [hf] at hl
  exact lo_gt hs (by simp only [cond_true]; omega) hl
 | false =>
  rw [hf] at hl
  simp only [cond_false] at hl ⊢
  cases i with
  | zero =>
   rw [Nat.add_zero] at hl ⊢
   have h1 := lo_at (key := key) hl
   have h2 := fnd_f hf hl
   omega
  | succ i => exact lo_gt hs (by omega) hl
theorem putM_mi {m : List D_Entry} {key v : Int} (hm : MI m) (hk : 1 ≤ key ∧ key ≤ 9999) (hv : 0 ≤ v ∧ v ≤ 999999) (hf : fullM m key = false) : MI (putM m key v) := by
 have hmem : ∀ e ∈ putM m key v, e ∈ m ∨ e = (key, (v, ())) := fun e he => by
  unfold putM at he
  rcases List.mem_append.1 he with h | h
  ·exact .inl (List.mem_of_mem_take h)
  ·rcases List.mem_cons.1 h with h | h
   ·exact .inr h
   ·exact .inl (List.mem_of_mem_drop h)
 refine ⟨?_, fun e he => ?_, fun e he => ?_, ?_⟩
 ·unfold putM
  refine List.pairwise_append.2 ⟨hm.srt.sublist (List.take_sublist _ _), List.pairwise_cons.2 ⟨fun b hb => mem_drop_ge hm.srt hb, hm.srt.sublist (List.drop_sublist _ _)⟩, fun a ha b hb => ?_⟩
  have h1 := mem_take_lt ha
  rcases List.mem_cons.1 hb with rfl | hb
  ·exact h1
  ·exact Int.lt_trans h1 (mem_drop_ge hm.srt hb)
 ·rcases hmem e he with h | rfl
  ·exact hm.keys e h
  ·exact hk
 ·rcases hmem e he with h | rfl
  ·exact hm.vals e h
  ·exact hv
 ·have hlen := hm.len
  have hll := lo_le (key := key) (m := m)
  unfold putM
  unfold fullM at hf
  cases h : fnd key m with
  | true =>
   have := (fnd_t h).1
   simp only [cond_true, List.length_append, List.length_take, List.length_cons, List.length_drop]; omega
  | false =>
   rw [h] at hf
   have hf : m.length ≠ 11 := by simpa using hf
   simp only [cond_false, List.length_append, List.length_take, List.length_cons, List.length_drop]; omega
theorem dropM_mi {m : List D_Entry} {key : Int} (hm : MI m) : MI (dropM m key) := by
 unfold dropM
 cases h : fnd key m with
 | false => exact hm
 | true =>
  simp only [cond_true]
  have hsub : List.Sublist (m.take (lo key m) ++ m.drop (lo key m + 1)) m := by
   have h1 : List.Sublist (m.drop (lo key m + 1)) (m.drop (lo key m)) := by
    rw [show lo key m + 1 = 1 + lo key m by omega, ← List.drop_drop]
    rw [List.drop_drop, Nat.add_comm 1, ← List.drop_drop]
    exact List.drop_sublist _ _
   have := (List.Sublist.refl (m.take (lo key m))).append h1
   rwa [List.take_append_drop] at this
  exact ⟨hm.srt.sublist hsub, fun e he => hm.keys e (hsub.subset he), fun e he => hm.vals e (hsub.subset he), Nat.le_trans hsub.length_le hm.len⟩
theorem doM_mi {m : List D_Entry} {o : D_Op} (hm : MI m) (ho : OpM o) : MI (doM m o).1 := by
 have hv := valM_b (key := o.2.1) hm
 have hov := ho.v
 unfold doM
 cases decide (o.1 = 1) with
 | true => exact hm
 | false =>
  cases decide (o.1 = 3) with
  | true => exact dropM_mi hm
  | false =>
   cases decide (o.1 = 4) with
   | true => exact hm
   | false =>
    cases decide (o.1 = 6) with
    | true => exact hm
    | false =>
     cases hf : fullM m o.2.1 with
     | true => exact hm
     | false =>
      cases decide (o.1 = 2) with
      | true => exact putM_mi hm ho.key hov hf
      | false =>
       by_cases h : 999999 < valM m o.2.1 + o.2.2.1
       ·rw [decide_eq_true h]; exact hm
       ·rw [decide_eq_false h]; exact putM_mi hm ho.key (by omega) hf
theorem doM_out {m : List D_Entry} {o : D_Op} (ho : OpM o) : (doM m o).2.1.length ≤ 8 := by
 unfold doM
 cases decide (o.1 = 1) with
 | true => simp
 | false =>
  cases decide (o.1 = 3) with
  | true => simp
  | false =>
   cases decide (o.1 = 4) with
   | true => simp
   | false =>
    by_cases h : o.1 = 6
    ·have := ho.sc h
     rw [decide_eq_true h]; simp only [cond_true, cond_false]; rw [scanF_len]; omega
    ·rw [decide_eq_false h]
     cases fullM m o.2.1 with
     | true => simp
     | false =>
      cases decide (o.1 = 2) with
      | true => simp
      | false =>
       cases decide (999999 < valM m o.2.1 + o.2.2.1) <;> simp
abbrev D_TR : Type := List D_Entry × (D_Result × Unit)
def txnGo (m0 : List D_Entry) : List D_Op → List D_Entry → List Int → D_TR
 | [], x, vs => (x, ((0, (vs, ())), ()))
 | o :: os, x, vs => cond (decide ((doM x o).2.2.1 = 0)) (txnGo m0 os (doM x o).1 (vs ++ (doM x o).2.1)) (m0, (((doM x o).2.2.1, ([], ())), ()))
def txnM (m : List D_Entry) (t : D_Txn) : D_TR := txnGo m t.1 m []
theorem txnGo_mi {m0 : List D_Entry} (h0 : MI m0) : ∀ {os : List D_Op} {x : List D_Entry} {vs : List Int}, MI x → (∀ o ∈ os, OpM o) → MI (txnGo m0 os x vs).1
 | [], x, vs, hx, _ => hx
 | o :: os, x, vs, hx, ho => by
  unfold txnGo
  cases decide ((doM x o).2.2.1 = 0) with
  | true => exact txnGo_mi h0 (doM_mi hx (ho o (by simp))) fun p hp => ho p (by simp [hp])
  | false => exact h0
theorem txnGo_out {m0 : List D_Entry} : ∀ {os : List D_Op} {x : List D_Entry} {vs : List Int}, (∀ o ∈ os, OpM o) → (txnGo m0 os x vs).2.1.2.1.length ≤ vs.length + 8 * os.length
 | [], x, vs, _ => by simp [txnGo]
 | o :: os, x, vs, ho => by
  unfold txnGo
  have h1 := doM_out (m := x) (ho o (by simp))
  cases decide ((doM x o).2.2.1 = 0) with
  | true =>
   have := txnGo_out (m0 := m0) (os := os) (x := (doM x o).1) (vs := vs ++ (doM x o).2.1) fun p hp => ho p (by simp [hp])
   simp only [cond_true, List.length_append, List.length_cons] at *; omega
  | false => simp
theorem txnS_loop (m0 : List D_Entry) (t : D_Txn) (hm0 : MI m0) (ht : t.1.length ≤ 4) (ho : ∀ o ∈ t.1, OpM o) (v1 : D_Txn) (v4 : List D_Entry) (v5 : D_Result) : ∀ (n i : Nat) (x : List D_Entry) (vs : List Int) (v9 : List D_Entry) (v10 : List Int) (v11 : Int),
  t.1.length - i = n → i ≤ t.1.length → MI x → vs.length ≤ 8 * i → lp_spec_l10Txn_1 R L m0 v1 t v4 v5 x (0, (vs, ())) i v9 v10 v11 = some (txnGo m0 (t.1.drop i) x vs)
 | 0, i, x, vs, v9, v10, v11, hn, hi, hx, hv => by
  have hq : lp_spec_l10Txn_1 R L m0 v1 t v4 v5 x (0, (vs, ())) i v9 v10 v11 = _ := round (by kernel_rfl) (q_spec_l10Txn_1 R L m0 v1 t v4 v5 x (0, (vs, ())) i v9 v10 v11)
  rw [hq, lt_f (by omega), List.drop_eq_nil_of_le (by omega)]; rfl
 | n + 1, i, x, vs, v9, v10, v11, hn, hi, hx, hv => by
  have hlt : i < t.1.length := by omega
  have hoi := ho _ (getD_mem (d := (0, (0, (0, ())))) hlt)
  have hout := doM_out (m := x) hoi
  have hq : lp_spec_l10Txn_1 R L m0 v1 t v4 v5 x (0, (vs, ())) i v9 v10 v11 = _ := round (by kernel_rfl) (q_spec_l10Txn_1 R L m0 v1 t v4 v5 x (0, (vs, ())) i v9 v10 v11)
  rw [hq, lt_t hlt, nn, tn, blt_t hlt, p_spec_l10Do x _ hx hoi, wrap_succ (by omega), drop_getD (d := (0, (0, (0, ())))) hlt]
  simp only [cond_true, Option.bind_some, eqI_iff]
  unfold txnGo
  cases decide ((doM x (t.1.getD i (0, (0, (0, ()))))).2.2.1 = 0) with
  | false => rfl
  | true =>
   rw [lenOK_t (by omega)]
   simp only [cond_true, Bool.not_true, cond_false]
   exact txnS_loop m0 t hm0 ht ho v1 v4 v5 n (i + 1) _ _ _ _ _ (by omega) (by omega) (doM_mi hx hoi) (by simp only [List.length_append]; omega)
theorem p_spec_l10Txn (m : List D_Entry) (t : D_Txn) (hm : MI m) (ht : t.1.length ≤ 4) (ho : ∀ o ∈ t.1, OpM o) : c_spec_l10Txn R m t = some (txnM m t) := by
 have hq : c_spec_l10Txn R m t = _ := call (q_spec_l10Txn R L m t)
 have hq0 : lp_spec_l10Txn_0 R L m t t [] (0, ([], ())) m (0, ([], ())) 0 = _ := round (by kernel_rfl) (q_spec_l10Txn_0 R L m t t [] (0, ([], ())) m (0, ([], ())) 0)
 have hq1 : lp_spec_l10Txn_1 R L m t t [] (0, ([], ())) m (0, ([], ())) 0 [] [] 0 = _ := round (by kernel_rfl) (q_spec_l10Txn_1 R L m t t [] (0, ([], ())) m (0, ([], ())) 0 [] [] 0)
 rw [hq, hq0.trans hq1.symm]
 exact txnS_loop m t hm ht ho t [] (0, ([], ())) _ 0 m [] [] [] 0 rfl (Nat.zero_le _) hm (by simp)
theorem txnI_loop (m0 : List D_Entry) (t : D_Txn) (hm0 : MI m0) (ht : t.1.length ≤ 4) (ho : ∀ o ∈ t.1, OpM o) (v1 v3 : D_Txn) (v4 : List D_Entry) (v5 : D_Result) : ∀ (n i : Nat) (x : List D_Entry) (vs : List Int) (v9 : D_Op) (v10 : List D_Entry) (v11 : List Int) (v12 : Int),
  t.1.length - i = n → i ≤ t.1.length → MI x → vs.length ≤ 8 * i → lp_impl_doTxn_1 R L m0 v1 v3 v4 v5 x (0, (vs, ())) v9 v10 v11 v12 t.1 t.1.length i = some (txnGo m0 (t.1.drop i) x vs)
 | 0, i, x, vs, v9, v10, v11, v12, hn, hi, hx, hv => by
  have hq : lp_impl_doTxn_1 R L m0 v1 v3 v4 v5 x (0, (vs, ())) v9 v10 v11 v12 t.1 t.1.length i = _ := round (by kernel_rfl) (q_impl_doTxn_1 R L m0 v1 v3 v4 v5 x (0, (vs, ())) v9 v10 v11 v12 t.1 t.1.length i)
  rw [hq, lt_f (by omega), List.drop_eq_nil_of_le (by omega)]; rfl
 | n + 1, i, x, vs, v9, v10, v11, v12, hn, hi, hx, hv => by
  have hlt : i < t.1.length := by omega
  have hoi := ho _ (getD_mem (d := (0, (0, (0, ())))) hlt)
  have hout := doM_out (m := x) hoi
  have hq : lp_impl_doTxn_1 R L m0 v1 v3 v4 v5 x (0, (vs, ())) v9 v10 v11 v12 t.1 t.1.length i = _ := round (by kernel_rfl) (q_impl_doTxn_1 R L m0 v1 v3 v4 v5 x (0, (vs, ())) v9 v10 v11 v12 t.1 t.1.length i)
  rw [hq, lt_t hlt, nn, tn, blt_t hlt, p_impl_do x _ hx hoi, wrap_succ (by omega), drop_getD (d := (0, (0, (0, ())))) hlt]
  simp only [cond_true, Option.bind_some, eqI_iff]
  unfold txnGo
  cases decide ((doM x (t.1.getD i (0, (0, (0, ()))))).2.2.1 = 0) with
  | false => rfl
  | true =>
   rw [lenOK_t (by omega)]
   simp only [cond_true, Bool.not_true, cond_false]
   exact txnI_loop m0 t hm0 ht ho v1 v3 v4 v5 n (i + 1) _ _ _ _ _ _ (by omega) (by omega) (doM_mi hx hoi) (by simp only [List.length_append]; omega)
theorem p_impl_doTxn (m : List D_Entry) (t : D_Txn) (hm : MI m) (ht : t.1.length ≤ 4) (ho : ∀ o ∈ t.1, OpM o) : c_impl_doTxn R m t = some (txnM m t) := by
 have hq : c_impl_doTxn R m t = _ := call (q_impl_doTxn R L m t)
 have hq0 : lp_impl_doTxn_0 R L m t t [] (0, ([], ())) m (0, ([], ())) t.1 t.1.length 0 = _ := round (by kernel_rfl) (q_impl_doTxn_0 R L m t t [] (0, ([], ())) m (0, ([], ())) t.1 t.1.length 0)
 have hq1 : lp_impl_doTxn_1 R L m t t [] (0, ([], ())) m (0, ([], ())) (0, (0, (0, ()))) [] [] 0 t.1 t.1.length 0 = _ := round (by kernel_rfl) (q_impl_doTxn_1 R L m t t [] (0, ([], ())) m (0, ([], ())) (0, (0, (0, ()))) [] [] 0 t.1 t.1.length 0)
 rw [hq, hq0.trans hq1.symm]
 exact txnI_loop m t hm ht ho t t [] (0, ([], ())) _ 0 m [] _ [] [] 0 rfl (Nat.zero_le _) hm (by simp)
abbrev D_BR : Type := List D_Entry × (List D_Result × Unit)
structure TxB (t : D_Txn) : Prop where
 len : t.1.length ≤ 4
 ops : ∀ o ∈ t.1, OpM o
theorem txB {t : D_Txn} (h : txnOK t = true) : TxB t := by
 unfold txnOK at h
 rw [Bool.and_eq_true] at h
 have := inB_bounds h.1
 exact ⟨by omega, fun o ho => opM (List.all_eq_true.1 h.2 o ho)⟩
def batchGo : List D_Txn → List D_Entry → List D_Result → D_BR
 | [], m, rs => (m, (rs, ()))
 | t :: ts, m, rs => batchGo ts (txnM m t).1 (rs ++ [(txnM m t).2.1])
structure BO (r : D_BR) (n : Nat) : Prop where
 mi : MI r.1
 len : r.2.1.length ≤ n
 out : ∀ x ∈ r.2.1, x.2.1.length ≤ 32
theorem txnM_mi {m : List D_Entry} {t : D_Txn} (hm : MI m) (ht : TxB t) : MI (txnM m t).1 := txnGo_mi hm hm ht.ops
theorem txnM_out {m : List D_Entry} {t : D_Txn} (ht : TxB t) : (txnM m t).2.1.2.1.length ≤ 32 := by
 have := txnGo_out (m0 := m) (x := m) (vs := []) ht.ops
 have := ht.len
 unfold txnM
 simp only [List.length_nil] at *; omega
theorem batchGo_ok : ∀ {ts : List D_Txn} {m : List D_Entry} {rs : List D_Result}, (∀ t ∈ ts, TxB t) → MI m → (∀ x ∈ rs, x.2.1.length ≤ 32) → BO (batchGo ts m rs) (rs.length + ts.length)
 | [], m, rs, _, hm, hr => ⟨hm, by simp [batchGo], hr⟩
 | t :: ts, m, rs, ht, hm, hr => by
  have := batchGo_ok (ts := ts) (m := (txnM m t).1) (rs := rs ++ [(txnM m t).2.1]) (fun x hx => ht x (by simp [hx])) (txnM_mi hm (ht t (by simp))) (fun x hx => by
   rcases List.mem_append.1 hx with hx | hx
   ·exact hr x hx
   ·have := txnM_out (m := m) (ht t (by simp))
    simp only [List.mem_cons, List.not_mem_nil, or_false] at hx
    rw [hx]; exact this)
  refine ⟨this.mi, ?_, this.out⟩
  have h2 := this.len
  simp only [List.length_append, List.length_cons, List.length_nil] at h2 ⊢
  unfold batchGo; omega
theorem batS_loop (l : List D_Txn) (hl : l.length ≤ 2) (ht : ∀ t ∈ l, TxB t) (v4 : List D_Entry) (v5 : List D_Result) : ∀ (n i : Nat) (m : List D_Entry) (rs : List D_Result) (v8 : List D_Entry) (v9 : D_Result),
  l.length - i = n → i ≤ l.length → MI m → rs.length = i → lp_spec_l10Batch_1 R L m l v4 v5 rs i v8 v9 = some (batchGo (l.drop i) m rs)
 | 0, i, m, rs, v8, v9, hn, hi, hm, hr => by
  have hq : lp_spec_l10Batch_1 R L m l v4 v5 rs i v8 v9 = _ := round (by kernel_rfl) (q_spec_l10Batch_1 R L m l v4 v5 rs i v8 v9)
  rw [hq, lt_f (by omega), List.drop_eq_nil_of_le (by omega)]; rfl
 | n + 1, i, m, rs, v8, v9, hn, hi, hm, hr => by
  have hlt : i < l.length := by omega
  have hti := ht _ (getD_mem (d := ([], ())) hlt)
  have hq : lp_spec_l10Batch_1 R L m l v4 v5 rs i v8 v9 = _ := round (by kernel_rfl) (q_spec_l10Batch_1 R L m l v4 v5 rs i v8 v9)
  rw [hq, lt_t hlt, nn, tn, blt_t hlt, p_spec_l10Txn m _ hm hti.len hti.ops, wrap_succ (by omega), drop_getD (d := ([], ())) hlt]
  simp only [cond_true, Option.bind_some]
  rw [lenOK_t (by simp only [List.length_cons, List.length_nil]; omega)]
  simp only [cond_true]
  exact batS_loop l hl ht v4 v5 n (i + 1) _ _ _ _ (by omega) (by omega) (txnM_mi hm hti) (by simp only [List.length_append, List.length_cons, List.length_nil]; omega)
theorem p_spec_l10Batch (m : List D_Entry) (l : List D_Txn) (hm : MI m) (hl : l.length ≤ 2) (ht : ∀ t ∈ l, TxB t) : c_spec_l10Batch R m l = some (batchGo l m []) := by
 have hq : c_spec_l10Batch R m l = _ := call (q_spec_l10Batch R L m l)
 have hq0 : lp_spec_l10Batch_0 R L m l [] [] [] 0 = _ := round (by kernel_rfl) (q_spec_l10Batch_0 R L m l [] [] [] 0)
 have hq1 : lp_spec_l10Batch_1 R L m l [] [] [] 0 [] (0, ([], ())) = _ := round (by kernel_rfl) (q_spec_l10Batch_1 R L m l [] [] [] 0 [] (0, ([], ())))
 rw [hq, hq0.trans hq1.symm]
 exact batS_loop l hl ht [] [] _ 0 m [] _ _ rfl (Nat.zero_le _) hm rfl
abbrev D_MB : Type := List D_Entry × (List D_Result × (Int × Unit))
def mapBatch (m : List D_Entry) (l : List D_Txn) : D_MB :=
 cond (decide (4096 < m.length) || decide (4096 < l.length)) ([], ([], (2, ())))
 (cond (mapOK m && batchOK l) ((batchGo l m []).1, ((batchGo l m []).2.1, (0, ()))) ([], ([], (1, ()))))
structure MBO (r : D_MB) : Prop where
 len : r.1.length ≤ 11
 rlen : r.2.1.length ≤ 2
 out : ∀ x ∈ r.2.1, x.2.1.length ≤ 32
theorem batch_tx {l : List D_Txn} (h : batchOK l = true) : l.length ≤ 2 ∧ ∀ t ∈ l, TxB t := by
 unfold batchOK at h
 rw [Bool.and_eq_true] at h
 have := inB_bounds h.1
 exact ⟨by omega, fun t ht => txB (List.all_eq_true.1 h.2 t ht)⟩
theorem mapBatch_ok (m : List D_Entry) (l : List D_Txn) : MBO (mapBatch m l) := by
 unfold mapBatch
 cases decide (4096 < m.length) || decide (4096 < l.length) with
 | true => exact ⟨by simp, by simp, by simp⟩
 | false =>
  cases h : mapOK m && batchOK l with
  | false => exact ⟨by simp, by simp, by simp⟩
  | true =>
   rw [Bool.and_eq_true] at h
   obtain ⟨h1, h2⟩ := batch_tx h.2
   have := batchGo_ok (m := m) (rs := []) h2 (mi_of h.1) (by simp)
   have hl := this.len
   simp only [List.length_nil] at hl
   exact ⟨this.mi.len, by simp only [cond_false, cond_true]; omega, this.out⟩
theorem gt4 (n : Nat) : decide ((4096 : Int) < (n : Int)) = decide (4096 < n) := decide_eq_decide.2 (by omega)
end Go.Rf.S

end
section
namespace Go.Rf.S
set_option maxRecDepth 100000
set_option linter.unusedVariables false
set_option linter.unusedSimpArgs false
theorem dT {p : Prop} [Decidable p] (h : p) : decide p = true := decide_eq_true h
theorem dF {p : Prop} [Decidable p] (h : ¬ p) : decide p = false := decide_eq_false h
abbrev DS : Type := List Int × (Int × (Int × Unit))
structure SrcOK (n : Nat) (s : DS) : Prop where
 b : ∀ x ∈ s.1, 0 ≤ x ∧ x ≤ 255
 l : s.1.length ≤ 1048576
 a0 : 0 ≤ s.2.1
 a1 : s.2.1 ≤ n
 s0 : 0 ≤ s.2.2.1
 s1 : s.2.2.1 < 2147483648
theorem src_byte {n : Nat} {s : DS} (h : SrcOK n s) (hn : n ≤ 1099511627776) : ∃ (b : Int) (s' : DS), c_pspec_l00Src_byte R s = some (b, (s', ())) ∧ SrcOK (n + 1) s' ∧ 0 ≤ b ∧ b ≤ 255 := by
 obtain ⟨h1, h2, h3, h4, h5, h6⟩ := h
 obtain ⟨c, at_, sd, u⟩ := s
 simp only at h1 h2 h3 h4 h5 h6
 obtain ⟨k, rfl⟩ := Int.eq_ofNat_of_zero_le h3
 have hk : k ≤ n := by omega
 rw [show c_pspec_l00Src_byte R (c, ((k : Int), (sd, u))) = _ from call (q_pspec_l00Src_byte R L (c, ((k : Int), (sd, u))))]
 simp only [wrap_succ (show k < 9223372036854775807 by omega)]
 have e1 : IntKind.wrap .i64 (((k + 1 : Nat) : Int) - 1) = (k : Int) := by rw [wrap_id (by omega) (by omega)]; omega
 simp only [e1, nn, tn, cond_true]
 by_cases hc : k + 1 ≤ c.length
 ·obtain ⟨x0, x1⟩ := h1 _ (getD_mem (d := (0 : Int)) (show k < c.length by omega))
  rw [dT (show ((k + 1 : Nat) : Int) ≤ (c.length : Int) by omega), blt_t (show k < c.length by omega)]
  simp only [cond_true]
  generalize c.getD k 0 = x at x0 x1
  have w1 : IntKind.wrap .i64 (sd * 31) = sd * 31 := wrap_id (by omega) (by omega)
  have w2 : IntKind.wrap .i64 x = x := wrap_id (by omega) (by omega)
  rw [w1, w2]
  have w3 : IntKind.wrap .i64 (sd * 31 + x) = sd * 31 + x := wrap_id (by omega) (by omega)
  rw [w3]
  have w4 : IntKind.wrap .i64 (sd * 31 + x + 7) = sd * 31 + x + 7 := wrap_id (by omega) (by omega)
  rw [w4, Int.tmod_eq_emod_of_nonneg (by omega)]
  exact ⟨_, _, rfl, ⟨h1, h2, by show (0 : Int) ≤ ((k + 1 : Nat) : Int); omega, by show ((k + 1 : Nat) : Int) ≤ ((n + 1 : Nat) : Int); omega, by show 0 ≤ (sd * 31 + x + 7) % 2147483648; omega, by show (sd * 31 + x + 7) % 2147483648 < _; omega⟩, x0, x1⟩
 ·rw [dF (show ¬ ((k + 1 : Nat) : Int) ≤ (c.length : Int) by omega)]
  simp only [cond_false]
  by_cases h3 : (3000 : Int) < ((k + 1 : Nat) : Int)
  ·rw [dT h3]
   exact ⟨_, _, rfl, ⟨h1, h2, by show (0 : Int) ≤ ((k + 1 : Nat) : Int); omega, by show ((k + 1 : Nat) : Int) ≤ ((n + 1 : Nat) : Int); omega, h5, h6⟩, by decide, by decide⟩
  ·rw [dF h3]
   simp only [cond_false]
   have w1 : IntKind.wrap .i64 (sd * 1103515245) = sd * 1103515245 := wrap_id (by omega) (by omega)
   rw [w1]
   have w2 : IntKind.wrap .i64 (sd * 1103515245 + 12345) = sd * 1103515245 + 12345 := wrap_id (by omega) (by omega)
   rw [w2, show Int.tmod (sd * 1103515245 + 12345) 2147483648 = (sd * 1103515245 + 12345) % 2147483648 from Int.tmod_eq_emod_of_nonneg (by omega)]
   obtain ⟨y, hy⟩ : ∃ y, y = (sd * 1103515245 + 12345) % 2147483648 := ⟨_, rfl⟩
   have y0 : 0 ≤ y := by omega
   have y1 : y < 2147483648 := by omega
   rw [← hy]
   have w3 : IntKind.wrap .i64 (Int.tdiv y 65536) = y / 65536 := by rw [Int.tdiv_eq_ediv_of_nonneg y0, wrap_id (by omega) (by omega)]
   rw [w3, Int.tmod_eq_emod_of_nonneg (by omega)]
   exact ⟨_, _, rfl, ⟨h1, h2, by show (0 : Int) ≤ ((k + 1 : Nat) : Int); omega, by show ((k + 1 : Nat) : Int) ≤ ((n + 1 : Nat) : Int); omega, y0, y1⟩, by omega, by omega⟩
theorem src_next {n : Nat} {s : DS} (h : SrcOK n s) (hn : n ≤ 1099511627776) (m : Nat) (hm : 2 ≤ m) (hm2 : m ≤ 256) : ∃ (b : Int) (s' : DS), c_pspec_l00Src_next R s (m : Int) = some (b, (s', ())) ∧ SrcOK (n + 1) s' ∧ 0 ≤ b ∧ b < m := by
 obtain ⟨b, s', e, hs, b0, b1⟩ := src_byte h hn
 rw [show c_pspec_l00Src_next R s (m : Int) = _ from call (q_pspec_l00Src_next R L s (m : Int)), dF (show ¬ (m : Int) ≤ 1 by omega), dT (show (m : Int) ≤ 256 by omega), e]
 simp only [Option.bind_some, eqI_iff]
 rw [dF (show ¬ (m : Int) = 0 by omega), Int.tmod_eq_emod_of_nonneg b0]
 exact ⟨_, _, rfl, hs, Int.emod_nonneg _ (by omega), Int.emod_lt_of_pos _ (by omega)⟩
def BytesOK (c : List Int) : Prop := (∀ x ∈ c, 0 ≤ x ∧ x ≤ 255) ∧ c.length ≤ 1048576
theorem src_of {c : List Int} (h : BytesOK c) : ∃ s : DS, c_spec_l00Source R c = some (s, ()) ∧ SrcOK 0 s := by
 rw [show c_spec_l00Source R c = _ from call (q_spec_l00Source R L c)]
 have e : Int.tmod ((c.length : Nat) : Int) 1000 = ((c.length % 1000 : Nat) : Int) := rfl
 rw [e]
 exact ⟨_, rfl, h.1, h.2, by show (0 : Int) ≤ 0; omega, by show (0 : Int) ≤ _; omega, by show (0 : Int) ≤ ((c.length % 1000 : Nat) : Int); omega, by show ((c.length % 1000 : Nat) : Int) < _; omega⟩
theorem bytes_fine {c : List Int} (h : Fine (.sl (.int .u8)) c) (hl : c.length ≤ 1048576) : BytesOK c := ⟨fun x hx => by
 have := fine_mem h x hx
 have h2 : (Lit.int .u8 x).wf = true := this
 have h3 : IntKind.u8.min ≤ x ∧ x ≤ IntKind.u8.max := by simpa [Lit.wf] using h2
 exact h3, hl⟩
theorem SrcOK.mono {n m : Nat} {s : DS} (h : SrcOK n s) (hm : n ≤ m) : SrcOK m s := ⟨h.b, h.l, h.a0, by have := h.a1; omega, h.s0, h.s1⟩
def OpK (o : D_Op) : Prop := opOK o = true ∧ o.2.1 ≤ 14
theorem opK_of {k b v : Int} (hk : 1 ≤ k ∧ k ≤ 6) (hb : 0 ≤ b ∧ b < 14) (h0 : k = 1 ∨ k = 3 → v = 0) (h6 : k = 6 → 1 ≤ v ∧ v ≤ 4) (hv : 0 ≤ v ∧ v ≤ 999999) : OpK (k, (1 + b, (v, ()))) := by
 refine ⟨?_, by show 1 + b ≤ 14; omega⟩
 unfold opOK inB
 by_cases h1 : k = 1 ∨ k = 3
 ·have := h0 h1
  rw [show (decide (k = 1) || decide (k = 3)) = true by simpa using h1]
  simp only [cond_true, Bool.and_eq_true, decide_eq_true_eq]
  omega
 ·rw [show (decide (k = 1) || decide (k = 3)) = false by simpa using h1]
  by_cases h2 : k = 6
  ·have := h6 h2
   rw [decide_eq_true h2]
   simp only [cond_true, cond_false, Bool.and_eq_true, decide_eq_true_eq]
   omega
  ·rw [decide_eq_false h2]
   simp only [cond_false, Bool.and_eq_true, decide_eq_true_eq]
   omega
theorem src_op {n : Nat} {s : DS} (h : SrcOK n s) (hn : n + 5 ≤ 1099511627776) : ∃ (o : D_Op) (s' : DS), c_pspec_l00Src_op R s = some (o, (s', ())) ∧ SrcOK (n + 5) s' ∧ OpK o := by
 obtain ⟨b0, s1, e0, h1, p0, q0⟩ := src_next h (by omega) 6 (by decide) (by decide)
 obtain ⟨b1, s2, e1, h2, p1, q1⟩ := src_next h1 (by omega) 3 (by decide) (by decide)
 obtain ⟨b2, s3, e2, h3, p2, q2⟩ := src_next h2 (by omega) 14 (by decide) (by decide)
 have e0 : c_pspec_l00Src_next R s 6 = some (b0, (s1, ())) := e0
 have e1 : c_pspec_l00Src_next R s1 3 = some (b1, (s2, ())) := e1
 have e2 : c_pspec_l00Src_next R s2 14 = some (b2, (s3, ())) := e2
 rw [show c_pspec_l00Src_op R s = _ from call (q_pspec_l00Src_op R L s), e0]
 simp only [Option.bind_some]
 rw [e1]
 simp only [Option.bind_some]
 obtain ⟨j, rfl⟩ := Int.eq_ofNat_of_zero_le p1
 have hj : j < 3 := by omega
 simp only [nn, tn, cond_true, List.length_cons, List.length_nil]
 rw [blt_t hj, e2]
 simp only [Option.bind_some, cond_true]
 rw [wrap_id (n := 1 + b2) (by omega) (by omega), wrap_id (n := 1 + b0) (by omega) (by omega)]
 obtain ⟨k, hk⟩ : ∃ k, k = List.getD [(2 : Int), 2, 1 + b0] j 0 := ⟨_, rfl⟩
 have hk1 : 1 ≤ k ∧ k ≤ 6 := by
  have : j = 0 ∨ j = 1 ∨ j = 2 := by omega
  rcases this with rfl | rfl | rfl
  ·rw [hk]; show (1 : Int) ≤ 2 ∧ (2 : Int) ≤ 6; decide
  ·rw [hk]; show (1 : Int) ≤ 2 ∧ (2 : Int) ≤ 6; decide
  ·rw [hk]; show (1 : Int) ≤ 1 + b0 ∧ 1 + b0 ≤ 6; omega
 rw [← hk]
 simp only [eqI_iff]
 by_cases k1 : k = 1
 ·rw [dT k1]
  exact ⟨_, _, rfl, h3.mono (by omega), opK_of hk1 ⟨p2, q2⟩ (fun _ => rfl) (fun h => by omega) ⟨by decide, by decide⟩⟩
 rw [dF k1]
 by_cases k3 : k = 3
 ·rw [dT k3]
  exact ⟨_, _, rfl, h3.mono (by omega), opK_of hk1 ⟨p2, q2⟩ (fun _ => rfl) (fun h => by omega) ⟨by decide, by decide⟩⟩
 rw [dF k3]
 by_cases k6 : k = 6
 ·obtain ⟨b3, s4, e3, h4, p3, q3⟩ := src_next h3 (by omega) 4 (by decide) (by decide)
  have e3 : c_pspec_l00Src_next R s3 4 = some (b3, (s4, ())) := e3
  rw [dT k6, e3]
  simp only [Option.bind_some, cond_true, cond_false]
  rw [wrap_id (n := 1 + b3) (by omega) (by omega)]
  exact ⟨_, _, rfl, h4.mono (by omega), opK_of hk1 ⟨p2, q2⟩ (fun h => by omega) (fun _ => by omega) ⟨by omega, by omega⟩⟩
 rw [dF k6]
 by_cases k5 : k = 5
 ·obtain ⟨b3, s4, e3, h4, p3, q3⟩ := src_next h3 (by omega) 5 (by decide) (by decide)
  obtain ⟨b4, s5, e4, h5, p4, q4⟩ := src_next h4 (by omega) 9 (by decide) (by decide)
  have e3 : c_pspec_l00Src_next R s3 5 = some (b3, (s4, ())) := e3
  have e4 : c_pspec_l00Src_next R s4 9 = some (b4, (s5, ())) := e4
  rw [dT k5, e3]
  simp only [Option.bind_some, cond_true, cond_false]
  rw [e4]
  simp only [Option.bind_some]
  obtain ⟨i, hi⟩ : ∃ i : Nat, IntKind.wrap .i64 (Int.tdiv b4 8) = (i : Int) ∧ i < 2 := ⟨(b4 / 8).toNat, by
   rw [Int.tdiv_eq_ediv_of_nonneg p4, wrap_id (by omega) (by omega)]; omega, by omega⟩
  rw [hi.1]
  simp only [nn, tn, cond_true]
  rw [blt_t hi.2]
  refine ⟨_, _, rfl, h5.mono (by omega), opK_of hk1 ⟨p2, q2⟩ (fun h => by omega) (fun h => by omega) ?_⟩
  have : i = 0 ∨ i = 1 := by omega
  rcases this with rfl | rfl
  ·show 0 ≤ b3 ∧ b3 ≤ 999999; omega
  ·show (0 : Int) ≤ 999999 ∧ (999999 : Int) ≤ 999999; decide
 ·obtain ⟨b3, s4, e3, h4, p3, q3⟩ := src_next h3 (by omega) 4 (by decide) (by decide)
  have e3 : c_pspec_l00Src_next R s3 4 = some (b3, (s4, ())) := e3
  rw [dF k5, e3]
  simp only [Option.bind_some, cond_true, cond_false]
  exact ⟨_, _, rfl, h4.mono (by omega), opK_of hk1 ⟨p2, q2⟩ (fun h => by omega) (fun h => by omega) ⟨by omega, by omega⟩⟩
def TxK (t : D_Txn) : Prop := (1 ≤ t.1.length ∧ t.1.length ≤ 4) ∧ ∀ o ∈ t.1, OpK o
def BaK (l : List D_Txn) : Prop := (1 ≤ l.length ∧ l.length ≤ 2) ∧ ∀ t ∈ l, TxK t
theorem src_batch1 (v3 : List D_Txn) (v4 : Int) (hl : v3.length ≤ 2) : ∀ (c : Nat) (n : Nat) (s : DS) (ops : List D_Op), n + 5 * c ≤ 1099511627776 → SrcOK n s → ops.length + c ≤ 4 → 1 ≤ ops.length + c → (∀ o ∈ ops, OpK o) →
  ∃ (t : D_Txn) (s' : DS), lp_pspec_l00Src_batch_1 R L s v3 v4 (ops, ()) (c : Int) = lp_pspec_l00Src_batch_0 R L s' (v3 ++ [t]) (IntKind.wrap .i64 (v4 - 1)) ∧ SrcOK (n + 5 * c) s' ∧ TxK t
 | 0, n, s, ops, hn, hs, ho, ho1, hops => by
  rw [show lp_pspec_l00Src_batch_1 R L s v3 v4 (ops, ()) (0 : Nat) = _ from round (by kernel_rfl) (q_pspec_l00Src_batch_1 R L s v3 v4 (ops, ()) (0 : Nat)), dF (show ¬ (0 : Int) < ((0 : Nat) : Int) by omega), lenOK_t (by show v3.length + 1 ≤ _; omega)]
  exact ⟨(ops, ()), s, rfl, hs, ⟨by show 1 ≤ ops.length; omega, by show ops.length ≤ 4; omega⟩, hops⟩
 | c + 1, n, s, ops, hn, hs, ho, ho1, hops => by
  obtain ⟨o, s1, e, h1, hk⟩ := src_op hs (by omega)
  rw [show lp_pspec_l00Src_batch_1 R L s v3 v4 (ops, ()) (c + 1 : Nat) = _ from round (by kernel_rfl) (q_pspec_l00Src_batch_1 R L s v3 v4 (ops, ()) (c + 1 : Nat)), dT (show (0 : Int) < ((c + 1 : Nat) : Int) by omega), e]
  simp only [Option.bind_some, cond_true]
  rw [lenOK_t (by show ops.length + 1 ≤ _; omega), show IntKind.wrap .i64 (((c + 1 : Nat) : Int) - 1) = (c : Int) by rw [wrap_id (by omega) (by omega)]; omega]
  obtain ⟨t, s', e2, h2, h3⟩ := src_batch1 v3 v4 hl c (n + 5) s1 (ops ++ [o]) (by omega) h1 (by rw [List.length_append]; simp only [List.length_cons, List.length_nil]; omega) (by rw [List.length_append]; simp only [List.length_cons, List.length_nil]; omega) (fun x hx => by
   rcases List.mem_append.1 hx with hx | hx
   ·exact hops x hx
   ·rw [List.mem_singleton.1 hx]; exact hk)
  exact ⟨t, s', e2, by rw [show n + 5 * (c + 1) = n + 5 + 5 * c by omega]; exact h2, h3⟩
theorem src_batch0 : ∀ (c : Nat) (n : Nat) (s : DS) (l : List D_Txn), n + 21 * c ≤ 1099511627776 → SrcOK n s → l.length + c ≤ 2 → 1 ≤ l.length + c → (∀ t ∈ l, TxK t) →
  ∃ (l' : List D_Txn) (s' : DS), lp_pspec_l00Src_batch_0 R L s l (c : Int) = some (l', (s', ())) ∧ SrcOK (n + 21 * c) s' ∧ BaK l'
 | 0, n, s, l, hn, hs, hl, hl1, ht => by
  rw [show lp_pspec_l00Src_batch_0 R L s l (0 : Nat) = _ from round (by kernel_rfl) (q_pspec_l00Src_batch_0 R L s l (0 : Nat)), dF (show ¬ (0 : Int) < ((0 : Nat) : Int) by omega)]
  exact ⟨l, s, rfl, hs, ⟨by omega, by omega⟩, ht⟩
 | c + 1, n, s, l, hn, hs, hl, hl1, ht => by
  obtain ⟨b, s1, e, h1, p, q⟩ := src_next hs (by omega) 4 (by decide) (by decide)
  have e : c_pspec_l00Src_next R s 4 = some (b, (s1, ())) := e
  rw [show lp_pspec_l00Src_batch_0 R L s l (c + 1 : Nat) = _ from round (by kernel_rfl) (q_pspec_l00Src_batch_0 R L s l (c + 1 : Nat)), dT (show (0 : Int) < ((c + 1 : Nat) : Int) by omega), e]
  simp only [Option.bind_some, cond_true]
  rw [show IntKind.wrap .i64 (1 + b) = ((b.toNat + 1 : Nat) : Int) by rw [wrap_id (by omega) (by omega)]; omega]
  obtain ⟨t, s2, e2, h2, h3⟩ := src_batch1 l ((c + 1 : Nat) : Int) (by omega) (b.toNat + 1) (n + 1) s1 [] (by omega) h1 (by simp only [List.length_nil]; omega) (by omega) (fun x hx => by cases hx)
  rw [e2, show IntKind.wrap .i64 (((c + 1 : Nat) : Int) - 1) = (c : Int) by rw [wrap_id (by omega) (by omega)]; omega]
  obtain ⟨l', s', e3, h4, h5⟩ := src_batch0 c (n + 21) s2 (l ++ [t]) (by omega) (h2.mono (by omega)) (by rw [List.length_append]; simp only [List.length_cons, List.length_nil]; omega) (by rw [List.length_append]; simp only [List.length_cons, List.length_nil]; omega) (fun x hx => by
   rcases List.mem_append.1 hx with hx | hx
   ·exact ht x hx
   ·rw [List.mem_singleton.1 hx]; exact h3)
  exact ⟨l', s', e3, by rw [show n + 21 * (c + 1) = n + 21 + 21 * c by omega]; exact h4, h5⟩
theorem src_batch {n : Nat} {s : DS} (h : SrcOK n s) (hn : n + 43 ≤ 1099511627776) : ∃ (l : List D_Txn) (s' : DS), c_pspec_l00Src_batch R s = some (l, (s', ())) ∧ SrcOK (n + 43) s' ∧ BaK l := by
 obtain ⟨b, s1, e, h1, p, q⟩ := src_next h (by omega) 2 (by decide) (by decide)
 have e : c_pspec_l00Src_next R s 2 = some (b, (s1, ())) := e
 rw [show c_pspec_l00Src_batch R s = _ from call (q_pspec_l00Src_batch R L s), e]
 simp only [Option.bind_some]
 rw [show IntKind.wrap .i64 (1 + b) = ((b.toNat + 1 : Nat) : Int) by rw [wrap_id (by omega) (by omega)]; omega]
 obtain ⟨l, s', e2, h2, h3⟩ := src_batch0 (b.toNat + 1) (n + 1) s1 [] (by omega) h1 (by simp only [List.length_nil]; omega) (by omega) (fun x hx => by cases hx)
 exact ⟨l, s', e2, h2.mono (by omega), h3⟩
def K14 (m : List D_Entry) : Prop := ∀ e ∈ m, e.1 ≤ 14
theorem putM_k14 {m : List D_Entry} {key v : Int} (h : K14 m) (hk : key ≤ 14) : K14 (putM m key v) := fun e he => by
 unfold putM at he
 rcases List.mem_append.1 he with he | he
 ·exact h e (List.mem_of_mem_take he)
 ·rcases List.mem_cons.1 he with rfl | he
  ·exact hk
  ·exact h e (List.mem_of_mem_drop he)
theorem dropM_k14 {m : List D_Entry} {key : Int} (h : K14 m) : K14 (dropM m key) := fun e he => by
 unfold dropM at he
 cases hf : fnd key m with
 | false => rw [hf] at he; exact h e he
 | true =>
  rw [hf] at he
  rcases List.mem_append.1 he with he | he
  ·exact h e (List.mem_of_mem_take he)
  ·exact h e (List.mem_of_mem_drop he)
theorem doM_k14 {m : List D_Entry} {o : D_Op} (h : K14 m) (hk : o.2.1 ≤ 14) : K14 (doM m o).1 := by
 unfold doM
 cases decide (o.1 = 1) with
 | true => exact h
 | false =>
  cases decide (o.1 = 3) with
  | true => exact dropM_k14 h
  | false =>
   cases decide (o.1 = 4) with
   | true => exact h
   | false =>
    cases decide (o.1 = 6) with
    | true => exact h
    | false =>
     cases fullM m o.2.1 with
     | true => exact h
     | false =>
      cases decide (o.1 = 2) with
      | true => exact putM_k14 h hk
      | false =>
       cases decide (999999 < valM m o.2.1 + o.2.2.1) with
       | true => exact h
       | false => exact putM_k14 h hk
theorem txnGo_k14 {m0 : List D_Entry} (h0 : K14 m0) : ∀ {os : List D_Op} {x : List D_Entry} {vs : List Int}, K14 x → (∀ o ∈ os, OpK o) → K14 (txnGo m0 os x vs).1
 | [], x, vs, hx, _ => hx
 | o :: os, x, vs, hx, ho => by
  unfold txnGo
  cases decide ((doM x o).2.2.1 = 0) with
  | true => exact txnGo_k14 h0 (doM_k14 hx (ho o (by simp)).2) fun p hp => ho p (by simp [hp])
  | false => exact h0
theorem TxK.b {t : D_Txn} (h : TxK t) : TxB t := ⟨h.1.2, fun o ho => opM (h.2 o ho).1⟩
theorem TxK.ok {t : D_Txn} (h : TxK t) : txnOK t = true := by
 unfold txnOK inB
 simp only [Bool.and_eq_true, decide_eq_true_eq]
 exact ⟨⟨by have := h.1.1; omega, by have := h.1.2; omega⟩, List.all_eq_true.2 fun o ho => (h.2 o ho).1⟩
theorem batchGo_k14 : ∀ {ts : List D_Txn} {m : List D_Entry} {rs : List D_Result}, (∀ t ∈ ts, TxK t) → K14 m → K14 (batchGo ts m rs).1
 | [], m, rs, _, hm => hm
 | t :: ts, m, rs, ht, hm => batchGo_k14 (ts := ts) (fun x hx => ht x (by simp [hx])) (txnGo_k14 hm hm (ht t (by simp)).2)
theorem src_ents1 : ∀ (c : Nat) (n : Nat) (s : DS) (m : List D_Entry), n + 43 * c ≤ 1099511627776 → SrcOK n s → c ≤ 10 → MI m → K14 m →
  ∃ (m' : List D_Entry) (s' : DS), lp_pspec_l00Src_entries_1 R L s m (c : Int) = some (m', (s', ())) ∧ SrcOK (n + 43 * c) s' ∧ MI m' ∧ K14 m'
 | 0, n, s, m, hn, hs, hc, hm, hk => by
  rw [show lp_pspec_l00Src_entries_1 R L s m (0 : Nat) = _ from round (by kernel_rfl) (q_pspec_l00Src_entries_1 R L s m (0 : Nat)), dF (show ¬ (0 : Int) < ((0 : Nat) : Int) by omega)]
  exact ⟨m, s, rfl, hs, hm, hk⟩
 | c + 1, n, s, m, hn, hs, hc, hm, hk => by
  obtain ⟨l, s1, e, h1, hb⟩ := src_batch hs (by omega)
  rw [show lp_pspec_l00Src_entries_1 R L s m (c + 1 : Nat) = _ from round (by kernel_rfl) (q_pspec_l00Src_entries_1 R L s m (c + 1 : Nat)), dT (show (0 : Int) < ((c + 1 : Nat) : Int) by omega), e]
  simp only [Option.bind_some, cond_true]
  have hb2 := batchGo_ok (ts := l) (m := m) (rs := []) (fun t ht => (hb.2 t ht).b) hm (fun x hx => by cases hx)
  rw [p_spec_l10Batch m l hm hb.1.2 fun t ht => (hb.2 t ht).b]
  simp only [Option.bind_some]
  rw [show IntKind.wrap .i64 (((c + 1 : Nat) : Int) - 1) = (c : Int) by rw [wrap_id (by omega) (by omega)]; omega]
  obtain ⟨m', s', e2, h2, h3, h4⟩ := src_ents1 c (n + 43) s1 (batchGo l m []).1 (by omega) h1 (by omega) hb2.mi (batchGo_k14 hb.2 hk)
  exact ⟨m', s', e2, by rw [show n + 43 * (c + 1) = n + 43 + 43 * c by omega]; exact h2, h3, h4⟩
theorem mi_nil : MI ([] : List D_Entry) := mi_of (by decide)
theorem src_ents {n : Nat} {s : DS} (h : SrcOK n s) (hn : n + 1000 ≤ 1099511627776) : ∃ (m : List D_Entry) (s' : DS), c_pspec_l00Src_entries R s = some (m, (s', ())) ∧ MI m ∧ K14 m := by
 obtain ⟨b, s1, e, h1, p, q⟩ := src_next h (by omega) 9 (by decide) (by decide)
 have e : c_pspec_l00Src_next R s 9 = some (b, (s1, ())) := e
 rw [show c_pspec_l00Src_entries R s = _ from call (q_pspec_l00Src_entries R L s), e]
 simp only [Option.bind_some]
 obtain ⟨c, rfl⟩ := Int.eq_ofNat_of_zero_le p
 have e0 : lp_pspec_l00Src_entries_0 R L s1 [] (c : Int) = lp_pspec_l00Src_entries_1 R L s1 [] (c : Int) :=
  (round (by kernel_rfl) (q_pspec_l00Src_entries_0 R L s1 [] (c : Int))).trans (round (by kernel_rfl) (q_pspec_l00Src_entries_1 R L s1 [] (c : Int))).symm
 rw [e0]
 obtain ⟨m', s', e2, h2, h3, h4⟩ := src_ents1 c (n + 1) s1 [] (by omega) h1 (by omega) mi_nil (fun e he => by cases he)
 exact ⟨m', s', e2, h3, h4⟩
theorem ents_of {c : List Int} (h : BytesOK c) : ∃ m : List D_Entry, c_spec_EntriesOf R c = some (m, ()) ∧ MI m ∧ K14 m := by
 obtain ⟨s, e, hs⟩ := src_of h
 obtain ⟨m, s', e2, h2, h3⟩ := src_ents hs (by omega)
 rw [show c_spec_EntriesOf R c = _ from call (q_spec_EntriesOf R L c), e]
 simp only [Option.bind_some]
 rw [e2]
 exact ⟨m, rfl, h2, h3⟩
theorem batch_of {c : List Int} (h : BytesOK c) : ∃ l : List D_Txn, c_spec_BatchOf R c = some (l, ()) ∧ BaK l := by
 obtain ⟨s, e, hs⟩ := src_of h
 obtain ⟨l, s', e2, h2, h3⟩ := src_batch hs (by omega)
 rw [show c_spec_BatchOf R c = _ from call (q_spec_BatchOf R L c), e]
 simp only [Option.bind_some]
 rw [e2]
 exact ⟨l, rfl, h3⟩
end Go.Rf.S

end
section
namespace Go.Rf.S
set_option maxRecDepth 100000
set_option linter.unusedVariables false
set_option linter.unusedSimpArgs false
def dig (n : Nat) : List UInt8 := if n < 10 then [UInt8.ofNat (48 + n)] else dig (n / 10) ++ [UInt8.ofNat (48 + n % 10)]
termination_by n
decreasing_by omega
theorem dig_lt {n : Nat} (h : n < 10) : dig n = [UInt8.ofNat (48 + n)] := by rw [dig]; rw [if_pos h]
theorem dig_ge {n : Nat} (h : ¬ n < 10) : dig n = dig (n / 10) ++ [UInt8.ofNat (48 + n % 10)] := by rw [dig]; rw [if_neg h]
theorem dig_len : ∀ (k n : Nat), n < 10 ^ (k + 1) → (dig n).length ≤ k + 1
 | 0, n, h => by rw [dig_lt (by simpa using h)]; simp
 | k + 1, n, h => by
  by_cases hn : n < 10
  ·rw [dig_lt hn]; simp
  ·rw [dig_ge hn, List.length_append]
   have := dig_len k (n / 10) (by rw [Nat.pow_succ] at h; omega)
   simp; omega
theorem dig_pos (n : Nat) : 0 < (dig n).length := by
 by_cases h : n < 10
 ·rw [dig_lt h]; simp
 ·rw [dig_ge h]; simp
theorem dig_mem : ∀ (k n : Nat), n < 10 ^ (k + 1) → ∀ c ∈ dig n, 48 ≤ c.toNat ∧ c.toNat ≤ 57
 | 0, n, h, c, hc => by
  have hn : n < 10 := by simpa using h
  rw [dig_lt hn] at hc
  simp only [List.mem_singleton] at hc
  subst hc
  rw [UInt8.toNat_ofNat']
  omega
 | k + 1, n, h, c, hc => by
  by_cases hn : n < 10
  ·rw [dig_lt hn] at hc
   simp only [List.mem_singleton] at hc
   subst hc
   rw [UInt8.toNat_ofNat']
   omega
  ·rw [dig_ge hn] at hc
   rcases List.mem_append.1 hc with hc | hc
   ·exact dig_mem k (n / 10) (by rw [Nat.pow_succ] at h; omega) c hc
   ·simp only [List.mem_singleton] at hc
    subst hc
    rw [UInt8.toNat_ofNat']
    omega
def valL (l : List UInt8) : Nat := l.foldl (fun a c => 10 * a + (c.toNat - 48)) 0
theorem val_snoc (l : List UInt8) (c : UInt8) : valL (l ++ [c]) = 10 * valL l + (c.toNat - 48) := by simp [valL]
theorem val_dig : ∀ (k n : Nat), n < 10 ^ (k + 1) → valL (dig n) = n
 | 0, n, h => by
  have hn : n < 10 := by simpa using h
  rw [dig_lt hn]
  simp only [valL, List.foldl_cons, List.foldl_nil, UInt8.toNat_ofNat']
  omega
 | k + 1, n, h => by
  by_cases hn : n < 10
  ·rw [dig_lt hn]
   simp only [valL, List.foldl_cons, List.foldl_nil, UInt8.toNat_ofNat']
   omega
  ·rw [dig_ge hn, val_snoc, val_dig k (n / 10) (by rw [Nat.pow_succ] at h; omega), UInt8.toNat_ofNat']
   omega
theorem dig_inj {n m : Nat} (hn : n < 10 ^ 19) (hm : m < 10 ^ 19) (h : dig n = dig m) : n = m := by
 rw [← val_dig 18 n hn, ← val_dig 18 m hm, h]
theorem wrap_u8 {n : Int} (h1 : 0 ≤ n) (h2 : n < 256) : IntKind.wrap .u8 n = n := by
 unfold IntKind.wrap
 show (if (false && _) = true then _ else n % 256) = n
 simp only [Bool.false_and, Bool.false_eq_true, if_false]
 omega
theorem p_spec_l00Digits : ∀ (k n : Nat), n < 10 ^ (k + 1) → n < 1000000000000000000 → k ≤ 20 → c_spec_l00Digits R (n : Int) = some (dig n, ())
 | k, n, h, hb, hk => by
  have hq : c_spec_l00Digits R (n : Int) = _ := call (q_spec_l00Digits R L (n : Int))
  rw [hq, eqI_iff, show decide ((n : Int) = -9223372036854775808) = false from decide_eq_false (by omega), show decide ((n : Int) < 0) = false from decide_eq_false (by omega)]
  simp only [cond_false]
  by_cases hn : n < 10
  ·rw [show decide ((n : Int) < 10) = true from decide_eq_true (by omega), dig_lt hn, wrap_id (by omega) (by omega), wrap_u8 (by omega) (by omega)]
   show some ([UInt8.ofNat ((48 + (n : Int)).toNat)], ()) = _
   rw [show (48 + (n : Int)).toNat = 48 + n by omega]
  ·rw [show decide ((n : Int) < 10) = false from decide_eq_false (by omega), dig_ge hn]
   simp only [cond_false]
   rw [show Int.tdiv (n : Int) 10 = ((n / 10 : Nat) : Int) from rfl, wrap_id (n := ((n / 10 : Nat) : Int)) (by omega) (by omega)]
   cases k with
   | zero => exact absurd (by simpa using h) hn
   | succ k =>
    have hd : n / 10 < 10 ^ (k + 1) := by rw [Nat.pow_succ] at h; omega
    rw [p_spec_l00Digits k (n / 10) hd (by omega) (by omega)]
    have hl := dig_len k (n / 10) hd
    simp only [Option.bind_some]
    rw [lenOK_t (by simp only [List.length_map, List.length_cons, List.length_nil]; omega), show Int.tmod (n : Int) 10 = ((n % 10 : Nat) : Int) from rfl, wrap_id (n := (48 + ((n % 10 : Nat) : Int))) (by omega) (by omega), wrap_u8 (by omega) (by omega)]
    show some (dig (n / 10) ++ [UInt8.ofNat ((48 + ((n % 10 : Nat) : Int)).toNat)], ()) = _
    rw [show (48 + ((n % 10 : Nat) : Int)).toNat = 48 + n % 10 by omega]
def digI (v : Int) : List UInt8 := dig v.toNat
theorem p_digits {v : Int} (h0 : 0 ≤ v) (h1 : v < 1000000000000000000) : c_spec_l00Digits R v = some (digI v, ()) := by
 have e : v = ((v.toNat : Nat) : Int) := (Int.toNat_of_nonneg h0).symm
 have := p_spec_l00Digits 18 v.toNat (by omega) (by omega) (by omega)
 rw [← e] at this
 exact this
theorem digI_len {v : Int} (h1 : v < 1000000000000000000) : (digI v).length ≤ 19 := dig_len 18 _ (by omega)
theorem digI_mem {v : Int} (h1 : v < 1000000000000000000) : ∀ c ∈ digI v, 48 ≤ c.toNat ∧ c.toNat ≤ 57 := dig_mem 18 _ (by omega)
theorem digI_inj {v u : Int} (h0 : 0 ≤ v) (h1 : v < 1000000000000000000) (h2 : 0 ≤ u) (h3 : u < 1000000000000000000) (h : digI v = digI u) : v = u := by
 have := dig_inj (n := v.toNat) (m := u.toNat) (by omega) (by omega) h
 omega
def codeTab : List (List UInt8) := [[111, 107], [98, 97, 100], [108, 111, 110, 103], [102, 111, 114, 109], [114, 97, 110, 103, 101], [110, 111, 110, 101], [109, 97, 110, 121], [102, 117, 108, 108], [115, 105, 122, 101], [116, 97, 103], [116, 97, 109, 112, 101, 114, 101, 100], [116, 111, 114, 110], [115, 116, 97, 115, 104], [116, 97, 112, 101], [99, 104, 101, 99, 107], [112, 101, 110, 100, 105, 110, 103], [100, 111, 119, 110], [117, 112], [115, 112, 101, 110, 116], [107, 101, 121]]
def opTab : List (List UInt8) := [[], [103, 101, 116], [112, 117, 116], [100, 114, 111, 112], [99, 104, 101, 99, 107], [97, 100, 100], [115, 99, 97, 110]]
def codeW (c : Int) : List UInt8 := codeTab.getD c.toNat []
theorem codeTab_nosp : ∀ w ∈ codeTab, ∀ c ∈ w, 97 ≤ c.toNat := by decide
theorem codeTab_len : ∀ w ∈ codeTab, w.length ≤ 8 := by decide
theorem codeW_in {c : Int} (h : inB c 0 19 = true) : codeW c ∈ codeTab := by
 have hb := inB_bounds h
 exact getD_mem (show c.toNat < 20 by omega)
theorem codeTab_inj : ∀ i j : Fin 20, codeTab.getD i [] = codeTab.getD j [] → i = j := by decide
theorem codeW_inj {c d : Int} (hc : inB c 0 19 = true) (hd : inB d 0 19 = true) (h : codeW c = codeW d) : c = d := by
 have h1 := inB_bounds hc
 have h2 := inB_bounds hd
 have := codeTab_inj ⟨c.toNat, by omega⟩ ⟨d.toNat, by omega⟩ h
 have := congrArg Fin.val this
 simp only at this
 omega
theorem opTab_inj : ∀ i j : Fin 7, opTab.getD i [] = opTab.getD j [] → i = j := by decide
theorem opTab_len : ∀ w ∈ opTab, w.length ≤ 5 := by decide
theorem opTab_low : ∀ w ∈ opTab, ∀ c ∈ w, 97 ≤ c.toNat ∧ c.toNat ≤ 122 := by decide
def glue (sep : List UInt8) : List (List UInt8) → List UInt8
 | [] => []
 | x :: xs => x ++ (xs.map (sep ++ ·)).flatten
theorem cut_at {c : UInt8} : ∀ {a b r s : List UInt8}, c ∉ a → c ∉ b → a ++ c :: r = b ++ c :: s → a = b ∧ r = s
 | [], [], r, s, _, _, h => by simpa using h
 | [], y :: b, r, s, _, hb, h => by
  simp only [List.nil_append, List.cons_append, List.cons.injEq] at h
  exact absurd (h.1 ▸ List.mem_cons_self ..) hb
 | x :: a, [], r, s, ha, _, h => by
  simp only [List.nil_append, List.cons_append, List.cons.injEq] at h
  exact absurd (h.1 ▸ List.mem_cons_self ..) ha
 | x :: a, y :: b, r, s, ha, hb, h => by
  simp only [List.cons_append, List.cons.injEq] at h
  obtain ⟨e, h⟩ := h
  subst e
  obtain ⟨e1, e2⟩ := cut_at (fun hm => ha (List.mem_cons_of_mem _ hm)) (fun hm => hb (List.mem_cons_of_mem _ hm)) h
  exact ⟨by rw [e1], e2⟩
theorem glue_inj {pre post : List UInt8} {c : UInt8} (hp : c ∉ pre) : ∀ {xs ys : List (List UInt8)}, xs ≠ [] → ys ≠ [] → (∀ x ∈ xs, c ∉ x) → (∀ y ∈ ys, c ∉ y) → glue (pre ++ c :: post) xs = glue (pre ++ c :: post) ys → xs = ys
 | [], _, h, _, _, _, _ => absurd rfl h
 | _, [], _, h, _, _, _ => absurd rfl h
 | [x], [y], _, _, _, _, h => by simpa [glue] using h
 | [x], y :: y' :: ys, _, _, hx, _, h => by
  exfalso
  have : c ∈ x := by
   have e : glue (pre ++ c :: post) [x] = x := by simp [glue]
   rw [← e, h]; simp [glue]
  exact hx x (List.mem_cons_self ..) this
 | x :: x' :: xs, [y], _, _, _, hy, h => by
  exfalso
  have : c ∈ y := by
   have e : glue (pre ++ c :: post) [y] = y := by simp [glue]
   rw [← e, ← h]; simp [glue]
  exact hy y (List.mem_cons_self ..) this
 | x :: x' :: xs, y :: y' :: ys, _, _, hx, hy, h => by
  have e : ∀ (z z' : List UInt8) (zs : List (List UInt8)), glue (pre ++ c :: post) (z :: z' :: zs) = (z ++ pre) ++ c :: (post ++ glue (pre ++ c :: post) (z' :: zs)) := fun z z' zs => by simp [glue]
  rw [e, e] at h
  have hn : ∀ (zs : List (List UInt8)), (∀ z ∈ zs, c ∉ z) → ∀ z ∈ zs, c ∉ z ++ pre := fun zs hz z hm hc => by
   rcases List.mem_append.1 hc with h | h
   ·exact hz z hm h
   ·exact hp h
  obtain ⟨h1, h2⟩ := cut_at (hn _ hx x (List.mem_cons_self ..)) (hn _ hy y (List.mem_cons_self ..)) h
  have h3 := List.append_cancel_right h1
  have h4 := List.append_cancel_left h2
  have := glue_inj (xs := x' :: xs) (ys := y' :: ys) hp (by simp) (by simp) (fun z hz => hx z (List.mem_cons_of_mem _ hz)) (fun z hz => hy z (List.mem_cons_of_mem _ hz)) h4
  rw [h3, this]
theorem map_inj {α γ : Type} {f : α → γ} : ∀ {xs ys : List α}, (∀ x ∈ xs, ∀ y ∈ ys, f x = f y → x = y) → xs.map f = ys.map f → xs = ys
 | [], [], _, _ => rfl
 | [], _ :: _, _, h => by simp at h
 | _ :: _, [], _, h => by simp at h
 | x :: xs, y :: ys, hf, h => by
  simp only [List.map_cons, List.cons.injEq] at h
  rw [hf x (List.mem_cons_self ..) y (List.mem_cons_self ..) h.1, map_inj (fun a ha b hb => hf a (List.mem_cons_of_mem _ ha) b (List.mem_cons_of_mem _ hb)) h.2]
end Go.Rf.S

end
