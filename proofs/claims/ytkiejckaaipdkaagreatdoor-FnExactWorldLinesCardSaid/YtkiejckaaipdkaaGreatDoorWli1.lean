/- Rf, part Ya: slices.Delete and slices.Insert at elements of k cells: the machine's own runs. -/
import Derived.Test.YtkiejckaaipdkaaGreatDoorRfD
import Derived.Shelf.SlLaysE0
import Derived.Shelf.Spec.SlicesInsertGrow
import Derived.Shelf.RegionOpenPlain
import Derived.WalkKit
import Derived.Deep.RegionLaw
import Derived.Lib.Walk
import Derived.Lib.SliceRun
set_option linter.unusedVariables false
set_option linter.unusedSimpArgs false
namespace Go.Rf
set_option linter.unusedSectionVars false
variable [T : Laid]
open Go.Shelf Go.RowKit Go.Lib Go.Proofs
set_option linter.unusedVariables false
set_option linter.unusedSimpArgs false
section
variable {P : Program} {ρ : Ren}

theorem setCells_chg {b : Nat} {e : TypeId} {fz : Nat × Nat} : ∀ {vs : List Value} {o : Nat} {w : World} {cs : Array Value}, w.heap[b]? = some (.cells cs e fz) → o + vs.length ≤ cs.size →
    ∃ cs', (w.setCells b o vs).heap[b]? = some (.cells cs' e fz) ∧ cs'.toList = splice cs.toList o vs ∧ (∀ b', b' ≠ b → (w.setCells b o vs).heap[b']? = w.heap[b']?) ∧ (w.setCells b o vs).heap.size = w.heap.size ∧ SameOut w (w.setCells b o vs)
  | [], o, w, cs, hb, _ => ⟨cs, hb, by simp [splice], fun _ _ => rfl, rfl, .rfl'⟩
  | v :: vs, o, w, cs, hb, ho => by
    simp only [List.length_cons] at ho
    have h1 : (w.setCell ⟨b, o, none⟩ v).heap[b]? = some (.cells (cs.setIfInBounds o v) e fz) := by
      simp only [World.setCell, Array.getElem?_modify, if_true, hb]
      simp
    have h2 : ∀ b', b' ≠ b → (w.setCell ⟨b, o, none⟩ v).heap[b']? = w.heap[b']? := fun b' hb' => by
      simp only [World.setCell, Array.getElem?_modify]
      rw [if_neg (Ne.symm hb')]
    have h3 : (w.setCell ⟨b, o, none⟩ v).heap.size = w.heap.size := by simp [World.setCell]
    have h4 : SameOut w (w.setCell ⟨b, o, none⟩ v) := ⟨rfl, rfl, rfl⟩
    obtain ⟨cs', k1, k2, k3, k4, k5⟩ := setCells_chg (vs := vs) (o := o + 1) (w := w.setCell ⟨b, o, none⟩ v) h1 (by rw [Array.size_setIfInBounds]; omega)
    refine ⟨cs', k1, ?_, fun b' hb' => (k3 b' hb').trans (h2 b' hb'), k4.trans h3, h4.trans k5⟩
    rw [k2, Array.toList_setIfInBounds]
    apply List.ext_getElem?
    intro k
    rw [splice_get (by simp; omega), splice_get (by simp; omega), List.getElem?_set]
    by_cases h1 : k < o
    · rw [if_pos (by omega), if_neg (by omega), if_pos h1]
    · rw [if_neg h1]
      by_cases h2 : k = o
      · subst h2
        rw [if_pos (by omega), if_pos rfl, if_pos (by simp; omega), if_pos (by simp)]
        simp
      · rw [if_neg (by omega)]
        have e : k - o = (k - (o + 1)) + 1 := by omega
        rw [e, List.getElem?_cons_succ, List.length_cons]
        by_cases h3 : k < o + 1 + vs.length
        · rw [if_pos h3, if_pos (by omega)]
        · rw [if_neg h3, if_neg (by omega), if_neg (by omega)]

theorem run_copy_k (w : World) (dT sT ty elem : TypeId) (i : TypeInfo) (b o dLen dCap : Nat) (a : Addr) (sLen sCap n : Nat) (cs : List Value)
    (hu : P.underlying dT = some (.slice elem)) (hi : P.info? elem = some i) (hm : Nat.min sLen dLen = n) (hn : cs.length = n * i.size)
    (hsrc : ∀ j v, cs[j]? = some v → w.cell? (a.add j) = some v) (hc : ∀ j, j < cs.length → (w.cell? ⟨b, o + j, none⟩).isSome = true) (hf : ∀ j, j < cs.length → w.frozen? ⟨b, o + j, none⟩ = false) (h1 : ∀ v ∈ cs, v.oneCell' = true) :
    (Builtin.copy_ #[dT, sT] ty #[.slice (some ⟨b, o, none⟩) dLen dCap, .slice (some a) sLen sCap]).run P w = .ok (goInt n) (w.setCells b o cs) := by
  have hl := run_loadCells_list (P := P) w a cs hsrc
  have hst := run_storeCells_cells (P := P) b o cs 0 w (by simpa using hc) (by simpa using hf) h1
  simp [Builtin.copy_, run_underlying hu, Builtin.lenOf, Builtin.firstCells, sizeOf, typeInfo, hi, hm, ← hn, hl, hst]

theorem run_clear_k (w : World) (t e ty : TypeId) (z : Value) (ht : P.underlying t = some (.slice e)) (hv : ∀ w, (zeroValue e).run P w = .ok z w) (h1 : ∀ v ∈ z.cells.toList, v.oneCell' = true) (b o n c : Nat) (hn : 0 < n)
    (hc : ∀ j, j < n * z.cells.size → (w.cell? ⟨b, o + j, none⟩).isSome = true) (hf : ∀ j, j < n * z.cells.size → w.frozen? ⟨b, o + j, none⟩ = false) :
    (Builtin.clear_ #[t] ty #[.slice (some ⟨b, o, none⟩) n c]).run P w = .ok (.tuple #[]) (w.setCells b o (Builtin.zeroCells z.cells n).toList) := by
  have hl : (Builtin.zeroCells z.cells n).toList.length = n * z.cells.size := by simp [Builtin.zeroCells]
  have hst := run_storeCells_cells (P := P) b o (Builtin.zeroCells z.cells n).toList 0 w (by rw [hl]; simpa using hc) (by rw [hl]; simpa using hf) (by
    intro v hv'
    simp only [Builtin.zeroCells, Array.mem_toList_iff, Array.mem_map, Array.mem_range] at hv'
    obtain ⟨j, hj, rfl⟩ := hv'
    have hpos : 0 < z.cells.size := by
      rcases Nat.eq_zero_or_pos z.cells.size with h | h
      · rw [h, Nat.mul_zero] at hj; omega
      · exact h
    have hlt := Nat.mod_lt j hpos
    rw [getElem!_pos z.cells (j % z.cells.size) hlt]
    exact h1 _ (by simp))
  simp only [Nat.add_zero] at hst
  obtain ⟨m, rfl⟩ : ∃ m, n = m + 1 := ⟨n - 1, by omega⟩
  simp [Builtin.clear_, run_underlying ht, hv, hst]

set_option maxHeartbeats 4000000 in
set_option maxRecDepth 1000000 in
/-- slices.Delete, of at least one element. -/
theorem delete_k (L : SlLaysE0.n45 P ρ) (i0 : TypeInfo) (hi0 : P.info? (ρ.t 23) = some i0) (zr : Value) (v23 : ∀ w, (zeroValue (ρ.t 23)).run P w = .ok zr w) (k : Nat) (hz1 : i0.size = k) (hzk : zr.cells.size = k)
    (hz1c : ∀ v ∈ zr.cells.toList, v.oneCell' = true) (z23 : ∀ w, (Go.sizeOf (ρ.t 23)).run P w = .ok k w)
    (blk off cap n i j : Nat) (cs : List Value) (w : World) (hcl : cs.length = n * k) (hcs : ∀ t v, cs[t]? = some v → w.cell? ⟨blk, off + t, none⟩ = some v) (hfz : ∀ t, t < n * k → w.frozen? ⟨blk, off + t, none⟩ = false)
    (h1 : ∀ v ∈ cs, v.oneCell' = true) (hij : i < j) (hj : j ≤ n) (hnc : n ≤ cap) :
    Calls P (ρ.f 45) #[.slice (some ⟨blk, off, none⟩) n cap, .int .i64 i, .int .i64 j] w fun e w' =>
      e = .returned (.slice (some ⟨blk, off, none⟩) (i + (n - j)) cap) ∧ w' = (w.drew.setCells blk (off + i * k) (cs.drop (j * k))).setCells blk (off + (i + (n - j)) * k) (Builtin.zeroCells zr.cells (n - (i + (n - j)))).toList := by
  have mixed := L.mixed; have t0 := L.t0; have a0 := L.a0; have z0 := L.z0; have v0 := L.v0; have t3 := L.t3; have a3 := L.a3; have z3 := L.z3; have v3 := L.v3; have t4 := L.t4; have a4 := L.a4; have z4 := L.z4; have v4 := L.v4; have t22 := L.t22; have a22 := L.a22; have z22 := L.z22; have v22 := L.v22
  have hjk : j * k ≤ n * k := Nat.mul_le_mul_right k hj
  have hik : i * k ≤ j * k := Nat.mul_le_mul_right k (by omega)
  have hsome : ∀ t, t < n * k → (w.cell? ⟨blk, off + t, none⟩).isSome = true := fun t ht => by
    rw [hcs t _ (List.getElem?_eq_getElem (by omega))]; rfl
  obtain ⟨news, hnews⟩ : ∃ news, news = cs.drop (j * k) := ⟨_, rfl⟩
  have hlen : news.length = (n - j) * k := by rw [hnews, List.length_drop, hcl, Nat.sub_mul]
  have hlt : (n - j) * k + j * k = n * k := by rw [← Nat.add_mul]; congr 1; omega
  have hlu : (i + (n - j)) * k = i * k + (n - j) * k := Nat.add_mul _ _ _
  have hlz : (n - (i + (n - j))) * k + (i + (n - j)) * k = n * k := by rw [← Nat.add_mul]; congr 1; omega
  obtain ⟨A, hA, hsrc⟩ : ∃ A : Addr, (if cap = j then some (⟨blk, off, none⟩ : Addr) else some ⟨blk, off + j * k, none⟩) = some A ∧ Hid (∀ t u, news[t]? = some u → w.drew.cell? (A.add t) = some u) := by
    by_cases h : cap = j
    · refine ⟨⟨blk, off, none⟩, by simp [h], fun t u hu => ?_⟩
      have h0 : news.length = 0 := by rw [hlen, show n - j = 0 by omega, Nat.zero_mul]
      rw [List.length_eq_zero_iff.1 h0] at hu
      simp at hu
    · refine ⟨⟨blk, off + j * k, none⟩, by simp [h], fun t u hu => ?_⟩
      rw [hnews, List.getElem?_drop] at hu
      rw [Addr.add_lit, Nat.add_assoc]
      exact hcs _ u hu
  have s1 : Hid (news.length = (n - j) * k) := hlen
  have s2 : Hid (∀ u ∈ news, u.oneCell' = true) := by
    intro u hu
    rw [hnews] at hu
    exact h1 u (List.mem_of_mem_drop hu)
  have s3 : Hid (∀ t, t < news.length → (w.drew.cell? ⟨blk, off + i * k + t, none⟩).isSome = true ∧ w.drew.frozen? ⟨blk, off + i * k + t, none⟩ = false) := by
    intro t ht
    rw [hlen] at ht
    rw [Nat.add_assoc]
    exact ⟨hsome _ (by omega), hfz _ (by omega)⟩
  obtain ⟨W1, hW1⟩ : ∃ W1, W1 = w.drew.setCells blk (off + i * k) news := ⟨_, rfl⟩
  have hcl : ∀ ty, (Builtin.clear_ #[ρ.t 22] ty #[.slice (some ⟨blk, off + (i + (n - j)) * k, none⟩) (n - (i + (n - j))) (cap - (i + (n - j)))]).run P W1 = .ok (.tuple #[]) (W1.setCells blk (off + (i + (n - j)) * k) (Builtin.zeroCells zr.cells (n - (i + (n - j)))).toList) :=
    fun ty => run_clear_k W1 _ _ ty _ t22 v23 hz1c blk (off + (i + (n - j)) * k) _ _ (by omega)
      (fun t ht => by rw [hzk] at ht; rw [hW1, Nat.add_assoc]; exact isSome_setCells blk _ _ _ (fun t ht => by rw [Nat.add_assoc]; exact hsome _ (by rw [hlen] at ht; omega)) _ (hsome _ (by omega)))
      (fun t ht => by rw [hzk] at ht; rw [hW1, World.frozen?_setCells, Nat.add_assoc]; exact hfz _ (by omega))
  obtain ⟨Z, hZ⟩ : ∃ Z, Z = (Builtin.zeroCells zr.cells (n - (i + (n - j)))).toList := ⟨_, rfl⟩
  rw [← hZ] at hcl
  have hZ' : Hid (Z = (Builtin.zeroCells zr.cells (n - (i + (n - j)))).toList) := hZ
  have hW : Hid (W1 = w.drew.setCells blk (off + i * k) news) := hW1
  have hN : Hid (news = cs.drop (j * k)) := hnews
  have hic : i ≤ cap := by omega
  have hjc : j ≤ cap := by omega
  have hne : ¬ ((i : Int) = (j : Int)) := by omega
  have hni : ¬ (cap = i + (n - j)) := by omega
  clear hZ hW1 hnews hlen hcs hfz hsome hlu hlt hlz hjk hik
  obtain ⟨_, _, FG⟩ := L.f45
  go_enter FG, SlBodyN.n45_ntmps ρ
  go_wp2_with fail
  go_region_law_o (refine step_append_room rfl (.tmp 22) (.tmp 25) (ρ.t 22) rfl (ρ.t 23) i0 k t22 hi0 hz1 blk off i cap (by simp [Act.eval, Act.put]) A (n - j) (cap - j) news (by simp [Act.eval, Act.put]) s1.out hsrc.out s2.out (by omega) s3.out ?_; rw [← hW.out])
  go_wp2
  all_goals (go_ret; exact ⟨rfl, by rw [hW.out, hN.out, hZ'.out]⟩)
end
end Go.Rf
