/- What the program computes, in plain words: part 7. No condition. -/
import Derived.Test.YtlcagehlljilgaaGreatDoorRows
import Derived.Test.YtlcagehlljilgaaGreatDoorTie
import Derived.Test.YtlcagehlljilgaaGreatDoorCards
import Derived.SevenTiedAt
import Derived.Lay
import Derived.MakeChecks
import Derived.Lib.LaidTab
import Derived.LaidSub
import Derived.Handed
import Derived.Test.YtlcagehlljilgaaGreatDoorAbo2
set_option linter.unusedVariables false
set_option linter.unusedSimpArgs false
section
namespace Go.Proofs.YtlcagehlljilgaaGreatDoor.fnAbort
open Go.ChangeShapes Go.WideShapes Go.ChangeAt Go.RowKit Go.Rf Go.Rf.S
set_option maxRecDepth 100000
theorem own : ownKnob Tryz.prog.godebug = none := by kernel_rfl
theorem mixed : EE.P.follows .mixedOrders = true := by kernel_rfl
theorem names : NamesOK EE.P := namesOK_of (by kernel_rfl)
theorem runOK (m : Int) : @RunOK (laidM m) EE Go.Rf.S.R := by
 have h : @RunOK (laidM m) EE (@run (laidM m) EE X) := @run_ok (laidM m) EE X (X_ok m) mixed names
 rw [run_same m] at h
 exact h
theorem table {W : World} (hsh : W.ShapedOpen Tryz.prog) (h : laidMetH Tryz.prog Rows.fnAbortRow.laid W) : ∃ m : Int, ∀ t ∈ (laidM m).tabs, Blk W t.1 t.2 := by
 have h2 := h.filter (fun x => x.1 == "internal/strconv.uint64pow10")
 have e : (Rows.fnAbortRow.laid.filter fun x => x.1 == "internal/strconv.uint64pow10") = [("internal/strconv.uint64pow10", Lib.tabData .u64 Lib.pow10Tab)] := by kernel_rfl
 rw [e] at h2
 rw [MakeChecks.laidMetH_plain _ _ _ (by kernel_rfl)] at h2
 have h3 : Lib.TabIs Tryz.prog W "internal/strconv.uint64pow10" .u64 Lib.pow10Tab := Lib.tabIs_of_head (P := Tryz.prog) (g := 0) (by kernel_rfl) rfl Tryz.underlying129 (by kernel_rfl) (by kernel_rfl) (by kernel_rfl) h2
 obtain ⟨m, hm⟩ := Tryz.laysSplit.s1_3 W hsh
 have hm : W.cell? ⟨1, 0, none⟩ = some (.int .i64 m) := hm
 refine ⟨m, fun t ht => ?_⟩
 have ht : t = (0, (Lib.pow10Tab.map fun z => Value.int .u64 z).toArray) ∨ t = (1, #[Value.int .i64 m]) := by
  have ht : t ∈ [(0, (Lib.pow10Tab.map fun z => Value.int .u64 z).toArray), (1, #[Value.int .i64 m])] := ht
  simpa only [List.mem_cons, List.not_mem_nil, or_false] using ht
 rcases ht with rfl | rfl
 ·unfold Lib.TabIs World.var? at h3
  have hg : Tryz.prog.globalNamed "internal/strconv.uint64pow10" = some 0 := by kernel_rfl
  rw [hg] at h3
  simp only [Option.bind_some] at h3
  split at h3
  ·rename_i cs e fz hb
   exact ⟨e, fz, by rw [hb, ← Option.some.inj h3]⟩
  ·cases h3
 ·obtain ⟨cs, hh, hs, _⟩ := hsh.1 1 #[.int .i64 0] 3 (of_decide_eq_true (by kernel_rfl)) (by kernel_rfl)
  refine ⟨3, (0, 0), ?_⟩
  have hs : cs.size = 1 := hs
  have e1 : cs = #[Value.int .i64 m] := by
   apply Array.ext
   ·rw [hs]; rfl
   ·intro i h1 h2
    have : i = 0 := by omega
    subst this
    have hc : W.cell? ⟨1, 0, none⟩ = some cs[0] := by simp [World.cell?, hh, h1]
    rw [hm] at hc
    simpa using (Option.some.inj hc).symm
  rw [← e1]; exact hh
theorem lifted (os : Os) (started : os.Started) (H : Type) (enc : TypeId × Value → H) :
  ReturnsInHanded {} Tryz.checked os 3 .any (fun w args => (Rows.fnAbortSpec.pre enc Tryz.prog Tryz.f3 Rows.fnAbortRow.domain false w args ∧ laidMetH Tryz.prog Rows.fnAbortRow.laid w) ∧ sizedMet enc Tryz.prog Tryz.f3 (OpenSpec.ofChange Rows.fnAbortSpec) false w args)
   (Rows.fnAbortSpec.post enc Tryz.prog Tryz.f3 false true false false) := by
 refine returnsInHanded_of_calls (C := Tryz.checked) own started (by kernel_rfl)
  (ChangeSpec.witness_shaped (enc := enc) (C := Tryz.checked) (os := os) (X := fun w _ => laidMetH Tryz.prog Rows.fnAbortRow.laid w) false (World.laidAll Tryz.prog os Rows.fnAbortRow.laid) #[.slice none 0 0, .slice none 0 0] 8 (by kernel_rfl)
   (World.shaped_of_ZipB (by kernel_rfl) (by kernel_rfl)) (by kernel_rfl) (by kernel_rfl) (by kernel_rfl)
   (by rw [MakeChecks.laidMetH_plain _ _ _ (by kernel_rfl)]; exact laidMet_laidAll _ (by kernel_rfl) (by kernel_rfl))) ?_
 intro w tape i _ hsh _ hok hpre _
 obtain ⟨_, _, _, fn', hfn', _, _, _, _, hval⟩ := hok
 obtain rfl : fn' = Tryz.f3 := Option.some.inj (hfn'.symm.trans Tryz.func3)
 obtain ⟨⟨⟨ds, gs, before, hw, hcnd⟩, hx⟩, hz⟩ := hpre
 have hW := DataW.Whole.of_heap (w' := w.forCall tape i) (by rfl) hw
 obtain ⟨m, ht⟩ := table hsh (hx.of_heap (by rfl))
 refine Calls.mono (R := fun e W' => ∃ v, e = .returned v ∧ Rows.fnAbortSpec.post enc Tryz.prog Tryz.f3 false true false false (w.forCall tape i) i.args v W') ?_ fun e W' ⟨v, he, hp⟩ => (by subst he; exact ChangeSpec.post_blind hp)
 refine law_row (T := laidM m) (C := Tryz.checked) (cfg := lookC cfgs) (R := Go.Rf.S.R) (runOK m) (tys := [((.sl (.int .u8)) : Ty), ((.sl (.int .u8)) : Ty)]) (keep := (lookC cfgs 3).keep) (mv := (lookC cfgs 3).mv) (tb := 4) (n := 2) (by kernel_rfl) Tryz.func3 (by kernel_rfl) (by kernel_rfl) (by kernel_rfl) rfl
  (fun H ds h => ?_) (by kernel_rfl) (by kernel_rfl) (by kernel_rfl) (by kernel_rfl) ?_ ?_ enc (w.forCall tape i) ht w.heap.size i.args ds gs before hval hW
 ·match ds, h with
  | [d0, d1], _ => rfl
 ·intro t ht
  have e : Tryz.f3.params.toList = [22, 22] := by kernel_rfl
  rw [e] at ht
  have : t = 22 ∨ t = 22 := by simpa only [List.mem_cons, List.not_mem_nil, or_false] using ht
  rcases this with rfl | rfl
  ·exact ⟨by kernel_rfl, of_decide_eq_true (by kernel_rfl)⟩
  ·exact ⟨by kernel_rfl, of_decide_eq_true (by kernel_rfl)⟩
 ·intro dy hdy hf
  match dy, hdy with
  | [⟨t0, x0⟩, ⟨t1, x1⟩], hdy =>
   simp only [List.map_cons, List.map_nil, List.cons.injEq, and_true] at hdy
   obtain ⟨rfl, rfl⟩ := hdy
   exact ⟨(true, ()), Go.Rf.S.law_Abort x0 x1 hf.1 hf.2.1, rfl⟩
noncomputable abbrev PG : Program := Tryz.prog
noncomputable abbrev RO : OpenClaim := Rows.fnAbortRow
noncomputable abbrev SP : ChangeSpec := Rows.fnAbortSpec
theorem bt {a b : Bool} (h : a = true) (k : b = true) : (a && b) = true := by rw [h, k]; rfl
theorem g0 : (RO.wf (OpenSpec.ofChange SP)) = true := by kernel_rfl
theorem g1 : (laidOutB PG) = true := by kernel_rfl
theorem g2 : (mapsRowed PG) = true := by kernel_rfl
theorem g3 : (Tryz.f3.params.all (PG.readableRec ·)) = true := by kernel_rfl
theorem g4 : (namedTie PG RO.named SP.vars) = true := by kernel_rfl
theorem g5 : (RO.stops == []) = true := by kernel_rfl
theorem g6 : (PG.stops == []) = true := by kernel_rfl
theorem g7 : (RO.knobs == []) = true := by kernel_rfl
theorem g8 : (PG.stopKnobs == []) = true := by kernel_rfl
theorem g9 : (RO.inPlace == PG.inPlace 3) = true := by kernel_rfl
theorem g10 : (RO.unfollowed == PG.unfollowed 3) = true := by kernel_rfl
theorem g11 : (RO.recurses == PG.recurses 3) = true := by kernel_rfl
theorem g12 : (RO.named == PG.varsNamed 3) = true := by kernel_rfl
theorem g13 : (RO.maps == (Tryz.f3.params.toList ++ SP.plain.varTypes PG).any (PG.mapsRec ·)) = true := by kernel_rfl
theorem g14 : (RO.ifaces == (Tryz.f3.params.toList ++ SP.plain.varTypes PG).any (PG.ifacesRec ·)) = true := by kernel_rfl
theorem g15 : (RO.mapsOut == PG.mapsAmong Tryz.f3.resultTypes.toList) = true := by kernel_rfl
theorem g16 : (RO.loops == (Tryz.f3.params.toList ++ SP.plain.varTypes PG).any (PG.loopsFrom ·)) = true := by kernel_rfl
theorem g17 : (RO.wideKeys == (Tryz.f3.params.toList ++ SP.plain.varTypes PG ++ Tryz.f3.resultTypes.toList).any (PG.wideKeysFrom ·)) = true := by kernel_rfl
theorem g18 : (SP.vars.all (PG.varReadable ·)) = true := by kernel_rfl
theorem g19 : (Tryz.f3.resultTypes.all (fun t => PG.readableRec t && decide (t < PG.types.size))) = true := by kernel_rfl
theorem g20 : (RO.ifacesOut == Tryz.f3.resultTypes.toList.any (PG.ifacesRec ·)) = true := by kernel_rfl
theorem g21 : (RO.loopsOut == Tryz.f3.resultTypes.toList.any (PG.loopsFrom ·)) = true := by kernel_rfl
theorem g22 : (RO.plainKeys == PG.plainKeys) = true := by kernel_rfl
theorem g23 : (RO.shortTexts.isNone) = true := by kernel_rfl
theorem g24 : (PG.stopsHeard) = true := by kernel_rfl
theorem g25 : (PG.mayEnter) = true := by kernel_rfl
theorem g26 : (RO.lifted == PG.liftsFinal) = true := by kernel_rfl
theorem g27 : (PG.make == some RO.make) = true := by kernel_rfl
theorem g28 : (RO.kinds == (if RO.domain.isEmpty then [] else Tryz.f3.params.toList.map fun t => match PG.underlying t with | some (.int k) => some k | _ => none)) = true := by kernel_rfl
theorem g29 : (RO.pinned == RO.pinnedBy) = true := by kernel_rfl
theorem g30 : (RO.veiled == (Tryz.f3.params.toList ++ SP.plain.varTypes PG ++ Tryz.f3.resultTypes.toList).any (PG.veiledRec ·)) = true := by kernel_rfl
theorem g31 : (RO.veiledFits PG Tryz.f3.params.toList (Tryz.f3.params.toList ++ SP.plain.varTypes PG ++ Tryz.f3.resultTypes.toList)) = true := by kernel_rfl
theorem closed : joinedFacts PG 3 Tryz.f3 SP RO = true := (bt (bt (bt (bt (bt (bt (bt (bt (bt (bt (bt (bt (bt (bt (bt (bt (bt (bt (bt (bt (bt (bt (bt (bt (bt (bt (bt (bt (bt (bt (bt g0 g1) g2) g3) g4) g5) g6) g7) g8) g9) g10) g11) g12) g13) g14) g15) g16) g17) g18) g19) g20) g21) g22) g23) g24) g25) g26) g27) g28) g29) g30) g31)
theorem over : Rows.fnAbortRow.holds Tryz.pinned (OpenSpec.ofChange Rows.fnAbortSpec) :=
 OpenClaim.holds_of_wide 3 Tryz.f3 rfl rfl rfl rfl rfl rfl rfl ⟨rfl, rfl, rfl, rfl, rfl⟩ rfl rfl rfl rfl rfl (by kernel_rfl) Tryz.func3 closed
  (of_decide_eq_true (by kernel_rfl)) (by unfold Func.isWrapper; first | (rw [if_pos (by decide +kernel)]; kernel_rfl) | (rw [if_neg (by decide +kernel)]; exact ⟨rfl, rfl⟩))
  (fun os started H enc _ => lifted os started H enc)
theorem proved : Rows.FnAbortSaid := over
end Go.Proofs.YtlcagehlljilgaaGreatDoor.fnAbort
namespace Go.Proofs.YtlcagehlljilgaaGreatDoor
theorem fnAbortCard_holds : Rows.FnAbortCardSaid :=
 Claim7.holds_tied_plain_at .later [] [.data, .data, .data, .data, .sentinel, .sentinel, .pinned] true (true, "561fb91893d2fd848c16ffec3cbc92263462efb865ad99eb73713e4376625022") true
  fnAbort.proved (fun _ h => by cases h) (by kernel_rfl) (fun _ h => by cases h) fnAbort_row_tie rfl ⟨rfl, rfl⟩ (by kernel_rfl) rfl
  (fun f fn hf hfn => by
   obtain rfl : f = 3 := Option.some.inj ((show Tryz.prog.funcNamed "loop.example/g00548/laws.FnAbort" = some 3 by kernel_rfl).symm.trans hf) |>.symm
   obtain rfl : fn = Tryz.f3 := (Option.some.inj (Tryz.func3.symm.trans hfn)).symm
   exact ⟨by kernel_rfl, fun j t ht => by
    have hp : Tryz.f3.params.toList.all (fun t => !Tryz.prog.wantsStandIn t) = true := by kernel_rfl
    have := List.all_eq_true.1 hp t (List.mem_of_getElem? (i := j) (by simpa using ht))
    exact (show Tryz.prog.wantsStandIn t = false by simpa using this)⟩)
  (by kernel_rfl)
end Go.Proofs.YtlcagehlljilgaaGreatDoor

end
