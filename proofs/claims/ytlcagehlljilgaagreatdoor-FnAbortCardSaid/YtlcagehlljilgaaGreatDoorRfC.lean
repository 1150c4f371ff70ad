/- An interpreter of the code over plain data, proved right against the machine: part 3. No condition. -/
import Derived.Test.YtlcagehlljilgaaGreatDoorRfB
import Derived.Tactics
import Derived.Orders
set_option linter.unusedVariables false
set_option linter.unusedSimpArgs false
section
namespace Go.Rf
set_option linter.unusedSectionVars false
variable [T : Laid]
section
variable {P : Program} {H : Nat → Option (List Value)} {N : Nat} {g g' σ : View} {V V' : Nat → Option Value} {w w' : World} {S S' : Nat → Prop} {β β' : Key → Option Nat} {a : Act} {o : Oper}
variable {E : Env} {gv : View} {us : List Up}
def lentS (S : Nat → Prop) (β : Key → Option Nat) (rs : List Nat) : Nat → Prop := fun b => S b ∨ ∃ r ∈ rs, ∃ s, β (r :: s) = some b
theorem capsOf_lent (h : Rel H N g V w S β) {L : List Nat} : ∀ {rs : List (Nat × Nat)} {cs : FCaps}, (∀ x ∈ rs, x.1 ∈ L) → capsOf g rs = some cs →
  (∀ x ∈ rs, (g x.1).s = x.2) ∧ ∃ vs : List Value, rs.map (fun x => V x.1) = vs.map some ∧ CapsRd (lentS S β L) w cs vs
 | [], cs, _, hc => by
  simp only [capsOf, Option.some.injEq] at hc; subst hc
  exact ⟨by simp, [], rfl, by simp [CapsRd]⟩
 | (r, s) :: rs, cs, hL, hc => by
  simp only [capsOf] at hc
  have hrd : ∀ {t : Ty} {x : (Ty.ptr t).D} {f : Fl} {c : List Value}, f.whole = true → VRel S β H w [r] (.ptr t) f x c → Rd (lentS S β L) w (.ptr t) x c := fun hw hv =>
   VRel_read hw (fun _ => .inl) (fun k b hb => .inr ⟨r, hL (r, s) List.mem_cons_self, k, by simpa using hb⟩) hv
  split at hc
  ·rename_i k n f he
   split at hc
   ·rename_i hok
    simp only [Bool.and_eq_true, Nat.beq_eq] at hok
    simp only [Option.map_eq_some_iff] at hc
    obtain ⟨cs', hc, rfl⟩ := hc
    obtain ⟨h1, vs, h2, h3⟩ := capsOf_lent h (fun x hx => hL x (by simp [hx])) hc
    obtain ⟨c, hv, hV⟩ := h.dat he
    have := hrd hok.2 hv
    simp only [Rd] at this
    obtain ⟨b, cs2, rfl, hb, hB, hz, h4⟩ := this
    refine ⟨?_, .pointer (some ⟨b, 0, none⟩) :: vs, ?_, ?_⟩
    ·intro x hx
     rcases List.mem_cons.1 hx with rfl | hx
     ·exact hok.1
     ·exact h1 x hx
    ·simp only [List.map_cons, h2, List.cons.injEq, and_true]; exact hV
    ·simp only [CapsRd]
     refine ⟨b, vs, rfl, hb, ?_, h3⟩
     have : cs2 = #[.int k n] := by apply Array.toList_inj.1; rw [h4]
     rwa [← this]
   ·cases hc
  ·rename_i v f he
   split at hc
   ·rename_i hok
    simp only [Bool.and_eq_true, Nat.beq_eq] at hok
    simp only [Option.map_eq_some_iff] at hc
    obtain ⟨cs', hc, rfl⟩ := hc
    obtain ⟨h1, vs, h2, h3⟩ := capsOf_lent h (fun x hx => hL x (by simp [hx])) hc
    obtain ⟨c, hv, hV⟩ := h.dat he
    have := hrd hok.2 hv
    simp only [Rd] at this
    obtain ⟨b, cs2, rfl, hb, hB, hz, u, h4, h5⟩ := this
    refine ⟨?_, .pointer (some ⟨b, 0, none⟩) :: vs, ?_, ?_⟩
    ·intro x hx
     rcases List.mem_cons.1 hx with rfl | hx
     ·exact hok.1
     ·exact h1 x hx
    ·simp only [List.map_cons, h2, List.cons.injEq, and_true]; exact hV
    ·simp only [CapsRd]
     refine ⟨b, u, vs, rfl, hb, ?_, h5, h3⟩
     have : cs2 = #[u] := by apply Array.toList_inj.1; rw [h4]
     rwa [← this]
   ·cases hc
  ·cases hc
theorem dataOf_lent {x : Operand} {d : Dat} (h : Rel H N g V w S β) (hd : dataOf g (sv g x) = some d) :
  ∃ c, evl V x = some (valOf d.t c) ∧ Rd (lentS S β (lentOf g x (sv g x))) w d.t d.x c := by
 have freeR : ∀ {t : Ty} {x : t.D} {c : List Value} {L : List Nat}, Rd S w t x c → Rd (lentS S β L) w t x c := fun hr => Rd_mono (fun b hb => ⟨.inl hb, rfl⟩) hr
 cases hv : sv g x with
 | dead => rw [hv] at hd; simp [dataOf] at hd
 | und => rw [hv] at hd; simp [dataOf] at hd
 | unk => rw [hv] at hd; simp [dataOf] at hd
 | tup d => rw [hv] at hd; simp [dataOf] at hd
 | adr _ _ _ _ => rw [hv] at hd; simp [dataOf] at hd
 | nils => rw [hv] at hd; simp [dataOf] at hd
 | dat e =>
  rw [hv] at hd
  simp only [dataOf] at hd
  split at hd
  ·rename_i hw
   simp only [Option.some.injEq] at hd; subst hd
   rcases opnd_dat h hv with ⟨s, rfl, hs⟩ | ⟨hf, c, hc, hrd⟩
   ·obtain ⟨c, hvr, hV⟩ := h.dat hs
    refine ⟨c, hV, ?_⟩
    simp only [lentOf]
    split
    ·rename_i hf
     rw [setD_of_free hf, VRel_sh] at hvr; exact freeR hvr
    ·exact VRel_read hw (fun _ => .inl) (fun k b hb => .inr ⟨s, by simp, k, by simpa using hb⟩) hvr
   ·exact ⟨c, hc, freeR hrd⟩
  ·cases hd
 | clo f rs =>
  rw [hv] at hd
  obtain ⟨s, rfl, hs⟩ := opnd_tmp hv (by simp) (by simp) (by simp)
  simp only [dataOf, Option.map_eq_some_iff] at hd
  obtain ⟨cs, hc, rfl⟩ := hd
  obtain ⟨h1, vs, h2, h3⟩ := capsOf_lent h (L := rs.map (·.1)) (fun x hx => List.mem_map.2 ⟨x, hx, rfl⟩) hc
  have hss := h.slots s
  rw [hs] at hss
  have := hss.2 h1 vs h2
  refine ⟨[.func (.func f) #[] vs.toArray], this, ?_⟩
  simp only [Rd, FnRd, lentOf]
  exact ⟨_, rfl, vs, rfl, h3⟩
 | als r p c s =>
  rw [hv] at hd
  obtain ⟨i, rfl, hi⟩ := opnd_tmp hv (by simp) (by simp) (by simp)
  simp only [dataOf] at hd
  split at hd
  ·rename_i hok
   split at hd
   ·rename_i e he
    split at hd
    ·rename_i hw
     simp only [Option.some.injEq] at hd; subst hd
     obtain ⟨e', he', hg⟩ := atP_some he
     obtain ⟨_, hb, hnd, cr, L, c', k1, k2, k3, k4, k5, k6, k7⟩ := h.als hi hok he' hg
     refine ⟨c', k7, ?_⟩
     simp only [lentOf, he]
     split
     ·rename_i hf
      rw [setD_of_free hf, VRel_sh] at k6; exact freeR k6
     ·exact VRel_read hw (fun _ => .inl) (fun k b hb => .inr ⟨r, by simp, keyP p ++ k, by simpa using hb⟩) k6
    ·cases hd
   ·cases hd
  ·cases hd
 | pend r p c s u e =>
  rw [hv] at hd
  obtain ⟨i, rfl, hi⟩ := opnd_tmp hv (by simp) (by simp) (by simp)
  simp only [dataOf] at hd
  split at hd
  ·rename_i hok
   simp only [Bool.and_eq_true] at hok
   split at hd
   ·rename_i e' he
    simp only [Option.some.injEq] at hd; subst hd
    have hss := h.slots i
    rw [hi] at hss
    obtain ⟨h0, _, _, _, hss⟩ := hss
    obtain ⟨_, β2, cc, hβ2, hvr, hV⟩ := hss hok.1 e' he
    refine ⟨cc, hV, VRel_read hok.2 (fun _ => .inl) (fun k b hb => ?_) hvr⟩
    simp only [lentOf]
    rcases hβ2 with rfl | ⟨b2, hb2, rfl⟩
    ·exact .inr ⟨r, by simp, keyP p ++ k, by simpa using hb⟩
    ·unfold repl at hb
     split at hb
     ·cases hb; exact .inr ⟨i, by simp, [], hb2⟩
     ·split at hb
      ·cases hb
      ·exact .inr ⟨r, by simp, keyP p ++ k, by simpa using hb⟩
   ·cases hd
  ·cases hd
end
end Go.Rf

end
section
namespace Go.Rf
set_option linter.unusedSectionVars false
variable [T : Laid]
section
variable {S S' : Nat → Prop} {β β' : Key → Option Nat} {H : Nat → Option (List Value)} {w w' : World}
theorem Rd_scal : ∀ {t : Ty} {x : t.D} {c : List Value}, scal t = true → Rd S w t x c → Rd S' w' t x c
 | .int _, _, _, _, h | .bool, _, _, _, h | .str, _, _, _, h | .unit, _, _, _, h => by simpa only [Rd] using h
 | .arr _ t, _, _, hs, h => by
  simp only [Rd] at h ⊢
  exact ⟨h.1, h.2.1, fun i y hy => Rd_scal hs (h.2.2 i y hy)⟩
 | .pair a b, _, _, hs, h => by
  simp only [scal, Bool.and_eq_true] at hs
  simp only [Rd] at h ⊢
  exact ⟨Rd_scal hs.1 h.1, Rd_scal hs.2 h.2⟩
 | .fn, _, _, hs, _ | .sl _, _, _, hs, _ | .ptr _, _, _, hs, _ => by simp [scal] at hs
theorem VRel_replace (hS : ∀ b, S b → S' b ∧ w'.heap[b]? = w.heap[b]?) : ∀ {p : List PS} {t : Ty} {f : Fl} {x : t.D} {d d' : Dat} {f2 : Fl} {x2 : t.D} {k k' : Key} {L L' : Loc} {c cp : List Value},
  getP p t f x = some d → d.f.base ≠ .gone → inB p t x → cellsAt w t.size L = some c → walk w t L p = some (d.t, L') → cellsAt w d.t.size L' = some cp →
  repP p t f x d' = some (f2, x2) → VRel S β H w k t f x c → VRel S' β' H w' (k' ++ keyP p) d'.t d'.f d'.x cp →
  (∀ s b, ¬ keyP p <+: s → β (k ++ s) = some b → β' (k' ++ s) = some b ∧ w'.heap[b]? = w.heap[b]?) → VRel S' β' H w' k' t f2 x2 c
 | [], t, f, x, d, d', f2, x2, k, k', L, L', c, cp, hg, hn, hb, hc, hw, hcp, hm, hv, hd, hβ => by
  simp only [repP] at hm
  obtain ⟨y, hy, e⟩ := Option.map_eq_some_iff.1 hm
  simp only [Prod.mk.injEq] at e
  obtain ⟨rfl, rfl⟩ := e
  obtain ⟨rfl, rfl⟩ := castD_some hy
  simp only [getP, Option.some.injEq] at hg
  subst hg
  simp only [walk, Option.some.injEq, Prod.mk.injEq, true_and] at hw
  subst hw
  rw [hc] at hcp
  simp only [Option.some.injEq] at hcp
  subst hcp
  simpa [keyP] using hd
 | .fst :: p, .pair a b, f, x, d, d', f2, x2, k, k', L, L', c, cp, hg, hn, hb, hc, hw, hcp, hm, hv, hd, hβ => by
  simp only [repP] at hm
  obtain ⟨y, hy, e⟩ := Option.map_eq_some_iff.1 hm
  obtain ⟨rfl, rfl⟩ := e
  have hparts := VRel_parts hv
  have hc' := cellsAt_sub (i := 0) (m := a.size) hc (by simp [Ty.size])
  have hv1 := hparts.1
  rw [take_win] at hv1
  simp only [walk, stepL] at hw
  simp only [getP] at hg
  refine VRel_wrap (VRel_pins hv) (VRel_mkpr.2 ⟨?_, ?_⟩)
  ·rw [take_win]
   exact VRel_replace hS (k := k ++ [0]) (k' := k' ++ [0]) hg hn (by simpa [inB] using hb) hc' hw hcp hy hv1 (by simpa [keyP] using hd) (fun s b hs hbb => by
    have := hβ (0 :: s) b (by simp only [keyP, List.cons_prefix_cons, true_and]; exact hs) (by simpa using hbb)
    simpa using this)
  ·exact VRel_trans hS (fun s b hbb => by
    have := hβ (1 :: s) b (by simp [keyP]) (by simpa using hbb)
    simpa using this) hparts.2
 | .snd :: p, .pair a b, f, x, d, d', f2, x2, k, k', L, L', c, cp, hg, hn, hb, hc, hw, hcp, hm, hv, hd, hβ => by
  simp only [repP] at hm
  obtain ⟨y, hy, e⟩ := Option.map_eq_some_iff.1 hm
  obtain ⟨rfl, rfl⟩ := e
  have hparts := VRel_parts hv
  have hlen := cellsAt_len hc
  simp only [Ty.size] at hlen
  have hc' := cellsAt_sub (i := a.size) (m := b.size) hc (by simp [Ty.size])
  have hv1 := hparts.2
  rw [drop_win hlen] at hv1
  simp only [walk, stepL] at hw
  simp only [getP] at hg
  refine VRel_wrap (VRel_pins hv) (VRel_mkpr.2 ⟨?_, ?_⟩)
  ·exact VRel_trans hS (fun s b hbb => by
    have := hβ (0 :: s) b (by simp [keyP]) (by simpa using hbb)
    simpa using this) hparts.1
  ·rw [drop_win hlen]
   exact VRel_replace hS (k := k ++ [1]) (k' := k' ++ [1]) hg hn (by simpa [inB] using hb) hc' hw hcp hy hv1 (by simpa [keyP] using hd) (fun s b hs hbb => by
    have := hβ (1 :: s) b (by simp only [keyP, List.cons_prefix_cons, true_and]; exact hs) (by simpa using hbb)
    simpa using this)
 | .idx i :: p, .arr n t, f, x, d, d', f2, x2, k, k', L, L', c, cp, hg, hn, hb, hc, hw, hcp, hm, hv, hd, hβ => by
  simp only [repP] at hm
  simp only [inB] at hb
  obtain ⟨hi, hb⟩ := hb
  obtain ⟨y, hy, hm⟩ := Option.bind_eq_some_iff.1 hm
  split at hm
  ·rename_i hwh
   simp only [Bool.and_eq_true, decide_eq_true_eq] at hwh
   obtain ⟨hwh, hye⟩ := hwh
   simp only [Option.some.injEq, Prod.mk.injEq] at hm
   obtain ⟨rfl, rfl⟩ := hm
   have hne : f.a.base ≠ .gone := fun e => by have := base_whole hwh; rw [e] at this; simp [Fl.whole] at this
   obtain ⟨hx, hcl, hel⟩ := VRel_elems hne hv
   have hmul : (i + 1) * t.size ≤ n * t.size := Nat.mul_le_mul_right _ hi
   rw [Nat.add_mul] at hmul
   have hc' := cellsAt_sub (i := i * t.size) (m := t.size) hc (by simp only [Ty.size]; omega)
   have hv1 := hel i _ (getD_nth (z := t.dflt) (by omega))
   simp only [walk, stepL, hi, if_true] at hw
   simp only [getP] at hg
   refine VRel_wrap (VRel_pins hv) (VRel_mkar.2 ⟨(List.length_set (as := (x : List t.D))).trans hx, hcl, fun j z hz => ?_⟩)
   rcases nth_set hz with ⟨rfl, _, rfl⟩ | ⟨hj, hz⟩
   ·rw [← hye]
    exact VRel_replace hS (k := k ++ [j]) (k' := k' ++ [j]) hg hn hb hc' hw hcp hy hv1 (by simpa [keyP] using hd) (fun s b hs hbb => by
     have := hβ (j :: s) b (by simp only [keyP, List.cons_prefix_cons, true_and]; exact hs) (by simpa using hbb)
     simpa using this)
   ·exact VRel_trans hS (fun s b hbb => by
     have := hβ (j :: s) b (by simp only [keyP, List.cons_prefix_cons]; exact fun h => hj h.1.symm) (by simpa using hbb)
     simpa using this) (hel j z hz)
  ·cases hm
 | .der :: p, .ptr t, f, x, d, d', f2, x2, k, k', L, L', c, cp, hg, hn, hb, hc, hw, hcp, hm, hv, hd, hβ => by
  have core : ∀ {e : Fl} {y : Fl × t.D}, f.base = .own e → repP p t e x d' = some y → ∀ {ff : Fl}, ff.base = .own y.1 → (∀ q ∈ ff.pins, q ∈ f.pins) → VRel S' β' H w' k' (.ptr t) ff y.2 c := by
   intro e y hf hy ff hff hpin
   have hpins := VRel_pins hv
   simp only [VRel] at hv ⊢
   refine ⟨fun q hq => hpins q (hpin q hq), ?_⟩
   have hv := hv.2
   rw [hf] at hv
   rw [hff]
   obtain ⟨b, cs, rfl, hk, hB, hz, hv⟩ := hv
   have hself := hβ [] b (by simp [keyP]) (by simpa using hk)
   simp only [List.append_nil] at hself
   have hge : f.e = e := by rw [e_base, hf]; rfl
   simp only [getP, hge] at hg
   have hc1 : cellsAt w 1 L = some [.pointer (some ⟨b, 0, none⟩)] := hc
   simp only [walk, stepL, hc1] at hw
   have hcell : cellsAt w t.size (.mem b 0) = some cs.toList := by
    rw [cellsAt_mem hB.blk (by omega), ← hz, ← Array.length_toList, win_all]
   refine ⟨b, cs, rfl, hself.1, hB.same hself.2, hz, ?_⟩
   exact VRel_replace hS (k := k ++ [0]) (k' := k' ++ [0]) hg hn (by simpa [inB] using hb) hcell hw hcp hy hv (by simpa [keyP] using hd) (fun s b hs hbb => by
    have := hβ (0 :: s) b (by simp only [keyP, List.cons_prefix_cons, true_and]; exact hs) (by simpa using hbb)
    simpa using this)
  cases f with
  | own e =>
   simp only [repP] at hm
   obtain ⟨y, hy, e1⟩ := Option.map_eq_some_iff.1 hm
   obtain ⟨rfl, rfl⟩ := e1
   exact core rfl hy rfl (by simp [Fl.pins])
  | pin q g =>
   cases g with
   | own e =>
    simp only [repP] at hm
    obtain ⟨y, hy, e1⟩ := Option.map_eq_some_iff.1 hm
    obtain ⟨rfl, rfl⟩ := e1
    exact core rfl hy rfl (by simp [Fl.pins])
   | _ => simp [repP] at hm
  | _ => simp [repP] at hm
 | .elm i :: p, .sl t, f, x, d, d', f2, x2, k, k', L, L', c, cp, hg, hn, hb, hc, hw, hcp, hm, hv, hd, hβ => by
  simp only [inB] at hb
  obtain ⟨hi, hb⟩ := hb
  have core : ∀ {e : Fl} {y : Fl × t.D}, f.base = .own e → repP p t e (List.getD x i t.dflt) d' = some y → y.1 = e → ∀ {ff : Fl}, ff.base = .own e → (∀ q ∈ ff.pins, q ∈ f.pins) → VRel S' β' H w' k' (.sl t) ff (List.set x i y.2) c := by
   intro e y hf hy hye ff hff hpin
   have hpins := VRel_pins hv
   simp only [VRel] at hv ⊢
   refine ⟨fun q hq => hpins q (hpin q hq), ?_⟩
   have hv := hv.2
   rw [hf] at hv
   rw [hff]
   obtain ⟨ad, cap, rfl, hlc, hv⟩ := hv
   rcases hv with hcap | ⟨b, o, cs, rfl, hk, hB, hz, hv⟩
   ·omega
   have hself := hβ [] b (by simp [keyP]) (by simpa using hk)
   simp only [List.append_nil] at hself
   have hge : f.e = e := by rw [e_base, hf]; rfl
   simp only [getP, hge] at hg
   have hc1 : cellsAt w 1 L = some [.slice (some ⟨b, o, none⟩) (List.length x) cap] := hc
   simp only [walk, stepL, hc1, hi, if_true] at hw
   have hmul : (i + 1) * t.size ≤ cap * t.size := Nat.mul_le_mul_right _ (by omega)
   rw [Nat.add_mul] at hmul
   have hcell : cellsAt w t.size (.mem b (o + i * t.size)) = some (win cs.toList (o + i * t.size) t.size) := cellsAt_mem hB.blk (by omega)
   have hlen : (List.set x i y.2).length = List.length x := List.length_set (as := (x : List t.D))
   refine ⟨_, cap, by rw [hlen], by rw [hlen]; exact hlc, .inr ⟨b, o, cs, rfl, hself.1, hB.same hself.2, hz, fun j z hzj => ?_⟩⟩
   rcases nth_set hzj with ⟨rfl, _, rfl⟩ | ⟨hj, hzj⟩
   ·rw [← hye]
    have hvi := hv j _ (getD_nth (z := t.dflt) hi)
    rw [← hye] at hvi hg hy
    exact VRel_replace hS (k := k ++ [j]) (k' := k' ++ [j]) hg hn hb hcell hw hcp hy hvi (by simpa [keyP] using hd) (fun s b hs hbb => by
     have := hβ (j :: s) b (by simp only [keyP, List.cons_prefix_cons, true_and]; exact hs) (by simpa using hbb)
     simpa using this)
   ·exact VRel_trans hS (fun s b hbb => by
     have := hβ (j :: s) b (by simp only [keyP, List.cons_prefix_cons]; exact fun h => hj h.1.symm) (by simpa using hbb)
     simpa using this) (hv j z hzj)
  cases f with
  | own e =>
   simp only [repP] at hm
   obtain ⟨y, hy, e1⟩ := Option.bind_eq_some_iff.1 hm
   split at e1
   ·rename_i hye
    simp only [Option.some.injEq, Prod.mk.injEq] at e1
    obtain ⟨rfl, rfl⟩ := e1
    exact core rfl hy hye rfl (by simp [Fl.pins])
   ·cases e1
  | pin q g =>
   cases g with
   | own e =>
    simp only [repP] at hm
    obtain ⟨y, hy, e1⟩ := Option.bind_eq_some_iff.1 hm
    split at e1
    ·rename_i hye
     simp only [Option.some.injEq, Prod.mk.injEq] at e1
     obtain ⟨rfl, rfl⟩ := e1
     exact core rfl hy hye rfl (by simp [Fl.pins])
    ·cases e1
   | _ => simp [repP] at hm
  | _ => simp [repP] at hm
end
section
variable {P : Program} {H : Nat → Option (List Value)} {N : Nat} {g g' σ : View} {V V' : Nat → Option Value} {w w' : World} {S S' : Nat → Prop} {β β' : Key → Option Nat} {a : Act} {o : Oper}
variable {E : Env} {gv : View} {us : List Up}
theorem exec_copy {c : Call} {x y : Operand} {t t' : TypeId} {val : Value} (ho : o.op = .call c) (hcal : c.callee = .builtin .copy) (hargs : c.args = #[x, y]) (hts : c.argTypes = #[t, t'])
  (hr : (Builtin.copy_ #[t, t'] o.type #[a.eval x, a.eval y]).run P w = .ok val w') : (execOp a.eval o).run P w = .ok (.value val) w' :=
 exec_builtinV ho hcal (s := Builtin.copy_ #[t, t'] o.type #[a.eval x, a.eval y]) (by rw [hargs, hts, show Array.map a.eval #[x, y] = #[a.eval x, a.eval y] by simp]; rfl) hr
theorem run_copy {t t' ty e : TypeId} {τ : Ty} {z : Value} {len cap n cap2 : Nat} {base ad2 : Option Addr} {cy : List Value} (h : SlOK E t e τ z) (hn : n ≤ len)
  (hl : ∀ w, (Builtin.firstCells τ.size n (.slice ad2 n cap2)).run E.P w = (Builtin.firstCells τ.size n (.slice ad2 n cap2)).run E.P w) (hf : (Builtin.firstCells τ.size n (.slice ad2 n cap2)).run E.P w = .ok cy.toArray w)
  (hst : ∀ a, base = some a → (storeCells a cy 0).run E.P w = .ok () w') (hno : base = none → w' = w) :
  (Builtin.copy_ #[t, t'] ty #[.slice base len cap, .slice ad2 n cap2]).run E.P w = .ok (.int .i64 n) w' := by
 have hmin : Nat.min n len = n := Nat.min_eq_left hn
 unfold Builtin.copy_
 simp only [List.getElem?_toArray, List.getElem?_cons_zero, List.getElem?_cons_succ, Sem.run_bind, run_underlying' h.und, Result.andThen_ok, Sem.run_pure, Builtin.lenOf, run_sizeOf' h.elem, hmin, hf]
 cases base with
 | none => simp [hno rfl, goInt]
 | some a => simp [hst a rfl, goInt]
theorem overL_len {τ : Ty} {xs ys : List τ.D} (h : ys.length ≤ xs.length) : (overL τ ys xs).length = xs.length := by
 unfold overL; rw [List.length_append, List.length_drop]; omega
theorem copy_get {τ : Ty} {xs ys : List τ.D} {i : Nat} {v : τ.D} (h : nth (overL τ ys xs) i = some v) (hl : ys.length ≤ xs.length) : (i < ys.length ∧ nth ys i = some v) ∨ (ys.length ≤ i ∧ nth xs i = some v) := by
 unfold nth overL at *
 by_cases hi : i < ys.length
 ·rw [List.getElem?_append_left hi] at h; exact .inl ⟨hi, h⟩
 ·rw [List.getElem?_append_right (by omega), List.getElem?_drop] at h
  rw [show ys.length + (i - ys.length) = i by omega] at h
  exact .inr ⟨by omega, h⟩
theorem copyK_sound {t t' : TypeId} {x y : Operand} {c : Call} (hc : Ctx E.P H S β a w o g) (hs : Sub gv g) (ho : o.op = .call c) (hcal : c.callee = .builtin .copy) (hargs : c.args = #[x, y]) (hts : c.argTypes = #[t, t'])
  (hk : copyK gv o (E.sl t) x y some = some us) : OpSound E.P H S β a w o (g.ups us) := by
 unfold copyK at hk
 split at hk
 ·rename_i τ q τ2 ys f2 ht hq hd
  obtain ⟨τ3, e0, z0, heq, hok⟩ := sl_inv ht
  simp only [Ty.sl.injEq] at heq
  subst heq
  split at hk
  ·rename_i e he
   split at hk
   ·rename_i τ' xs hg
    split at hk
    ·rename_i xs1 ys1 hcx hcy
     split at hk
     ·rename_i z hm
      split at hk
      ·rename_i hsc
       simp only [Bool.cond_eq_ite] at hk
       split at hk
       ·rename_i hle
        have hle : List.length ys1 ≤ List.length xs1 := Nat.le_of_ble_eq_true hle
        obtain ⟨hex, hx2⟩ := castD_some hcx
        cases hex
        have hx2 : xs1 = xs := hx2
        subst hx2
        obtain ⟨hey, hy2⟩ := castD_some hcy
        cases hey
        have hy2 : ys1 = ys := hy2
        subst hy2
        have hat : atP gv q.1 q.2 = some ⟨.sl τ, xs1, .own .sh⟩ := by unfold atP; rw [he]; exact hg
        obtain ⟨hq', hat', hr⟩ := placeOf_mono hs hq hat
        obtain ⟨e1, cr, L, cc, he1, hg1, hb1, hV1, hl1, hvr, hw1, hcc1, hvp, hxv⟩ := placeOf_sound hc.rel hq' hat' (by simp [Fl.base])
        have hee : e1 = e := by
         rw [hr, he] at he1
         simpa using he1.symm
        subst hee
        have hvp0 := hvp
        simp only [VRel, Fl.base] at hvp0
        obtain ⟨_, ad, cap, rfl, hlc, hvp1⟩ := hvp0
        have exv : a.eval x = .slice ad (List.length xs1) cap := evl_eval hxv
        obtain ⟨cyv, hyv, hry⟩ := dataOf_sound hc.rel (dataOf_mono hs hd)
        obtain ⟨ad2, cap2, cy, hcyv, hel, hfirst⟩ := Rd_elems hry
        rw [hcyv] at hyv
        have eyv : a.eval y = .slice ad2 (List.length ys1) cap2 := evl_eval hyv
        have hqN := hc.dead.lt (i := q.1) (by rw [he1]; simp)
        have hcells : cellsAt w e1.t.size (.reg cr) = some cr := by simp [cellsAt, hl1]
        have fin : ∀ {w' : World}, (Builtin.copy_ #[t, t'] o.type #[a.eval x, a.eval y]).run E.P w = .ok (.int .i64 (List.length ys1)) w' → Sane w' S β → (∀ b, S b → w'.heap[b]? = w.heap[b]?) →
          (∀ key b, β key = some b → key ≠ q.1 :: keyP q.2 → w'.heap[b]? = w.heap[b]?) → Step w S β w' S β →
          VRel S β H w' (q.1 :: keyP q.2) (.sl τ) (.own .sh) (overL τ ys1 xs1) [.slice ad (List.length xs1) cap] → OpSound E.P H S β a w o (g.ups us) := by
         intro w' hrun hsane hS hβ hst hnew K Q hK
         have hroot : VRel S β H w' [q.1] e1.t z.1 z.2 cr :=
          VRel_replace (S := S) (β := β) (fun b hb => ⟨hb, hS b hb⟩) (k := [q.1]) (k' := [q.1]) hg1 (by simp [Fl.base]) hb1 hcells hw1 hcc1 hm hvr hnew (fun s b hp hb => ⟨hb, hβ _ b hb (fun e => by
           simp only [List.cons_append, List.nil_append, List.cons.injEq, true_and] at e
           exact hp (e ▸ List.prefix_refl _))⟩)
         have hrel : Rel H a.tmps.size (g.up (.mod q.1 (.dat ⟨e1.t, z.2, z.1⟩))) (vals a) w' S β :=
          hc.rel.mod he1 rfl hsane (fun b hb => ⟨hb, hS b hb⟩) (fun j s b hj _ hb => ⟨hb, hβ _ b hb (fun e => hj (by simp only [List.cons.injEq] at e; exact e.1))⟩) ⟨cr, hroot, hV1⟩
         have hD1 : DeadFrom a.tmps.size (g.up (.mod q.1 (.dat ⟨e1.t, z.2, z.1⟩))) := hc.dead.up hqN
         split at hk
         ·rename_i d hdst
          split at hk
          ·cases hk
          ·simp only [Option.some.injEq] at hk; rw [← hk] at hK
           have hdN := opIn_dst hc.opIn hdst
           refine wp_value (exec_copy ho hcal hargs hts hrun) (hK _ _ S β put_size put_defers ?_ hst)
           rw [hdst, vals_put hdN]
           exact hrel.finish (fun _ _ => rfl) hD1 (fun _ _ => rfl) hdN hsane (fun b hb => ⟨hb, rfl⟩) (fun _ _ _ _ _ hb => ⟨hb, rfl⟩) dat_int
         ·rename_i hdst
          simp only [Option.some.injEq] at hk; rw [← hk] at hK
          refine wp_value (exec_copy ho hcal hargs hts hrun) (hK _ _ S β put_size put_defers ?_ hst)
          rw [hdst]
          exact hrel
        rcases hvp1 with hcap | ⟨b, oo, cs, rfl, hkb, hob, hz, helx⟩
        ·
         have hx0 : xs1 = [] := List.length_eq_zero_iff.1 (by omega)
         subst hx0
         have hy0 : ys1 = [] := List.length_eq_zero_iff.1 (by simpa using hle)
         subst hy0
         have hcy0 : cy = [] := List.length_eq_zero_iff.1 (by have := hel.len; simpa using this)
         refine fin (w' := w) (by rw [exv, eyv]; exact run_copy hok (Nat.le_refl _) (fun _ => rfl) (hfirst w rfl) (fun a _ => by rw [hcy0]; simp [storeCells]) (fun _ => rfl)) hc.rel.sane (fun _ _ => rfl) (fun _ _ _ _ => rfl) .refl ?_
         exact hvp
        ·obtain ⟨el, fz, hbl, hf⟩ := hob
         have hlz : List.length ys1 * τ.size ≤ List.length xs1 * τ.size := Nat.mul_le_mul_right _ hle
         have hlz2 : List.length xs1 * τ.size ≤ cap * τ.size := Nat.mul_le_mul_right _ hlc
         have hcl : cy.length = List.length ys1 * τ.size := hel.len
         have hle2 : oo + cy.length ≤ cs.size := by omega
         obtain ⟨w', cs', k1, k2, k3, k4, k5, k6⟩ := run_storeCells' (P := E.P) (vs := cy) (i := 0) (o := oo) hbl (fun j hj => ⟨by omega, hf.1 _ (by omega)⟩) hel.one
         rw [Nat.add_zero] at k3
         have hchg : Chg w w' b oo cy := ⟨k4, ⟨cs, el, fz, cs', hbl, k2, k3, hle2⟩, k6⟩
         have hsz : cs'.size = cs.size := by
          have := congrArg List.length k3
          rw [splice_len (by simpa using hle2)] at this
          simpa using this
         have hne : ∀ b', S b' → b' ≠ b := fun b' hb' e => hc.rel.sane.sep _ _ hkb (e ▸ hb')
         refine fin (w' := w') (by rw [exv, eyv]; exact run_copy hok hle (fun _ => rfl) (hfirst w rfl) (fun a' ha' => by simp only [Option.some.injEq] at ha'; subst ha'; exact k1) (fun h => by cases h))
          ⟨hc.rel.sane.inj, hc.rel.sane.sep, fun k b hk => by rw [k5]; exact hc.rel.sane.live k b hk, fun b hk => by rw [k5]; exact hc.rel.sane.liveS b hk, hc.rel.sane.tabs fun b' hb => ⟨hb, k4 b' (hne b' hb)⟩⟩
          (fun b' hb' => k4 b' (hne b' hb')) (fun key b' hb' hkey => k4 b' (fun e => hkey (hc.rel.sane.inj _ _ _ (e ▸ hb') hkb))) (Step.store hkb hchg k5) ?_
         have hlen : List.length (overL τ ys1 xs1) = List.length xs1 := by
          exact overL_len hle
         simp only [VRel, Fl.base]
         refine ⟨by simp [Pins, Fl.pins], _, cap, by rw [hlen], by rw [hlen]; exact hlc, .inr ⟨b, oo, cs', rfl, hkb, ⟨el, fz, k2, by rw [hsz]; exact hf⟩, by rw [hsz]; exact hz, fun i v hi => ?_⟩⟩
         rw [VRel_sh, k3]
         rcases copy_get hi hle with ⟨hlt, hi⟩ | ⟨hge, hi⟩
         ·have hlt2 : (i + 1) * τ.size ≤ List.length ys1 * τ.size := Nat.mul_le_mul_right _ hlt
          rw [Nat.add_mul, Nat.one_mul] at hlt2
          rw [← win_win (n := cy.length) (by omega), win_splice_in (by simpa using hle2)]
          exact Rd_scal hsc (hel.get i v hi)
         ·have hge2 : List.length ys1 * τ.size ≤ i * τ.size := Nat.mul_le_mul_right _ hge
          rw [win_splice_out (by simpa using hle2) (.inr (by omega))]
          have := helx i v hi
          rw [VRel_sh] at this
          exact Rd_scal hsc this
       ·cases hk
      ·cases hk
     ·cases hk
    ·cases hk
   ·cases hk
  ·cases hk
 ·cases hk
theorem chain_rd {ty : TypeId → Option Ty} : ∀ {i : Nat} {fs : List Field} {off : Nat} {τ : Ty} {y : τ.D} {c : List Value} {e : Dat}, chain ty fs off = some τ → Rd S w τ y c → getP (fieldPath i) τ .sh y = some e →
  ∃ fl, fs[i]? = some fl ∧ ty fl.type = some e.t ∧ off ≤ fl.offset ∧ fl.offset - off + e.t.size ≤ c.length ∧ Rd S w e.t e.x (win c (fl.offset - off) e.t.size) ∧ e.f = .sh
 | i, [], off, τ, y, c, e, h, hr, hg => by
  simp only [chain, Option.some.injEq] at h; subst h
  cases i <;> simp [fieldPath, getP] at hg
 | i, fl :: fs, off, τ, y, c, e, h, hr, hg => by
  simp only [chain] at h
  split at h
  ·rename_i a ha
   split at h
   ·rename_i ho
    simp only [Nat.beq_eq] at ho
    simp only [Option.map_eq_some_iff] at h
    obtain ⟨τ', h, rfl⟩ := h
    have hlen := Rd_len hr
    simp only [Rd] at hr
    have hl1 := Rd_len hr.1
    have hl2 := Rd_len hr.2
    rw [List.length_take] at hl1
    rw [List.length_drop] at hl2
    cases i with
    | zero =>
     simp only [fieldPath, getP, Option.some.injEq] at hg
     subst hg
     refine ⟨fl, rfl, ha, by omega, by rw [ho]; simp only [Nat.sub_self, Nat.zero_add]; omega, ?_, rfl⟩
     rw [ho, Nat.sub_self]
     simpa [win] using hr.1
    | succ i =>
     simp only [fieldPath, getP] at hg
     obtain ⟨fl', h1, h2, h3, h4, h5, h6⟩ := chain_rd h hr.2 hg
     rw [List.length_drop] at h4
     refine ⟨fl', by simpa using h1, h2, by omega, by omega, ?_, h6⟩
     have : win (c.drop a.size) (fl'.offset - (off + a.size)) e.t.size = win c (fl'.offset - off) e.t.size := by
      unfold win
      rw [List.drop_drop]
      congr 2
      omega
     rw [← this]; exact h5
   ·cases h
  ·cases h
theorem fieldK_sound {t : TypeId} {x : Operand} {i : Nat} (hc : Ctx E.P H S β a w o g) (hs : Sub gv g) (ho : o.op = .field t x i)
  (hk : fieldK gv o (E.ty t) x i some = some us) : OpSound E.P H S β a w o (g.ups us) := by
 unfold fieldK at hk
 split at hk
 ·rename_i ta tb y hx
  split at hk
  ·rename_i ht
   split at hk
   ·rename_i e hg
    split at hk
    ·obtain ⟨fs, hfs, hch⟩ := tyN_pair (ht : tyN E.P (7 + 1) t = _)
     have hr : ∃ c, evl (vals a) x = some (valOf (.pair ta tb) c) ∧ Rd S w (.pair ta tb) y c := by
      rcases opnd_dat hc.rel (hs.sv hx (by simp)) with ⟨s, rfl, hs'⟩ | ⟨_, c, hcc, hr⟩
      ·obtain ⟨c, hv, hV⟩ := hc.rel.dat hs'
       exact ⟨c, hV, VRel_sh.1 hv⟩
      ·exact ⟨c, hcc, hr⟩
     obtain ⟨c, hcv, hr⟩ := hr
     have ex : a.eval x = .agg c.toArray := evl_eval hcv
     obtain ⟨fl, h1, h2, _, h4, h5, h6⟩ := chain_rd hch hr hg
     rw [Nat.sub_zero] at h4 h5
     obtain ⟨te, xe, fe⟩ := e
     simp only at h6 h5 h4 h2
     subst h6
     refine DV.look (d := ⟨te, xe, .sh⟩) ⟨rfl, _, h5, rfl⟩ hc.rel hc.dead hc.opIn hk ?_
     have hf' : fs[i]? = some fl := by simpa using h1
     have hrun : (Instr.field t (.agg c.toArray) i).run E.P w = .ok (valOf te (win c fl.offset te.size)) w := by
      simp only [Instr.field, Sem.run_bind, run_underlying' hfs, Result.andThen_ok, hf', asAgg, Sem.run_pure, run_part (d := 6) h2 h4]
     simp only [execOp, ho, ex, Sem.run_bind, hrun, Result.andThen_ok, Sem.run_pure]
    ·cases hk
   ·cases hk
  ·cases hk
 ·cases hk
end
end Go.Rf

end
section
namespace Go.Rf
set_option linter.unusedSectionVars false
variable [T : Laid]
section
variable {P : Program} {H : Nat → Option (List Value)} {N : Nat} {g g' σ : View} {V V' : Nat → Option Value} {w w' : World} {S S' : Nat → Prop} {β β' : Key → Option Nat} {a : Act} {o : Oper}
variable {E : Env} {gv : View} {us : List Up}
theorem toList_one {α : Type} {xs : Array α} {x : α} (h : xs.toList = [x]) : xs = #[x] := Array.toList_inj.1 h
theorem toList_two {α : Type} {xs : Array α} {x y : α} (h : xs.toList = [x, y]) : xs = #[x, y] := Array.toList_inj.1 h
theorem builtinK_sound {b : Builtin} {c : Call} (hc : Ctx E.P H S β a w o g) (hs : Sub gv g) (hm : o.op = .call c) (hcal : c.callee = .builtin b)
  (hk : builtinK E gv o b c some = some us) : OpSound E.P H S β a w o (g.ups us) := by
 unfold builtinK at hk
 split at hk
 ·rename_i x t h1 h2
  exact lenK_sound (ty := o.type) hc hs hm hcal (toList_one h1) (toList_one h2) hk
 ·rename_i x y t t' h1 h2
  exact appendK_sound hc hs hm hcal (toList_two h1) (toList_two h2) hk
 ·exact minK_sound hc hs hm hcal rfl hk
 ·rename_i x y t t' h1 h2
  exact copyK_sound hc hs hm hcal (toList_two h1) (toList_two h2) hk
 ·cases hk
theorem opK_sound {R : Run E} {mv : Bool} (hc : Ctx E.P H S β a w o g) (hs : Sub gv g)
  (hcall : ∀ c f, o.op = .call c → c.callee = .value (.func f) → callK E R gv o f c.args.toList some = some us → OpSound E.P H S β a w o (g.ups us))
  (hcallv : ∀ c s v f, o.op = .call c → c.callee = .value (.tmp s) → dataOf gv (gv s).sv = some ⟨.fn, v, f⟩ → callVK E R gv o v c.args.toList c.argTypes.toList some = some us → OpSound E.P H S β a w o (g.ups us))
  (hk : opK E R mv gv o some = some us) : OpSound E.P H S β a w o (g.ups us) := by
 unfold opK at hk
 split at hk
 ·rename_i hm; exact moveK_sound hc hs hm hk
 ·rename_i hm; exact assignK_sound hc hs hm hk
 ·rename_i hm; exact pickK_sound hc hs hm hk
 ·rename_i hm; exact allocK_sound hc hm hk
 ·rename_i hm; exact boxK_sound hc hs hm hk
 ·rename_i hm; exact buildK_sound hc hs hm hk
 ·rename_i hm; exact buildSliceK_sound hc hs hm hk
 ·rename_i hm; exact loadK_sound hc hs hm hk
 ·rename_i hm; exact storeK_sound hc hs hm hk
 ·rename_i hm; exact nilK_sound hc hs hm hk
 ·rename_i hm
  split at hk
  ·rename_i hy; exact nilQ_sound hc hs hm hy hk
  ·exact binX_sound hc hs hm hk
 ·rename_i hm; exact unK_sound hc hs hm hk
 ·rename_i s t x hm
  by_cases hb : E.ty s = some .str ∧ E.ty t = some (.sl (.int .u8))
  ·exact strBytes_sound hc hs hm hb.1 hb.2 hk
  ·exact convK_sound hc hs hm hb hk
 ·rename_i h first caps hm
  split at hk
  ·rename_i he
   have : first = #[] := Array.toList_inj.1 (List.isEmpty_iff.1 he)
   subst this
   split at hk
   ·rename_i rs hr; exact makeFuncK_sound hc hs hm hr hk
   ·cases hk
  ·cases hk
 ·rename_i hm; exact makeSliceK_sound hc hs hm hk
 ·rename_i hm; exact sliceK_sound hc hs hm hk
 ·rename_i hm; exact fieldAddrK_sound hc hs hm hk
 ·rename_i hm; exact indexAddrK_sound hc hs hm hk
 ·rename_i hm; exact indexK_sound hc hs hm hk
 ·rename_i hm; exact extractK_sound hc hs hm hk
 ·rename_i hm; exact fieldK_sound hc hs hm hk
 ·rename_i c hm
  split at hk
  ·rename_i b hcal; exact builtinK_sound hc hs hm hcal hk
  ·rename_i f hcal; exact hcall c f hm hcal hk
  ·rename_i s hcal
   split at hk
   ·rename_i v f hd; exact hcallv c s v f hm hcal hd hk
   ·cases hk
  ·cases hk
 ·cases hk
end
end Go.Rf

end
section
namespace Go.Rf
set_option linter.unusedSectionVars false
variable [T : Laid]
variable {ρ : Type}
theorem outp_bind {o : Oper} {us : List Up} {v : SV} {κ : List Up → Option ρ} : outp o us v κ = (outp o us v some).bind κ := by
 unfold outp; split <;> rfl
theorem cond_bind {α γ : Type} {b : Bool} {x y : Option α} {f : α → Option γ} : (cond b x y).bind f = cond b (x.bind f) (y.bind f) := by cases b <;> rfl
theorem moveK_bind {g : View} {mv : Bool} {o : Oper} {t : Option Ty} {x : Operand} {κ : List Up → Option ρ} : moveK g mv o t x κ = (moveK g mv o t x some).bind κ := by
 unfold moveK; (repeat' split) <;> first | rfl | exact outp_bind
theorem nilK_bind {g : View} {o : Oper} {x : Operand} {κ : List Up → Option ρ} : nilK g o x κ = (nilK g o x some).bind κ := by
 unfold nilK; (repeat' split) <;> first | rfl | exact outp_bind
theorem assignK_bind {g : View} {mv : Bool} {o : Oper} {t : Option Ty} {x : Operand} {κ : List Up → Option ρ} : assignK g mv o t x κ = (assignK g mv o t x some).bind κ := by
 unfold assignK; (repeat' split) <;> first | rfl | exact outp_bind
theorem loadK_bind {g : View} {o : Oper} {t : Option Ty} {x : Operand} {κ : List Up → Option ρ} : loadK g o t x κ = (loadK g o t x some).bind κ := by
 unfold loadK; (repeat' split) <;> first | rfl | exact outp_bind
theorem conds_bind {α : Type} {κ : α → Option ρ} {x : Option α} : ∀ {cs : List Bool}, (conds cs x).bind κ = conds cs (x.bind κ)
 | [] => rfl
 | b :: l => by simp only [conds]; rw [cond_bind, conds_bind]; rfl
theorem storeK_bind {g : View} {mv : Bool} {o : Oper} {t : Option Ty} {x y : Operand} {κ : List Up → Option ρ} : storeK g mv o t x y κ = (storeK g mv o t x y some).bind κ := by
 unfold storeK; (repeat' split) <;> first | rfl | (rw [conds_bind]; rfl)
theorem fieldAddrK_bind {g : View} {o : Oper} {t : Option Ty} {x : Operand} {i : Nat} {κ : List Up → Option ρ} : fieldAddrK g o t x i κ = (fieldAddrK g o t x i some).bind κ := by
 unfold fieldAddrK; (repeat' split) <;> first | rfl | exact outp_bind
theorem indexAddrK_bind {g : View} {o : Oper} {t : Option Ty} {x i : Operand} {κ : List Up → Option ρ} : indexAddrK g o t x i κ = (indexAddrK g o t x i some).bind κ := by
 unfold indexAddrK; simp only [Bool.cond_eq_ite]; (repeat' split) <;> first | rfl | exact outp_bind
theorem indexK_bind {g : View} {o : Oper} {t : Option Ty} {x i : Operand} {κ : List Up → Option ρ} : indexK g o t x i κ = (indexK g o t x i some).bind κ := by
 unfold indexK; simp only [Bool.cond_eq_ite]; (repeat' split) <;> first | rfl | exact outp_bind
theorem buildK_bind {E : Env} {g : View} {mv : Bool} {o : Oper} {t : TypeId} {ps : Array (Nat × Operand)} {κ : List Up → Option ρ} : buildK E g mv o t ps κ = (buildK E g mv o t ps some).bind κ := by
 unfold buildK; (repeat' split) <;> first | rfl | exact outp_bind
theorem buildSliceK_bind {E : Env} {g : View} {mv : Bool} {o : Oper} {t : TypeId} {n : Nat} {ps : Array (Nat × Operand)} {κ : List Up → Option ρ} : buildSliceK E g mv o t n ps κ = (buildSliceK E g mv o t n ps some).bind κ := by
 unfold buildSliceK; (repeat' split) <;> first | rfl | exact outp_bind
theorem makeSliceK_bind {E : Env} {g : View} {mv : Bool} {o : Oper} {t : TypeId} {l c : Operand} {κ : List Up → Option ρ} : makeSliceK E g mv o t l c κ = (makeSliceK E g mv o t l c some).bind κ := by
 unfold makeSliceK; simp only [Bool.cond_eq_ite]; (repeat' split) <;> first | rfl | exact outp_bind
theorem boundK_bind {x : Option SV} {d : Nat} {κ : Nat → Option (List Up)} {κ' : List Up → Option ρ} : (boundK x d κ).bind κ' = boundK x d fun n => (κ n).bind κ' := by
 unfold boundK; simp only [Bool.cond_eq_ite]; (repeat' split) <;> first | rfl
theorem sliceK_bind {g : View} {o : Oper} {t : Option Ty} {x : Operand} {lo hi : Option Operand} {κ : List Up → Option ρ} : sliceK g o t x lo hi κ = (sliceK g o t x lo hi some).bind κ := by
 unfold sliceK
 split
 ·rw [boundK_bind]; congr; funext h; rw [boundK_bind]; congr; funext l
  simp only [Bool.cond_eq_ite]; (repeat' split) <;> first | rfl | exact outp_bind
 ·split
  ·split
   ·rw [boundK_bind]; congr; funext h; rw [boundK_bind]; congr; funext l
    simp only [Bool.cond_eq_ite]; (repeat' split) <;> first | rfl | exact outp_bind
   ·rfl
  ·rfl
 ·rfl
theorem appendK_bind {g : View} {o : Oper} {t t' : Option Ty} {x y : Operand} {κ : List Up → Option ρ} : appendK g o t t' x y κ = (appendK g o t t' x y some).bind κ := by
 unfold appendK; simp only [Bool.cond_eq_ite]; (repeat' split) <;> first | rfl | exact outp_bind
theorem lenK_bind {g : View} {o : Oper} {t : Option Ty} {x : Operand} {κ : List Up → Option ρ} : lenK g o t x κ = (lenK g o t x some).bind κ := by
 unfold lenK; (repeat' split) <;> first | rfl | exact outp_bind
theorem minK_bind {g : View} {o : Oper} {xs : List Operand} {κ : List Up → Option ρ} : minK g o xs κ = (minK g o xs some).bind κ := by
 unfold minK; (repeat' split) <;> first | rfl | exact outp_bind
theorem extractK_bind {g : View} {o : Oper} {x : Operand} {i : Nat} {κ : List Up → Option ρ} : extractK g o x i κ = (extractK g o x i some).bind κ := by
 unfold extractK; (repeat' split) <;> first | rfl | exact outp_bind
theorem pickK_bind {g : View} {o : Oper} {c x y : Operand} {κ : List Up → Option ρ} : pickK g o c x y κ = (pickK g o c x y some).bind κ := by
 unfold pickK
 split
 ·rename_i t _
  cases t
  ·simp only [cond_false]; split <;> first | rfl | exact outp_bind
  ·simp only [cond_true]; split <;> first | rfl | exact outp_bind
 ·rfl
theorem allocK_bind {E : Env} {mv : Bool} {o : Oper} {t : TypeId} {κ : List Up → Option ρ} : allocK E mv o t κ = (allocK E mv o t some).bind κ := by
 unfold allocK; (repeat' split) <;> first | rfl | exact outp_bind
theorem boxK_bind {E : Env} {g : View} {mv : Bool} {o : Oper} {t : TypeId} {x : Operand} {κ : List Up → Option ρ} : boxK E g mv o t x κ = (boxK E g mv o t x some).bind κ := by
 unfold boxK; (repeat' split) <;> first | rfl | exact outp_bind
theorem intK_bind {op : BinOp} {k k' : IntKind} {x y : Int} {o : Oper} {κ : List Up → Option ρ} : intK op k x k' y (fun d => outp o [] (.dat d) κ) = (intK op k x k' y (fun d => outp o [] (.dat d) some)).bind κ := by
 unfold intK; simp only [Bool.cond_eq_ite]; (repeat' split) <;> first | rfl | exact outp_bind
theorem binK_bind {op : BinOp} {t : Option Ty} {x y : SV} {o : Oper} {κ : List Up → Option ρ} : binK op t x y (fun d => outp o [] (.dat d) κ) = (binK op t x y (fun d => outp o [] (.dat d) some)).bind κ := by
 unfold binK
 split
 ·exact intK_bind
 ·unfold strK; simp only [Bool.cond_eq_ite]; (repeat' split) <;> first | rfl | exact outp_bind
 ·(repeat' split) <;> first | rfl | exact outp_bind
 ·rfl
theorem binX_bind {E : Env} {op : BinOp} {t : TypeId} {x y : SV} {o : Oper} {κ : List Up → Option ρ} : binX E op t x y (fun d => outp o [] (.dat d) κ) = (binX E op t x y (fun d => outp o [] (.dat d) some)).bind κ := by
 unfold binX
 split
 ·(repeat' split) <;> first | rfl | exact outp_bind
 ·exact binK_bind
theorem nilQ_bind {g : View} {o : Oper} {op : BinOp} {t : Option Ty} {x : Operand} {κ : List Up → Option ρ} : nilQ g o op t x κ = (nilQ g o op t x some).bind κ := by
 unfold nilQ
 (repeat' split) <;> first | rfl | (generalize Nat.beq _ _ = q; cases q <;> exact outp_bind)
theorem unK_bind {op : UnOp} {x : SV} {o : Oper} {κ : List Up → Option ρ} : unK op x (fun d => outp o [] (.dat d) κ) = (unK op x (fun d => outp o [] (.dat d) some)).bind κ := by
 unfold unK; (repeat' split) <;> first | rfl | exact outp_bind
theorem convK_bind {s t : Option Ty} {x : Option Dat} {o : Oper} {κ : List Up → Option ρ} : convK s t x (fun d => outp o [] (.dat d) κ) = (convK s t x (fun d => outp o [] (.dat d) some)).bind κ := by
 unfold convK; (repeat' split) <;> first | rfl | exact outp_bind
theorem callK0_bind {E : Env} {R : Run E} {g : View} {o : Oper} {f : FuncId} {xs : List Operand} {κ : List Up → Option ρ} : callK0 E R g o f xs κ = (callK0 E R g o f xs some).bind κ := by
 unfold callK0
 split
 ·split
  ·split
   ·rw [Option.bind_assoc]
    congr
    funext x
    (repeat' split) <;> rfl
   ·rfl
  ·rfl
 ·rfl
theorem callK_bind {E : Env} {R : Run E} {g : View} {o : Oper} {f : FuncId} {xs : List Operand} {κ : List Up → Option ρ} : callK E R g o f xs κ = (callK E R g o f xs some).bind κ := by
 unfold callK
 rw [callK0_bind (κ := fun us => κ (softs o.dst g us)), callK0_bind (κ := fun us => some (softs o.dst g us)), Option.bind_assoc]
 rfl
theorem callVK_bind {E : Env} {R : Run E} {g : View} {o : Oper} {v : FnVal} {xs : List Operand} {ts : List TypeId} {κ : List Up → Option ρ} : callVK E R g o v xs ts κ = (callVK E R g o v xs ts some).bind κ := by
 unfold callVK
 split
 ·split
  ·rw [Option.bind_assoc]
   congr
   funext x
   exact outp_bind
  ·rfl
 ·rfl
theorem fieldK_bind {g : View} {o : Oper} {t : Option Ty} {x : Operand} {i : Nat} {κ : List Up → Option ρ} : fieldK g o t x i κ = (fieldK g o t x i some).bind κ := by
 unfold fieldK; (repeat' split) <;> first | rfl | exact outp_bind
theorem copyK_bind {g : View} {o : Oper} {t : Option Ty} {x y : Operand} {κ : List Up → Option ρ} : copyK g o t x y κ = (copyK g o t x y some).bind κ := by
 unfold copyK; simp only [Bool.cond_eq_ite]; (repeat' split) <;> rfl
theorem builtinK_bind {E : Env} {g : View} {o : Oper} {b : Builtin} {c : Call} {κ : List Up → Option ρ} : builtinK E g o b c κ = (builtinK E g o b c some).bind κ := by
 unfold builtinK
 split
 ·exact lenK_bind
 ·exact appendK_bind
 ·exact minK_bind
 ·exact copyK_bind
 ·rfl
theorem opK_bind {E : Env} {R : Run E} {mv : Bool} {g : View} {o : Oper} {κ : List Up → Option ρ} : opK E R mv g o κ = (opK E R mv g o some).bind κ := by
 unfold opK
 split
 ·exact moveK_bind
 ·exact assignK_bind
 ·exact pickK_bind
 ·exact allocK_bind
 ·exact boxK_bind
 ·exact buildK_bind
 ·exact buildSliceK_bind
 ·exact loadK_bind
 ·exact storeK_bind
 ·exact nilK_bind
 ·split
  ·exact nilQ_bind
  ·exact binX_bind
 ·exact unK_bind
 ·exact convK_bind
 ·(repeat' split) <;> first | rfl | exact outp_bind
 ·exact makeSliceK_bind
 ·exact sliceK_bind
 ·exact fieldAddrK_bind
 ·exact indexAddrK_bind
 ·exact indexK_bind
 ·exact extractK_bind
 ·exact fieldK_bind
 ·split
  ·exact builtinK_bind
  ·exact callK_bind
  ·split
   ·exact callVK_bind
   ·rfl
  ·rfl
 ·rfl
end Go.Rf

end
section
namespace Go.Rf
set_option linter.unusedSectionVars false
variable [T : Laid]
section
variable {P : Program} {H : Nat → Option (List Value)} {N : Nat} {g g' σ : View} {V V' : Nat → Option Value} {w w' : World} {S S' : Nat → Prop} {β β' : Key → Option Nat} {a : Act} {o : Oper}
variable {E : Env} {gv : View} {us : List Up} {ρ : Type}
theorem at_out {l : List Slot} {i : Nat} (h : l.length ≤ i) : (at? l i).sv = .dead := by
 unfold at?; simp [List.getD, List.getElem?_eq_none h, Slot.dead]
theorem dead_at {l : List Slot} : DeadFrom l.length (at? l) := fun _ hi => at_out hi
theorem upL_len {l : List Slot} {u : Up} : (upL l u).length = l.length := by simp [upL]
theorem upsL_len : ∀ {us : List Up} {l : List Slot}, (upsL l us).length = l.length
 | [], _ => rfl
 | u :: us, l => by simp only [upsL]; rw [upsL_len, upL_len]
theorem at_upL {l : List Slot} {u : Up} {i : Nat} (hi : i < l.length) : at? (upL l u) i = (View.up (at? l) u) i := by
 unfold at? upL
 by_cases e : i = u.slot
 ·subst e
  rw [up_eq]
  simp [List.getD, hi, at?]
 ·rw [up_ne e]
  simp [List.getD, List.getElem?_set, Ne.symm e]
theorem at_upsL : ∀ {us : List Up} {l : List Slot} {g : View}, (∀ i, i < l.length → at? l i = g i) → ∀ i, i < l.length → at? (upsL l us) i = (g.ups us) i
 | [], _, _, h => h
 | u :: us, l, g, h => by
  intro i hi
  simp only [upsL]
  refine at_upsL (g := g.up u) (fun j hj => ?_) i (by rw [upL_len]; exact hi)
  rw [upL_len] at hj
  rw [at_upL hj]
  by_cases e : j = u.slot
  ·subst e; rw [up_eq, up_eq, h _ hj]
  ·rw [up_ne e, up_ne e, h j hj]
theorem sub_view {l : List Slot} {fp : List Nat} : Sub (viewOf l fp) (at? l) := fun i => by
 unfold viewOf
 by_cases h : (fp.any (Nat.beq i ·)) = true
 ·right; simp [h]
 ·left; simp [h, Slot.dead]
theorem setSV_same {l : List Slot} {i : Nat} {v : SV} (h : (at? l i).sv = v) : setSV l i v = l := by
 unfold setSV
 by_cases hi : i < l.length
 ·apply List.ext_getElem?
  intro j
  rw [List.getElem?_set]
  split
  ·rename_i e; subst e
   have : at? l i = l[i] := by simp [at?, List.getD, hi]
   rw [List.getElem?_eq_getElem hi, ← this, ← h]
  ·rfl
 ·rw [List.set_eq_of_length_le (by omega)]
def CallsOK (E : Env) (R : Run E) : Prop := ∀ (H : Nat → Option (List Value)) (S : Nat → Prop) (β : Key → Option Nat) (a : Act) (w : World) (o : Oper) (g gv : View) (us : List Up),
 Ctx E.P H S β a w o g → Sub gv g →
  (∀ c f, o.op = .call c → c.callee = .value (.func f) → callK E R gv o f c.args.toList some = some us → OpSound E.P H S β a w o (g.ups us)) ∧
  (∀ c s v f, o.op = .call c → c.callee = .value (.tmp s) → dataOf gv (gv s).sv = some ⟨.fn, v, f⟩ → callVK E R gv o v c.args.toList c.argTypes.toList some = some us → OpSound E.P H S β a w o (g.ups us))
theorem op_step {R : Run E} (hR : CallsOK E R) {mv : Bool} {l : List Slot} {fp : List Nat} {κ : List Up → Option ρ} {r : ρ} {K : Act → World → Prop} {Q : Exit → Act → World → Prop} (hl : l.length = a.tmps.size) (h : Rel H a.tmps.size (at? l) (vals a) w S β) (hi : opIn a.tmps.size o = true)
  (hk : opK E R mv (viewOf l fp) o κ = some r)
  (hK : ∀ us a' w' S' β', κ us = some r → a'.tmps.size = a.tmps.size → a'.defers = a.defers → Rel H a.tmps.size (at? (upsL l us)) (vals a') w' S' β' → Step w S β w' S' β' → K a' w') : o.wp E.P a w K Q := by
 rw [opK_bind] at hk
 obtain ⟨us, h1, h2⟩ := Option.bind_eq_some_iff.1 hk
 have hc : Ctx E.P H S β a w o (at? l) := ⟨h, hl ▸ dead_at, hi⟩
 obtain ⟨c1, c2⟩ := hR H S β a w o (at? l) (viewOf l fp) us hc sub_view
 refine opK_sound hc sub_view c1 c2 h1 K Q fun a' w' S' β' e1 e2 e3 e4 => hK us a' w' S' β' h2 e1 e2 (e3.fin (fun i hi => ?_) (fun i hi => ?_) (fun _ _ => rfl)) e4
 ·exact at_upsL (fun _ _ => rfl) i (by omega)
 ·exact at_out (by rw [upsL_len]; omega)
theorem Rel.unset {d : Nat} {l : List Slot} (hl : l.length = a.tmps.size) (h : Rel H a.tmps.size (at? l) (vals a) w S β) (hd : d < a.tmps.size) : Rel H a.tmps.size (at? (upL l (.put d .und))) (vals (a.put (some d) undef)) w S β := by
 rw [vals_put hd]
 have h1 : Rel H a.tmps.size (View.up (at? l) (.put d .und)) (upd (vals a) d undef) w S β :=
  h.put h.sane (fun b hb => ⟨hb, rfl⟩) (fun _ _ _ _ _ hb => ⟨hb, rfl⟩) (fun j hj => by simp [upd, hj]) (by simp [SVRel, upd])
 refine h1.fin (fun i hi => at_upL (by omega)) (fun i hi => at_out (by rw [upL_len]; omega)) (fun _ _ => rfl)
theorem yielded_dat {all : List Oper} {j g : Nat} {l : List Slot} {t : Bool} (h : Rel H N (at? l) (vals a) w S β) (hg : (all[j]?).bind Oper.dst = some g) (hv : (at? l g).sv = .dat ⟨.bool, t, .sh⟩) : yielded all.toArray a.tmps j = some t := by
 have := bool_of (x := .tmp g) h (show sv (at? l) (.tmp g) = _ from hv) sh_ne
 simp only [evl, vals] at this
 unfold yielded
 simp only [List.getElem?_toArray]
 rw [hg]
 simp [this]
theorem yielded_und {all : List Oper} {j g : Nat} {l : List Slot} (h : Rel H N (at? l) (vals a) w S β) (hg : (all[j]?).bind Oper.dst = some g) (hv : (at? l g).sv = .und) : yielded all.toArray a.tmps j = none := by
 have := h.slots g
 rw [hv] at this
 simp only [SVRel, vals] at this
 unfold yielded
 simp only [List.getElem?_toArray]
 rw [hg]
 simp [this, undef]
theorem text_region {R : Run E} (hR : CallsOK E R) {mv : List Nat} {all : List Oper} {κ : List Slot → Option ρ} {r : ρ} {Q : Exit → Act → World → Prop} : ∀ {os : List Oper} {i : Nat} {l : List Slot} {acc : List Rec} {a : Act} {w : World} {S : Nat → Prop} {β : Key → Option Nat},
  l.length = a.tmps.size → Rel H a.tmps.size (at? l) (vals a) w S β → (∀ o ∈ os, opIn a.tmps.size o = true) →
  opsK E R mv all false os i l acc κ = some r →
  (∀ l' a' w' S' β', l'.length = a.tmps.size → κ l' = some r → a'.tmps.size = a.tmps.size → a'.defers = a.defers → Rel H a.tmps.size (at? l') (vals a') w' S' β' → Step w S β w' S' β' → Q .normal a' w') →
  wpList E.P all.toArray Q os a w
 | [], i, l, acc, a, w, S, β, hl, h, _, hk, hQ => hQ l a w S β hl hk rfl rfl h .refl
 | o :: os, i, l, acc, a, w, S, β, hl, h, hin, hk, hQ => by
  have hgo : ∀ {gs : List Nat} {l : List Slot}, l.length = a.tmps.size → Rel H a.tmps.size (at? l) (vals a) w S β →
    opK E R (mv.any (Nat.beq i ·)) (viewOf l (fpOf o l)) o (fun us => opsK E R mv all false os (i + 1) (upsL l us) (acc ++ [recOf (mv.any (Nat.beq i ·)) gs l o us]) κ) = some r →
    Region.wanted o (yielded all.toArray a.tmps) = true → wpList E.P all.toArray Q (o :: os) a w := by
   intro gs l hl h hk hw
   unfold wpList
   rw [if_pos hw]
   left
   refine op_step hR hl h (hin o (by simp)) hk fun us a' w' S' β' e0 e1 e2 e3 e4 => ?_
   refine text_region hR (l := upsL l us) (by rw [upsL_len, hl, e1]) (by rw [e1]; exact e3) (fun o ho => by rw [e1]; exact hin o (by simp [ho])) e0 ?_
   intro l' a'' w'' S'' β'' f1 f2 f3 f4 f5 f6
   exact hQ l' a'' w'' S'' β'' (f1.trans e1) f2 (f3.trans e1) (f4.trans e2) (by rw [← e1]; exact f5) (e4.trans f6)
  have hskip : ∀ {gs : List Nat} {l : List Slot}, l.length = a.tmps.size → Rel H a.tmps.size (at? l) (vals a) w S β →
    (match o.dst with
     | some d => opsK E R mv all false os (i + 1) (upL l (.put d .und)) (acc ++ [⟨gs, [d], [], [d], [], [d]⟩]) κ
     | none => opsK E R mv all false os (i + 1) l (acc ++ [⟨gs, [], [], [], [], []⟩]) κ) = some r →
    Region.wanted o (yielded all.toArray a.tmps) = false → wpList E.P all.toArray Q (o :: os) a w := by
   intro gs l hl h hk hw
   unfold wpList
   rw [if_neg (by rw [hw]; simp)]
   split at hk
   ·rename_i d hd
    have hdN := opIn_dst (hin o (by simp)) hd
    rw [hd]
    have hs : (a.put (some d) undef).tmps.size = a.tmps.size := put_size
    refine text_region hR (l := upL l (.put d .und)) (by rw [upL_len, hl, hs]) (by rw [hs]; exact h.unset hl hdN) (fun o ho => by rw [hs]; exact hin o (by simp [ho])) hk ?_
    intro l' a'' w'' S'' β'' f1 f2 f3 f4 f5 f6
    exact hQ l' a'' w'' S'' β'' (f1.trans hs) f2 (f3.trans hs) (f4.trans put_defers) (by rw [← hs]; exact f5) f6
   ·rename_i hd
    rw [hd]
    exact text_region hR hl h (fun o ho => hin o (by simp [ho])) hk hQ
  unfold opsK at hk
  simp only at hk
  split at hk
  ·rename_i hg
   exact hgo hl h hk (by simp [Region.wanted, hg])
  ·rename_i j want hg
   split at hk
   ·cases hk
   ·rename_i g hgd
    split at hk
    ·rename_i t hv
     have hy := yielded_dat h hgd hv
     cases t with
     | true =>
      simp only [cond_true] at hk
      rw [setSV_same hv] at hk
      split at hk
      ·rename_i hw; exact hgo hl h hk (by simp [Region.wanted, hg, hy, hw])
      ·rename_i hw; exact hskip hl h hk (by simp [Region.wanted, hg, hy]; simpa using hw)
     | false =>
      simp only [cond_false] at hk
      rw [setSV_same hv] at hk
      split at hk
      ·rename_i hw; exact hskip hl h hk (by simp [Region.wanted, hg, hy, hw])
      ·rename_i hw; exact hgo hl h hk (by simp [Region.wanted, hg, hy]; simpa using hw)
    ·rename_i hv
     have hy := yielded_und h hgd hv
     exact hskip hl h hk (by simp [Region.wanted, hg, hy])
    ·cases hk
end
end Go.Rf

end
section
namespace Go.Rf
set_option linter.unusedSectionVars false
variable [T : Laid]
section
variable {P : Program} {H : Nat → Option (List Value)} {N : Nat} {V V' : Nat → Option Value} {w w' : World} {S S' : Nat → Prop} {β β' : Key → Option Nat} {a : Act} {o : Oper}
theorem scrub_len {keep : List Nat} {l : List Slot} : ∀ {xs : List Slot} {i : Nat}, (scrub keep l xs i).length = xs.length
 | [], _ => rfl
 | x :: xs, i => by simp [scrub, scrub_len]
theorem scrub_get {keep : List Nat} {l : List Slot} : ∀ {xs : List Slot} {i j : Nat}, j < xs.length → (scrub keep l xs i)[j]? = some (if keep.any (Nat.beq (i + j) ·) then scrubSV l (at? xs j).sv else .dead)
 | [], _, _, h => by simp at h
 | x :: xs, i, 0, _ => by simp [scrub, at?]
 | x :: xs, i, j + 1, h => by
  simp only [scrub, List.getElem?_cons_succ]
  rw [scrub_get (by simpa using h)]
  rw [show i + 1 + j = i + (j + 1) by omega]
  simp [at?, List.getD]
theorem at_start {σ : List SV} {i : Nat} : at? (start σ) i = (match σ[i]? with | some v => ⟨v, 0, 0, 0⟩ | none => Slot.dead) := by
 unfold at? start
 rw [List.getD, List.getElem?_map]
 cases σ[i]? <;> rfl
theorem scrub_rel {keep : List Nat} {l : List Slot} (h : Rel H N (at? l) V w S β) (hl : l.length = N) : Rel H N (at? (start (scrub keep l l 0))) V w S β := by
 have back : ∀ {r : Nat} {dr : Dat}, (at? (start (scrub keep l l 0)) r).sv = .dat dr → (at? l r).sv = .dat dr := by
  intro r dr hr
  rw [at_start] at hr
  by_cases hrl : r < l.length
  ·rw [scrub_get hrl] at hr
   simp only at hr
   split at hr
   ·revert hr
    cases hv : (at? l r).sv <;> simp only [scrubSV] <;> intro hr
    ·cases hr
    ·exact hr
    ·cases hr
    ·split at hr <;> cases hr
    ·split at hr <;> cases hr
    ·cases hr
    ·split at hr <;> cases hr
    ·cases hr
    ·cases hr
    ·cases hr
   ·cases hr
  ·have : (scrub keep l l 0)[r]? = none := List.getElem?_eq_none (by rw [scrub_len]; omega)
   rw [this] at hr; cases hr
 refine ⟨h.sane, fun i => ?_⟩
 rw [at_start]
 by_cases hil : i < l.length
 ·rw [scrub_get hil]
  simp only [Nat.zero_add]
  split
  ·have hs := h.slots i
   cases hv : (at? l i).sv with
   | dead => trivial
   | nils => rw [hv] at hs; exact hs.elim
   | und => trivial
   | unk => rw [hv] at hs; exact hs
   | dat d => rw [hv] at hs; exact hs
   | tup d => rw [hv] at hs; exact hs
   | pend _ _ _ _ _ _ => trivial
   | adr r p c s =>
    rw [hv] at hs
    obtain ⟨k0, _, _, k3⟩ := hs
    simp only [scrubSV]
    split
    ·rename_i hok
     exact ⟨k0, Nat.zero_le _, Nat.zero_le _, fun _ dr hdr => k3 hok dr (back hdr)⟩
    ·trivial
   | als r p c s =>
    rw [hv] at hs
    obtain ⟨k0, _, _, k3⟩ := hs
    simp only [scrubSV]
    split
    ·rename_i hok
     exact ⟨k0, Nat.zero_le _, Nat.zero_le _, fun _ dr hdr => k3 hok dr (back hdr)⟩
    ·trivial
   | clo f rs =>
    rw [hv] at hs
    obtain ⟨k1, k2⟩ := hs
    simp only [scrubSV]
    split
    ·rename_i hok
     refine ⟨fun x hx => ?_, fun _ vs hvs => k2 (fun x hx => ?_) vs ?_⟩
     ·obtain ⟨y, hy, rfl⟩ := List.mem_map.1 hx
      exact ⟨(k1 y hy).1, Nat.zero_le _⟩
     ·have := List.all_eq_true.1 hok x hx
      simpa [Nat.beq_eq] using this
     ·rw [← hvs, List.map_map]; rfl
    ·trivial
  ·trivial
 ·have : (scrub keep l l 0)[i]? = none := List.getElem?_eq_none (by rw [scrub_len]; omega)
  rw [this]; trivial
structure RelS (H : Nat → Option (List Value)) (σ : List SV) (a : Act) (w : World) (S : Nat → Prop) (β : Key → Option Nat) : Prop where
 len : σ.length = a.tmps.size
 rel : Rel H a.tmps.size (at? (start σ)) (vals a) w S β
end
end Go.Rf

end
section
namespace Go.Rf
set_option linter.unusedSectionVars false
variable [T : Laid]
section
variable {P : Program} {H : Nat → Option (List Value)} {w w' : World} {S S' : Nat → Prop} {β β' : Key → Option Nat} {a : Act} {o : Oper}
variable {E : Env} {ρ : Type}
def exitOf : Ex → Exit
 | .nm => .normal
 | .ex id => .exit id
 | .ret => .ret
def PostK (H : Nat → Option (List Value)) (κ : Out → Option ρ) (r : ρ) (a : Act) (w : World) (S : Nat → Prop) (β : Key → Option Nat) (Q : Exit → Act → World → Prop) : Prop :=
 ∀ (o : Out) (a' : Act) (w' : World) (S' : Nat → Prop) (β' : Key → Option Nat), κ o = some r → a'.tmps.size = a.tmps.size → a'.defers = a.defers → RelS H o.σ a' w' S' β' → Step w S β w' S' β' → Q (exitOf o.e) a' w'
def DrawOK (E : Env) (R : Run E) : Prop := ∀ {ρ : Type} (H : Nat → Option (List Value)) (mv : List Nat) (ops : List Oper) (id : Nat) (l : List Slot) (a : Act) (w : World) (S : Nat → Prop) (β : Key → Option Nat) (κ : List Slot → Option ρ) (r : ρ) (Q : Exit → Act → World → Prop),
 l.length = a.tmps.size → Rel H a.tmps.size (at? l) (vals a) w S β → (∀ o ∈ ops, opIn a.tmps.size o = true) → opsK E R mv ops true ops 0 l [] κ = some r →
 (∀ l' a' w' S' β', l'.length = a.tmps.size → κ l' = some r → a'.tmps.size = a.tmps.size → a'.defers = a.defers → Rel H a.tmps.size (at? l') (vals a') w' S' β' → Step w S β w' S' β' → Q .normal a' w') →
 (Code.region id ops.toArray true).wp E.P Q a w
def LoopsOK (E : Env) (L : Loops) : Prop := ∀ (H : Nat → Option (List Value)) (f : FuncId) (b : Code) (σ : List SV) (o : Out) (a : Act) (w : World) (S : Nat → Prop) (β : Key → Option Nat) (Q : Exit → Act → World → Prop),
 dstsOK a.tmps.size b = true → L f b σ = some o → RelS H σ a w S β →
 (∀ a' w' S' β', a'.tmps.size = a.tmps.size → a'.defers = a.defers → RelS H o.σ a' w' S' β' → Step w S β w' S' β' → Q (exitOf o.e) a' w') → (Code.loop b).wp E.P Q a w
theorem RelS.fewer {σ σ' : List SV} (hl : σ'.length = σ.length) (hf : ∀ j : Nat, σ'[j]? = σ[j]? ∨ σ'[j]? = some SV.dead) (h : RelS H σ a w S β) : RelS H σ' a w S β := by
 refine ⟨by rw [hl]; exact h.len, ?_⟩
 refine ⟨h.rel.sane, fun i => ?_⟩
 have hs := h.rel.slots i
 have hat : ∀ j, at? (start σ') j = at? (start σ) j ∨ (at? (start σ') j) = ⟨.dead, 0, 0, 0⟩ := fun j => by
  rw [at_start, at_start]
  rcases hf j with e | e
  ·left; rw [e]
  ·right; rw [e]
 have stamps : ∀ j, (at? (start σ) j).c = 0 ∧ (at? (start σ) j).s = 0 ∧ (at? (start σ) j).u = 0 := fun j => by
  rw [at_start]; cases σ[j]? <;> exact ⟨rfl, rfl, rfl⟩
 have stamps' : ∀ j, (at? (start σ') j).c = 0 ∧ (at? (start σ') j).s = 0 ∧ (at? (start σ') j).u = 0 := fun j => by
  rw [at_start]; cases σ'[j]? <;> exact ⟨rfl, rfl, rfl⟩
 have back : ∀ {j dr}, (at? (start σ') j).sv = .dat dr → at? (start σ') j = at? (start σ) j := fun {j dr} hd => by
  rcases hat j with h | h
  ·exact h
  ·rw [h] at hd; cases hd
 rcases hat i with he | he
 ·rw [he]
  cases hv : (at? (start σ) i).sv with
  | dead => trivial
  | nils => rw [hv] at hs; exact hs.elim
  | und => rw [hv] at hs; exact hs
  | unk => rw [hv] at hs; exact hs
  | dat d => rw [hv] at hs; exact hs
  | tup d => rw [hv] at hs; exact hs
  | adr r p c s =>
   rw [hv] at hs
   obtain ⟨k0, k1, k2, k3⟩ := hs
   rw [(stamps r).1] at k1
   rw [(stamps r).2.1] at k2
   exact ⟨k0, by omega, by omega, fun ok dr hdr => by
    have e := back hdr
    rw [Sub.okB e] at ok
    rw [e] at hdr
    exact k3 ok dr hdr⟩
  | als r p c s =>
   rw [hv] at hs
   obtain ⟨k0, k1, k2, k3⟩ := hs
   rw [(stamps r).1] at k1
   rw [(stamps r).2.1] at k2
   exact ⟨k0, by omega, by omega, fun ok dr hdr => by
    have e := back hdr
    rw [Sub.okA e] at ok
    rw [e] at hdr
    exact k3 ok dr hdr⟩
  | pend r p c s u d =>
   rw [hv] at hs
   obtain ⟨k0, k1, k2, k3, k4⟩ := hs
   rw [(stamps r).1] at k1
   rw [(stamps r).2.1] at k2
   rw [(stamps r).2.2] at k3
   exact ⟨k0, by omega, by omega, by omega, fun ok dr hdr => by
    have e := back hdr
    rw [Sub.okU e] at ok
    rw [e] at hdr
    exact k4 ok dr hdr⟩
  | clo f rs =>
   rw [hv] at hs
   obtain ⟨k1, k2⟩ := hs
   refine ⟨fun x hx => ⟨(k1 x hx).1, by have := (k1 x hx).2; rw [(stamps x.1).2.1] at this; omega⟩, fun hall vs hvs => k2 (fun x hx => ?_) vs hvs⟩
   have := hall x hx
   rw [(stamps' x.1).2.1] at this
   rw [(stamps x.1).2.1]; exact this
 ·rw [he]; trivial
theorem RelS.setdead {σ : List SV} {t : Nat} (h : RelS H σ a w S β) : RelS H (σ.set t .dead) a w S β := h.fewer (by rw [List.length_set]) fun j => by
 rw [List.getElem?_set]
 by_cases e : t = j
 ·subst e
  by_cases ht : t < σ.length
  ·right; rw [if_pos rfl, if_pos ht]
  ·left; rw [if_pos rfl, if_neg ht, List.getElem?_eq_none (by omega)]
 ·left; rw [if_neg e]
theorem killGo_len {ks rs : List Nat} : ∀ {σ : List SV} {i : Nat}, (killGo ks rs σ i).length = σ.length
 | [], _ => rfl
 | _ :: _, _ => by simp only [killGo, List.length_cons, killGo_len]
theorem killGo_get {ks rs : List Nat} : ∀ {σ : List SV} {i : Nat} (j : Nat), (killGo ks rs σ i)[j]? = σ[j]? ∨ (killGo ks rs σ i)[j]? = some SV.dead
 | [], _, _ => .inl rfl
 | v :: vs, i, 0 => by
  simp only [killGo, List.getElem?_cons_zero]
  split
  ·right; rfl
  ·left; rfl
 | v :: vs, i, j + 1 => by
  simp only [killGo, List.getElem?_cons_succ]
  exact killGo_get j
theorem RelS.killS {σ : List SV} {ks : List Nat} (h : RelS H σ a w S β) : RelS H (killS ks σ) a w S β := by
 cases ks with
 | nil => exact h
 | cons k ks => exact h.fewer killGo_len fun j => killGo_get j
theorem RelS.afterC {keep : List Nat} {σ : List SV} {t : Nat} {x : Bool} (hx : σ.getD t .dead = .dat ⟨.bool, x, .sh⟩) (h : RelS H σ a w S β) : RelS H (afterC keep t x σ) a w S β := by
 unfold Rf.afterC
 split
 ·rw [← hx]
  have e : σ.set t (σ.getD t .dead) = σ := by
   apply List.ext_getElem?
   intro i
   rw [List.getElem?_set]
   by_cases hi : t = i
   ·subst hi
    rw [if_pos rfl]
    by_cases ht : t < σ.length
    ·rw [if_pos ht, List.getD_eq_getElem?_getD, List.getElem?_eq_getElem ht]; rfl
    ·rw [if_neg ht, List.getElem?_eq_none (by omega)]
   ·rw [if_neg hi]
  rw [e]; exact h
 ·exact h.setdead
theorem evB_sound {R : Run E} {L : Loops} {f : FuncId} (hR : CallsOK E R) (hD : DrawOK E R) (hL : LoopsOK E L) : ∀ {c : Code} {σ : List SV} {κ : Out → Option ρ} {r : ρ} {Q : Exit → Act → World → Prop} {a : Act} {w : World} {S : Nat → Prop} {β : Key → Option Nat},
  dstsOK a.tmps.size c = true → RelS H σ a w S β → evB E R L f c σ κ = some r → PostK H κ r a w S β Q → c.wp E.P Q a w
 | .skip, σ, κ, r, Q, a, w, S, β, _, h, he, hQ => wp_skip (hQ ⟨.nm, σ⟩ a w S β he rfl rfl h .refl)
 | .exit id, σ, κ, r, Q, a, w, S, β, _, h, he, hQ => wp_exit (hQ ⟨.ex id, σ⟩ a w S β he rfl rfl h .refl)
 | .ret, σ, κ, r, Q, a, w, S, β, _, h, he, hQ => wp_ret (hQ ⟨.ret, σ⟩ a w S β he rfl rfl h .refl)
 | .seq x y, σ, κ, r, Q, a, w, S, β, hd, h, he, hQ => by
  simp only [dstsOK, Bool.and_eq_true] at hd
  simp only [evB] at he
  refine wp_seq (evB_sound hR hD hL hd.1 h he fun o a' w' S' β' ho e1 e2 h' hst => ?_)
  obtain ⟨e, σ'⟩ := o
  cases e with
  | nm =>
   simp only [kseq] at ho
   exact evB_sound hR hD hL (by rw [e1]; exact hd.2) h' ho fun o a'' w'' S'' β'' ho' f1 f2 h'' hst' => hQ o a'' w'' S'' β'' ho' (f1.trans e1) (f2.trans e2) h'' (hst.trans hst')
  | ex id => exact hQ ⟨.ex id, σ'⟩ a' w' S' β' ho e1 e2 h' hst
  | ret => exact hQ ⟨.ret, σ'⟩ a' w' S' β' ho e1 e2 h' hst
 | .block id b, σ, κ, r, Q, a, w, S, β, hd, h, he, hQ => by
  simp only [dstsOK] at hd
  simp only [evB] at he
  refine wp_block (evB_sound hR hD hL hd h he fun o a' w' S' β' ho e1 e2 h' hst => ?_)
  obtain ⟨e, σ'⟩ := o
  cases e with
  | nm => exact hQ ⟨.nm, σ'⟩ a' w' S' β' ho e1 e2 h' hst
  | ex j =>
   simp only [kblock] at ho
   split at ho
   ·rename_i hj
    have hj : j = id := by simpa [Nat.beq_eq] using hj
    subst hj
    have := hQ ⟨.nm, σ'⟩ a' w' S' β' ho e1 e2 h' hst
    simpa [Exit.inBlock, exitOf] using this
   ·rename_i hj
    have hj : ¬ j = id := by simpa [Nat.beq_eq] using hj
    have := hQ ⟨.ex j, σ'⟩ a' w' S' β' ho e1 e2 h' hst
    simp only [Exit.inBlock, exitOf]
    rw [if_neg hj]; exact this
  | ret => exact hQ ⟨.ret, σ'⟩ a' w' S' β' ho e1 e2 h' hst
 | .cond c x y, σ, κ, r, Q, a, w, S, β, hd, h, he, hQ => by
  simp only [dstsOK, Bool.and_eq_true] at hd
  simp only [evB] at he
  split at he
  ·rename_i t
   split at he
   ·rename_i b hb
    have hv : (at? (start σ) t).sv = .dat ⟨.bool, b, .sh⟩ := by
     rw [at_start]
     rw [List.getD] at hb
     cases hσ : σ[t]? with
     | none => rw [hσ] at hb; cases hb
     | some v => rw [hσ] at hb; exact hb
    have hc := evl_eval (bool_of (x := .tmp t) h.rel (show sv (at? (start σ)) (.tmp t) = _ from hv) sh_ne)
    cases b with
    | true =>
     simp only [cond_true] at he
     exact wp_cond_true hc (evB_sound hR hD hL hd.1 (h.afterC hb) he hQ)
    | false =>
     simp only [cond_false] at he
     exact wp_cond_false hc (evB_sound hR hD hL hd.2 (h.afterC hb) he hQ)
   ·rename_i hb
    split at he
    ·obtain ⟨he1, he2⟩ := agree_some he
     have hv : (at? (start σ) t).sv = .unk := by
      rw [at_start]
      rw [List.getD] at hb
      cases hσ : σ[t]? with
      | none => rw [hσ] at hb; cases hb
      | some v => rw [hσ] at hb; exact hb
     have hs := h.rel.slots t
     rw [hv] at hs
     obtain ⟨b, hs⟩ := hs
     have hc : a.eval (.tmp t) = .bool b := evl_eval hs
     cases b with
     | true => exact wp_cond_true hc (evB_sound hR hD hL hd.1 h.setdead he1 hQ)
     | false => exact wp_cond_false hc (evB_sound hR hD hL hd.2 h.setdead he2 hQ)
    ·cases he
   ·cases he
  ·rename_i b
   cases b with
   | true => exact wp_cond_true rfl (evB_sound hR hD hL hd.1 h he hQ)
   | false => exact wp_cond_false rfl (evB_sound hR hD hL hd.2 h he hQ)
  ·cases he
 | .loop b, σ, κ, r, Q, a, w, S, β, hd, h, he, hQ => by
  simp only [dstsOK] at hd
  simp only [evB, loopK] at he
  obtain ⟨o, h1, h2⟩ := Option.bind_eq_some_iff.1 he
  exact hL H f b _ o a w S β Q hd h1 h.killS fun a' w' S' β' e1 e2 h' hst => hQ o a' w' S' β' h2 e1 e2 h' hst
 | .region id ops draw, σ, κ, r, Q, a, w, S, β, hd, h, he, hQ => by
  simp only [dstsOK] at hd
  simp only [evB, opsS_eq] at he
  have hin : ∀ o ∈ ops.toList, opIn a.tmps.size o = true := fun o ho => List.all_eq_true.1 hd o ho
  have hl : (start σ).length = a.tmps.size := by simp [start, h.len]
  have fin : ∀ l' a' w' S' β', l'.length = a.tmps.size → κ ⟨.nm, scrub (E.cfg f).keep l' l' 0⟩ = some r → a'.tmps.size = a.tmps.size → a'.defers = a.defers → Rel H a.tmps.size (at? l') (vals a') w' S' β' → Step w S β w' S' β' → Q .normal a' w' :=
   fun l' a' w' S' β' e0 hk e1 e2 h' hst => hQ ⟨.nm, scrub (E.cfg f).keep l' l' 0⟩ a' w' S' β' hk e1 e2 ⟨by rw [scrub_len, e0, e1], by rw [e1]; exact scrub_rel h' e0⟩ hst
  cases draw with
  | false => exact wp_region_list (by
    have := text_region hR (all := ops.toList) hl h.rel hin he fin
    simpa using this)
  | true =>
   have := hD H (mvOf (E.cfg f) id) ops.toList id (start σ) a w S β _ r Q hl h.rel hin he fin
   simpa using this
end
end Go.Rf

end
section
namespace Go.Rf
set_option linter.unusedSectionVars false
variable [T : Laid]
def LoopIn (P : Program) (c : Code) (Q : Exit → Act → World → Prop) (a : Act) (w : World) : Prop :=
 ∀ (b : Frame) (k : List Item) (cs : List Frame), ∃ e a' w', Q e a' w' ∧ Arrives P (lone (b.at a (.code c :: .inLoop c :: k)) cs w) b k cs e a' w'
theorem LoopIn.wp {P : Program} {c : Code} {Q : Exit → Act → World → Prop} {a : Act} {w : World} (h : LoopIn P c Q a w) : (Code.loop c).wp P Q a w := by
 intro b k cs
 obtain ⟨e, a', w', hq, harr⟩ := h b k cs
 exact ⟨e, a', w', hq, .of_steps (.one step_loop) harr⟩
theorem LoopIn.round {P : Program} {c : Code} {Q : Exit → Act → World → Prop} {a : Act} {w : World} (h : c.wp P (Exit.then (LoopIn P c Q) Q) a w) : LoopIn P c Q a w := by
 intro b k cs
 obtain ⟨e, a₁, w₁, hq, harr⟩ := h b (.inLoop c :: k) cs
 cases e with
 | normal =>
  obtain ⟨e₂, a₂, w₂, hq₂, harr₂⟩ := (hq : LoopIn P c Q a₁ w₁) b k cs
  exact ⟨e₂, a₂, w₂, hq₂, .of_steps (Steps.trans harr (.one step_inLoop)) harr₂⟩
 | exit id => exact ⟨_, a₁, w₁, hq, .pass (x := .inLoop c) rfl (fun _ _ => .inl (by simp)) harr⟩
 | goto l => exact ⟨_, a₁, w₁, hq, .pass (x := .inLoop c) rfl (fun _ _ => .inl (by simp)) harr⟩
 | ret => exact ⟨_, a₁, w₁, hq, .pass (x := .inLoop c) rfl (fun _ _ => .inl (by simp)) harr⟩
 | panic ch => exact ⟨_, a₁, w₁, hq, .pass (x := .inLoop c) rfl (fun _ _ => .inl (by simp)) harr⟩
 | outgrown => exact ⟨_, a₁, w₁, hq, .pass (x := .inLoop c) rfl (fun _ _ => .inl (by simp)) harr⟩
section
variable {E : Env} {X : (f : FuncId) → Option (List Dyn → Option (E.cfg f).rt.D)}
def LoopsIn (E : Env) (L : Loops) : Prop := ∀ (H : Nat → Option (List Value)) (f : FuncId) (b : Code) (σ : List SV) (o : Out) (a : Act) (w : World) (S : Nat → Prop) (β : Key → Option Nat) (Q : Exit → Act → World → Prop),
 dstsOK a.tmps.size b = true → L f b σ = some o → RelS H σ a w S β →
 (∀ a' w' S' β', a'.tmps.size = a.tmps.size → a'.defers = a.defers → RelS H o.σ a' w' S' β' → Step w S β w' S' β' → Q (exitOf o.e) a' w') → LoopIn E.P b Q a w
theorem LoopsIn.ok {L : Loops} (h : LoopsIn E L) : LoopsOK E L := fun H f b σ o a w S β Q hd hl hr hQ => (h H f b σ o a w S β Q hd hl hr hQ).wp
theorem rounds_loops (hR : ∀ k, CallsOK E (rounds E X k).1) (hD : ∀ k, DrawOK E (rounds E X k).1) : ∀ k, LoopsIn E (rounds E X k).2
 | 0 => fun H f b σ o a w S β Q _ h _ _ => by simp [rounds] at h
 | k + 1 => fun H f b σ o a w S β Q hd h hrel hQ => by
  have ih := rounds_loops hR hD k
  simp only [rounds, nextL] at h
  refine LoopIn.round (evB_sound (hR k) (hD k) ih.ok hd hrel h fun o' a' w' S' β' ho e1 e2 h' hst => ?_)
  obtain ⟨e, σ'⟩ := o'
  cases e with
  | nm =>
   simp only at ho
   exact ih H f b _ o a' w' S' β' Q (by rw [e1]; exact hd) ho h'.killS fun a'' w'' S'' β'' f1 f2 h'' hst' => hQ a'' w'' S'' β'' (f1.trans e1) (f2.trans e2) h'' (hst.trans hst')
  | ex id =>
   simp only [Option.some.injEq] at ho; subst ho
   exact hQ a' w' S' β' e1 e2 h' hst
  | ret =>
   simp only [Option.some.injEq] at ho; subst ho
   exact hQ a' w' S' β' e1 e2 h' hst
end
end Go.Rf

end
section
namespace Go.Rf
set_option linter.unusedSectionVars false
variable [T : Laid]
section
variable {E : Env} {R : Run E} {ρ : Type}
def GuardOK (all : List Oper) (o : Oper) (l : List Slot) (gs : List Nat) : Prop :=
 (o.guard = none ∧ gs = []) ∨ ∃ j want g, o.guard = some (j, want) ∧ (all[j]?).bind Oper.dst = some g ∧ gs = [g] ∧ (at? l g).sv = .dat ⟨.bool, want, .sh⟩
def StepOK (E : Env) (R : Run E) (mv : List Nat) (all : List Oper) (i : Nat) (o : Oper) (l : List Slot) (us : List Up) (rc : Rec) : Prop :=
  rc.wr = us.map Up.slot ∧ (∀ x, x ∈ badUps l us → x ∈ rc.bad) ∧ (∀ x, x ∈ rc.tw → x ∈ us.map Up.slot) ∧ (∀ x, x ∈ us.map Up.slot → x ∈ rc.tw ∨ exAt o x = true) ∧
  ((opK E R (mv.any (Nat.beq i ·)) (viewOf l (fpOf o l)) o some = some us ∧ ∃ gs, GuardOK all o l gs ∧ (rc.fp = gs ++ fpOf o l ∨
      (rc.fp = gs ∧ ∃ x s, o.op = .move x ∧ softS (at? l) (mv.any (Nat.beq i ·)) x = some s ∧ rc.sf = [s]) ∨
      (rc.fp = gs ∧ ∃ s, exFree l o = [s] ∧ rc.ts = [s]))) ∨
   (∃ j want g, o.guard = some (j, want) ∧ (all[j]?).bind Oper.dst = some g ∧ rc.fp = [g] ∧ ((at? l g).sv = .und ∨ (at? l g).sv = .dat ⟨.bool, !want, .sh⟩) ∧
      us = (match o.dst with | some d => [.put d .und] | none => [])))
theorem recOf_step {E : Env} {R : Run E} {mv : List Nat} {all : List Oper} {i : Nat} {o : Oper} {l : List Slot} {us : List Up} {gs : List Nat} (h : opK E R (mv.any (Nat.beq i ·)) (viewOf l (fpOf o l)) o some = some us) (hg : GuardOK all o l gs) :
  StepOK E R mv all i o l us (recOf (mv.any (Nat.beq i ·)) gs l o us) := by
 have key : softOf (mv.any (Nat.beq i ·)) l o = [] ∨ ∃ x s, o.op = .move x ∧ softS (at? l) (mv.any (Nat.beq i ·)) x = some s ∧ softOf (mv.any (Nat.beq i ·)) l o = [s] := by
  unfold softOf
  split
  ·rename_i x hx
   cases e : softS (at? l) (mv.any (Nat.beq i ·)) x with
   | some s => exact .inr ⟨x, s, hx, e, rfl⟩
   | none => exact .inl rfl
  ·exact .inl rfl
 have h1 : ∀ x, x ∈ twOf o us → x ∈ us.map Up.slot := fun x hx => (List.mem_filter.1 hx).1
 have h2 : ∀ x, x ∈ us.map Up.slot → x ∈ twOf o us ∨ exAt o x = true := fun x hx => by
  cases e : exAt o x with
  | true => exact .inr rfl
  | false => exact .inl (List.mem_filter.2 ⟨hx, by rw [e]; rfl⟩)
 have h3 : exFree l o = [] ∨ ∃ s, exFree l o = [s] := by
  unfold exFree
  (repeat' split) <;> first | exact .inl rfl | exact .inr ⟨_, rfl⟩
 unfold recOf
 rcases key with e | ⟨x, s, h4, h5, e⟩
 ·rw [e]
  simp only
  rcases h3 with e3 | ⟨s, e3⟩
  ·rw [e3]; exact ⟨rfl, fun _ h => h, h1, h2, .inl ⟨h, gs, hg, .inl rfl⟩⟩
  ·rw [e3]; exact ⟨rfl, fun _ h => h, h1, h2, .inl ⟨h, gs, hg, .inr (.inr ⟨rfl, s, e3, rfl⟩)⟩⟩
 ·rw [e]; exact ⟨rfl, fun _ h => h, h1, h2, .inl ⟨h, gs, hg, .inr (.inl ⟨rfl, x, s, h4, h5, rfl⟩)⟩⟩
theorem upsL_append : ∀ {us vs : List Up} {l : List Slot}, upsL l (us ++ vs) = upsL (upsL l us) vs
 | [], _, _ => rfl
 | u :: us, vs, l => by simp only [List.cons_append, upsL]; exact upsL_append
def Traced (E : Env) (R : Run E) (mv : List Nat) (all : List Oper) (κ : List Slot → Option ρ) (r : ρ) (os : List Oper) (i : Nat) (l : List Slot) (acc : List Rec) : Prop :=
 ∃ (uss : List (List Up)) (rcs : List Rec), uss.length = os.length ∧ rcs.length = os.length ∧ κ (upsL l uss.flatten) = some r ∧ (apart (binsOf all) (acc ++ rcs) 0 = true ∧ noBad (acc ++ rcs) = true) ∧ edgesOK all 0 = true ∧
  ∀ (j : Nat) (o : Oper) (us : List Up) (rc : Rec), os[j]? = some o → uss[j]? = some us → rcs[j]? = some rc → StepOK E R mv all (i + j) o (upsL l (uss.take j).flatten) us rc
theorem opsK_trace {mv : List Nat} {all : List Oper} {κ : List Slot → Option ρ} {r : ρ} : ∀ {os : List Oper} {i : Nat} {l : List Slot} {acc : List Rec}, opsK E R mv all true os i l acc κ = some r → Traced E R mv all κ r os i l acc
 | [], i, l, acc, h => by
  simp only [opsK, if_true] at h
  split at h
  ·rename_i hc
   simp only [Bool.and_eq_true] at hc
   exact ⟨[], [], rfl, rfl, h, ⟨by simpa using hc.1.1, by simpa using hc.1.2⟩, hc.2, by simp⟩
  ·cases h
 | o :: os, i, l, acc, h => by
  have step : ∀ {us : List Up} {rc : Rec}, StepOK E R mv all i o l us rc → opsK E R mv all true os (i + 1) (upsL l us) (acc ++ [rc]) κ = some r →
    Traced E R mv all κ r (o :: os) i l acc := by
   intro us rc hs hk
   obtain ⟨uss, rcs, h1, h2, h3, h4, h5, h6⟩ := opsK_trace hk
   refine ⟨us :: uss, rc :: rcs, by simp [h1], by simp [h2], by simpa [upsL_append] using h3, by simpa using h4, h5, fun j o' us' rc' e1 e2 e3 => ?_⟩
   cases j with
   | zero =>
    simp only [List.getElem?_cons_zero, Option.some.injEq] at e1 e2 e3
    subst e1; subst e2; subst e3
    simpa [upsL] using hs
   | succ j =>
    have := h6 j o' us' rc' (by simpa using e1) (by simpa using e2) (by simpa using e3)
    rw [show i + 1 + j = i + (j + 1) by omega] at this
    simpa [upsL_append] using this
  have hgo : ∀ {gs : List Nat}, ((o.guard = none ∧ gs = []) ∨ ∃ j want g, o.guard = some (j, want) ∧ (all[j]?).bind Oper.dst = some g ∧ gs = [g] ∧ (at? l g).sv = .dat ⟨.bool, want, .sh⟩) →
    opK E R (mv.any (Nat.beq i ·)) (viewOf l (fpOf o l)) o (fun us => opsK E R mv all true os (i + 1) (upsL l us) (acc ++ [recOf (mv.any (Nat.beq i ·)) gs l o us]) κ) = some r → Traced E R mv all κ r (o :: os) i l acc := by
   intro gs hg hk
   rw [opK_bind] at hk
   obtain ⟨us, e1, e2⟩ := Option.bind_eq_some_iff.1 hk
   exact step (us := us) (rc := recOf (mv.any (Nat.beq i ·)) gs l o us) (recOf_step e1 hg) e2
  have hskip : ∀ {j : Nat} {want : Bool} {g : Nat}, o.guard = some (j, want) → (all[j]?).bind Oper.dst = some g → ((at? l g).sv = .und ∨ (at? l g).sv = .dat ⟨.bool, !want, .sh⟩) →
    (match o.dst with
     | some d => opsK E R mv all true os (i + 1) (upL l (.put d .und)) (acc ++ [⟨[g], [d], [], [d], [], [d]⟩]) κ
     | none => opsK E R mv all true os (i + 1) l (acc ++ [⟨[g], [], [], [], [], []⟩]) κ) = some r → Traced E R mv all κ r (o :: os) i l acc := by
   intro j want g h1 h2 h3 hk
   have bad1 : ∀ {d : Nat}, ∀ x, x ∈ badUps l [.put d .und] → x ∈ [d] := fun {d} x hx => (List.mem_filter.1 hx).1
   cases hd : o.dst with
   | some d =>
    rw [hd] at hk
    exact step (us := [.put d .und]) (rc := ⟨[g], [d], [], [d], [], [d]⟩) ⟨rfl, bad1, fun _ h => h, fun _ h => .inl h, .inr ⟨j, want, g, h1, h2, rfl, h3, by rw [hd]⟩⟩ hk
   | none =>
    rw [hd] at hk
    exact step (us := []) (rc := ⟨[g], [], [], [], [], []⟩) ⟨rfl, fun _ h => h, fun _ h => h, fun _ h => .inl h, .inr ⟨j, want, g, h1, h2, rfl, h3, by rw [hd]⟩⟩ hk
  unfold opsK at h
  simp only at h
  split at h
  ·rename_i hg
   exact hgo (gs := []) (.inl ⟨hg, rfl⟩) h
  ·rename_i j want hg
   split at h
   ·cases h
   ·rename_i g hgd
    split at h
    ·rename_i t hv
     cases t with
     | true =>
      simp only [cond_true] at h
      rw [setSV_same hv] at h
      cases want with
      | true => exact hgo (gs := [g]) (.inr ⟨j, true, g, hg, hgd, rfl, hv⟩) h
      | false => exact hskip hg hgd (.inr hv) h
     | false =>
      simp only [cond_false] at h
      rw [setSV_same hv] at h
      cases want with
      | true => exact hskip hg hgd (.inr hv) h
      | false => exact hgo (gs := [g]) (.inr ⟨j, false, g, hg, hgd, rfl, hv⟩) h
    ·rename_i hv
     exact hskip hg hgd (.inl hv) h
    ·cases h
end
end Go.Rf

end
section
namespace Go.Rf
set_option linter.unusedSectionVars false
variable [T : Laid]
def fold1 (x : Nat) (s : Slot) : List Up → Slot
 | [] => s
 | u :: us => fold1 x (if x = u.slot then u.on s else s) us
theorem fold1_append {x : Nat} : ∀ {us vs : List Up} {s : Slot}, fold1 x s (us ++ vs) = fold1 x (fold1 x s us) vs
 | [], _, _ => rfl
 | u :: us, vs, s => by simp only [List.cons_append, fold1]; exact fold1_append
theorem fold1_none {x : Nat} : ∀ {us : List Up} {s : Slot}, (∀ u ∈ us, u.slot ≠ x) → fold1 x s us = s
 | [], _, _ => rfl
 | u :: us, s, h => by
  simp only [fold1]
  rw [if_neg (fun e => h u (by simp) e.symm)]
  exact fold1_none fun v hv => h v (by simp [hv])
theorem at_fold1 {x : Nat} : ∀ {us : List Up} {l : List Slot}, x < l.length → at? (upsL l us) x = fold1 x (at? l x) us
 | [], _, _ => rfl
 | u :: us, l, h => by
  simp only [upsL, fold1]
  rw [at_fold1 (by rw [upL_len]; exact h), at_upL h]
  by_cases e : x = u.slot
  ·subst e; rw [up_eq, if_pos rfl]
  ·rw [up_ne e, if_neg e]
def sel (L : Nat → Bool) : List (List Up) → Nat → List Up
 | [], _ => []
 | us :: r, k => (if L k then us else []) ++ sel L r (k + 1)
theorem sel_slot {x : Nat} {L M : Nat → Bool} : ∀ {uss : List (List Up)} {k : Nat} {s : Slot}, (∀ j us, uss[j]? = some us → (∃ u ∈ us, u.slot = x) → L (k + j) = M (k + j)) → fold1 x s (sel L uss k) = fold1 x s (sel M uss k)
 | [], _, _, _ => rfl
 | us :: r, k, s, h => by
  simp only [sel]
  rw [fold1_append, fold1_append]
  have h0 : fold1 x s (if L k then us else []) = fold1 x s (if M k then us else []) := by
   by_cases hx : ∃ u ∈ us, u.slot = x
   ·have := h 0 us rfl hx
    rw [Nat.add_zero] at this
    rw [this]
   ·have hn : ∀ u ∈ us, u.slot ≠ x := fun u hu e => hx ⟨u, hu, e⟩
    split <;> split <;> first | rfl | (rw [fold1_none hn]; rfl)
  rw [h0]
  exact sel_slot fun j us' hj hx => by
   have := h (j + 1) us' (by simpa using hj) hx
   rw [show k + (j + 1) = k + 1 + j by omega] at this
   exact this
theorem sel_take {i : Nat} : ∀ {uss : List (List Up)} {k : Nat}, sel (fun j => decide (j < k + i)) uss k = (uss.take i).flatten := by
 induction i with
 | zero =>
  intro uss
  have : ∀ (uss : List (List Up)) (k m : Nat), m ≤ k → sel (fun j => decide (j < m)) uss k = [] := by
   intro uss
   induction uss with
   | nil => intro k m _; rfl
   | cons us r ih => intro k m h; simp only [sel]; rw [if_neg (by simp; omega), ih (k + 1) m (by omega)]; rfl
  intro k; simpa using this uss k k (Nat.le_refl _)
 | succ i ih =>
  intro uss k
  cases uss with
  | nil => rfl
  | cons us r =>
   simp only [sel, List.take_succ_cons, List.flatten_cons]
   rw [if_pos (by simp)]
   have := ih (uss := r) (k := k + 1)
   rw [show k + 1 + i = k + (i + 1) by omega] at this
   rw [this]
end Go.Rf

end
section
namespace Go.Rf
set_option linter.unusedSectionVars false
variable [T : Laid]
theorem meets_iff {a b : List Nat} : meets a b = true ↔ ∃ x, x ∈ a ∧ x ∈ b := by
 simp only [meets, List.any_eq_true, Nat.beq_eq]
 constructor
 ·rintro ⟨x, hx, y, hy, e⟩; exact ⟨x, hx, e ▸ hy⟩
 ·rintro ⟨x, hx, hy⟩; exact ⟨x, hx, x, hy, rfl⟩
def Free (r q : Rec) : Prop := (∀ x, x ∈ r.wr → x ∉ q.fp) ∧ (∀ x, x ∈ r.wr → x ∉ q.wr) ∧ (∀ x, x ∈ q.wr → x ∉ r.fp) ∧ (∀ x, x ∈ r.tw → x ∉ q.ts) ∧ ∀ x, x ∈ q.tw → x ∉ r.ts
theorem apart_go {b : List Nat} {r : Rec} {i : Nat} : ∀ {qs : List Rec} {j : Nat}, apart.go b r i qs j = true → ∀ k q, qs[k]? = some q → Nat.testBit (b.getD (j + k) 0) i = true ∨ Free r q
 | [], _, _, _, _, h => by simp at h
 | q :: qs, j, h, k, q', hk => by
  simp only [apart.go, Bool.and_eq_true] at h
  cases k with
  | zero =>
   simp only [List.getElem?_cons_zero, Option.some.injEq] at hk; subst hk
   have h1 := h.1
   simp only [Bool.or_eq_true, Bool.and_eq_true, Bool.not_eq_true'] at h1
   rcases h1 with h1 | ⟨⟨⟨⟨h1, h2⟩, h3⟩, h4⟩, h5⟩
   ·exact .inl h1
   ·refine .inr ⟨fun x hx hy => ?_, fun x hx hy => ?_, fun x hx hy => ?_, fun x hx hy => ?_, fun x hx hy => ?_⟩
    ·rw [meets_iff.2 ⟨x, hx, hy⟩] at h1; cases h1
    ·rw [meets_iff.2 ⟨x, hx, hy⟩] at h2; cases h2
    ·rw [meets_iff.2 ⟨x, hx, hy⟩] at h3; cases h3
    ·rw [meets_iff.2 ⟨x, hx, hy⟩] at h4; cases h4
    ·rw [meets_iff.2 ⟨x, hx, hy⟩] at h5; cases h5
  | succ k =>
   have := apart_go h.2 k q' (by simpa using hk)
   rw [show j + 1 + k = j + (k + 1) by omega] at this
   exact this
theorem apart_spec {b : List Nat} : ∀ {rs : List Rec} {m : Nat}, apart b rs m = true → ∀ i j r q, i < j → rs[i]? = some r → rs[j]? = some q → Nat.testBit (b.getD (m + j) 0) (m + i) = true ∨ Free r q
 | [], _, _, _, _, _, _, _, h, _ => by simp at h
 | r0 :: rs, m, h, i, j, r, q, hij, hi, hj => by
  simp only [apart, Bool.and_eq_true] at h
  cases j with
  | zero => omega
  | succ j =>
   cases i with
   | zero =>
    simp only [List.getElem?_cons_zero, Option.some.injEq] at hi; subst hi
    have := apart_go h.1 j q (by simpa using hj)
    rw [show m + 1 + j = m + (j + 1) by omega] at this
    simpa using this
   | succ i =>
    have := apart_spec h.2 i j r q (by omega) (by simpa using hi) (by simpa using hj)
    rw [show m + 1 + j = m + (j + 1) by omega, show m + 1 + i = m + (i + 1) by omega] at this
    exact this
end Go.Rf

end
section
namespace Go.Rf
set_option linter.unusedSectionVars false
variable [T : Laid]
def stepB (acc : Array Nat) (o : Oper) : Array Nat := acc.push (o.after.foldl (fun s e => if Region.binds .any e then s ||| 2 ^ e.on ||| acc.getD e.on 0 else s) 0)
theorem foldB_keep : ∀ {os : List Oper} {acc : Array Nat} {k : Nat}, k < acc.size → (os.foldl stepB acc).getD k 0 = acc.getD k 0
 | [], _, _, _ => rfl
 | o :: os, acc, k, h => by
  simp only [List.foldl_cons]
  rw [foldB_keep (by simp [stepB]; omega)]
  simp [stepB, Array.getD_eq_getD_getElem?, Array.getElem?_push, Nat.ne_of_lt h]
theorem foldB_get : ∀ {os : List Oper} {acc : Array Nat} {i : Nat} {o : Oper}, os[i]? = some o → ∃ pre : Array Nat, pre.size = acc.size + i ∧ (∀ k, k < pre.size → pre.getD k 0 = (os.foldl stepB acc).getD k 0) ∧
  (os.foldl stepB acc).getD (acc.size + i) 0 = o.after.foldl (fun s e => if Region.binds .any e then s ||| 2 ^ e.on ||| pre.getD e.on 0 else s) 0
 | [], _, _, _, h => by simp at h
 | o' :: os, acc, i, o, h => by
  cases i with
  | zero =>
   simp only [List.getElem?_cons_zero, Option.some.injEq] at h; subst h
   refine ⟨acc, rfl, fun k hk => ?_, ?_⟩
   ·simp only [List.foldl_cons]
    rw [foldB_keep (by simp [stepB]; omega)]
    simp [stepB, Array.getD_eq_getD_getElem?, Array.getElem?_push, Nat.ne_of_lt hk]
   ·simp only [List.foldl_cons, Nat.add_zero]
    rw [foldB_keep (by simp [stepB])]
    simp [stepB, Array.getD_eq_getD_getElem?]
  | succ i =>
   obtain ⟨pre, h1, h2, h3⟩ := foldB_get (acc := stepB acc o') (i := i) (by simpa using h)
   have hs : (stepB acc o').size = acc.size + 1 := by simp [stepB]
   refine ⟨pre, by rw [h1, hs]; omega, h2, ?_⟩
   simp only [List.foldl_cons]
   rw [show acc.size + (i + 1) = (stepB acc o').size + i by rw [hs]; omega]
   exact h3
theorem bits_fold {f : Edge → Nat} {m : Nat} : ∀ {es : List Edge} {s : Nat}, Nat.testBit (es.foldl (fun s e => if Region.binds .any e then s ||| 2 ^ e.on ||| f e else s) s) m = true →
  Nat.testBit s m = true ∨ ∃ e ∈ es, Region.binds .any e = true ∧ (e.on = m ∨ Nat.testBit (f e) m = true)
 | [], s, h => .inl h
 | e :: es, s, h => by
  simp only [List.foldl_cons] at h
  rcases bits_fold h with h | ⟨e', h1, h2⟩
  ·split at h
   ·rename_i hb
    simp only [Nat.testBit_or, Bool.or_eq_true, Nat.testBit_two_pow, decide_eq_true_eq] at h
    rcases h with (h | h) | h
    ·exact .inl h
    ·exact .inr ⟨e, by simp, hb, .inl h⟩
    ·exact .inr ⟨e, by simp, hb, .inr h⟩
   ·exact .inl h
  ·exact .inr ⟨e', by simp [h1], h2⟩
theorem edges_lt : ∀ {os : List Oper} {m i : Nat} {o : Oper} {e : Edge}, edgesOK os m = true → os[i]? = some o → e ∈ o.after.toList → Region.binds .any e = true → e.on < m + i
 | [], _, _, _, _, _, h, _, _ => by simp at h
 | o' :: os, m, i, o, e, h, hi, he, hb => by
  simp only [edgesOK, Bool.and_eq_true] at h
  cases i with
  | zero =>
   simp only [List.getElem?_cons_zero, Option.some.injEq] at hi; subst hi
   have := List.all_eq_true.1 h.1 e he
   simpa [Nat.blt_eq, hb] using this
  | succ i => have := edges_lt h.2 (by simpa using hi) he hb; omega
theorem before_bit {ops : List Oper} {i m : Nat} {o : Oper} (he : edgesOK ops 0 = true) (hi : ops[i]? = some o) (h : Nat.testBit ((binsOf ops).getD i 0) m = true) :
  ∃ e ∈ o.after.toList, Region.binds .any e = true ∧ e.on < i ∧ (e.on = m ∨ Nat.testBit ((binsOf ops).getD e.on 0) m = true) := by
 have hb : ∀ k, (binsOf ops).getD k 0 = (ops.foldl stepB #[]).getD k 0 := fun k => by
  unfold binsOf Region.before
  have : (ops.toArray.foldl (fun acc o => acc.push (o.after.foldl (fun s e => if Region.binds .any e then s ||| 2 ^ e.on ||| acc.getD e.on 0 else s) 0)) #[]) = ops.foldl stepB #[] := by
   rw [← Array.foldl_toList]; rfl
  rw [this]
  simp [List.getD, Array.getD_eq_getD_getElem?]
 rw [hb] at h
 obtain ⟨pre, h1, h2, h3⟩ := foldB_get (acc := #[]) hi
 simp only [List.size_toArray, List.length_nil, Nat.zero_add] at h1 h3
 rw [h3, ← Array.foldl_toList] at h
 rcases bits_fold h with h | ⟨e, e1, e2, e3⟩
 ·simp at h
 ·have hlt := edges_lt he hi e1 e2
  rw [Nat.zero_add] at hlt
  refine ⟨e, e1, e2, hlt, e3.imp id fun h => ?_⟩
  rw [hb, ← h2 e.on (by omega)]; exact h
end Go.Rf

end
section
namespace Go.Rf
set_option linter.unusedSectionVars false
variable [T : Laid]
def cf : List Bool → Nat
 | [] => 0
 | b :: l => (if b then 0 else 1) + cf l
theorem cf_set : ∀ {l : List Bool} {i : Nat}, l[i]? = some false → cf (l.set i true) + 1 = cf l
 | [], _, h => by simp at h
 | b :: l, 0, h => by simp only [List.getElem?_cons_zero, Option.some.injEq] at h; subst h; simp [cf]; omega
 | b :: l, i + 1, h => by simp only [List.set_cons_succ, cf]; have := cf_set (l := l) (i := i) (by simpa using h); omega
theorem cf_zero : ∀ {l : List Bool} {i : Nat}, cf l = 0 → l[i]? ≠ some false
 | [], _, _ => by simp
 | b :: l, 0, h => by
  simp only [cf] at h
  simp only [List.getElem?_cons_zero, ne_eq, Option.some.injEq]
  intro e; subst e; simp at h
 | b :: l, i + 1, h => by
  simp only [cf] at h
  simpa using cf_zero (l := l) (i := i) (by omega)
theorem sel_all {L : Nat → Bool} : ∀ {uss : List (List Up)} {k : Nat}, (∀ j, j < uss.length → L (k + j) = true) → sel L uss k = uss.flatten
 | [], _, _ => rfl
 | us :: r, k, h => by
  simp only [sel, List.flatten_cons]
  rw [if_pos (by simpa using h 0 (by simp)), sel_all fun j hj => by
   have := h (j + 1) (by simp; omega)
   rw [show k + (j + 1) = k + 1 + j by omega] at this
   exact this]
section
variable {P : Program} {H : Nat → Option (List Value)} {N : Nat} {g : View} {V : Nat → Option Value} {w w' : World} {S S' : Nat → Prop} {β β' : Key → Option Nat} {a : Act}
variable {E : Env} {R : Run E}
theorem Rel.heap (h : Rel H N g V w S β) (hw : w'.heap = w.heap) (hD : DeadFrom N g) : Rel H N g V w' S β := by
 have h1 : Rel H N (g.up (.put N .dead)) V w' S β := h.put ⟨h.sane.inj, h.sane.sep, fun k b hk => by rw [hw]; exact h.sane.live k b hk, fun b hk => by rw [hw]; exact h.sane.liveS b hk, h.sane.tabs fun b hb => ⟨hb, by rw [hw]⟩⟩
  (fun b hb => ⟨hb, by rw [hw]⟩) (fun _ _ _ _ _ hb => ⟨hb, by rw [hw]⟩) (fun _ _ => rfl) trivial
 exact h1.fin (fun i hi => (put_at (by omega)).symm) hD (fun _ _ => rfl)
theorem view_congr {l l' : List Slot} {fp : List Nat} (h : ∀ x ∈ fp, at? l x = at? l' x) : viewOf l fp = viewOf l' fp := by
 funext i
 unfold viewOf
 by_cases hi : (fp.any (Nat.beq i ·)) = true
 ·rw [if_pos hi, if_pos hi]
  obtain ⟨x, hx, e⟩ := List.any_eq_true.1 hi
  have : i = x := by simpa [Nat.beq_eq] using e
  rw [this]; exact h x hx
 ·rw [if_neg hi, if_neg hi]
theorem ready_mem {ops : List Oper} {listed : Array Bool} {i : Nat} : i ∈ Region.ready .any ops.toArray listed ↔ ∃ o, ops[i]? = some o ∧ listed.getD i true = false ∧ ∀ e ∈ o.after.toList, Region.binds .any e = true → listed.getD e.on false = true := by
 unfold Region.ready
 rw [List.mem_filter, List.mem_range]
 constructor
 ·rintro ⟨h1, h2⟩
  have h1 : i < ops.length := by simpa using h1
  simp only [List.getElem?_toArray, List.getElem?_eq_getElem h1, Option.map_some, Option.getD_some, Bool.and_eq_true, Bool.not_eq_true'] at h2
  refine ⟨_, List.getElem?_eq_getElem h1, h2.1, fun e he hb => ?_⟩
  have h3 := h2.2
  rw [← Array.all_toList] at h3
  have := List.all_eq_true.1 h3 e he
  rw [hb] at this
  simpa using this
 ·rintro ⟨o, h1, h2, h3⟩
  have hl : i < ops.length := (List.getElem?_eq_some_iff.1 h1).1
  refine ⟨by simpa using hl, ?_⟩
  simp only [List.getElem?_toArray, h1, Option.map_some, Option.getD_some, Bool.and_eq_true, Bool.not_eq_true']
  refine ⟨h2, ?_⟩
  rw [← Array.all_toList]
  refine List.all_eq_true.2 fun e he => ?_
  cases hb : Region.binds .any e with
  | true => simp [h3 e he hb]
  | false => rfl
theorem getD_two {listed : Array Bool} {i : Nat} (h : listed.getD i true = false) : i < listed.size ∧ listed.getD i false = false := by
 rw [Array.getD_eq_getD_getElem?] at h ⊢
 cases hb : listed[i]? with
 | none => rw [hb] at h; simp at h
 | some b =>
  rw [hb] at h
  simp only [Option.getD_some] at h
  exact ⟨(Array.getElem?_eq_some_iff.1 hb).1, by simp [h]⟩
theorem getD_false {listed : Array Bool} {i : Nat} (hi : i < listed.size) (h : listed.getD i false = false) : listed.getD i true = false := by
 rw [Array.getD_eq_getD_getElem?, Array.getElem?_eq_getElem hi] at h ⊢
 exact h
theorem getD_set {listed : Array Bool} {i j : Nat} (hi : i < listed.size) : (listed.setIfInBounds i true).getD j false = (decide (j = i) || listed.getD j false) := by
 rw [Array.getD_eq_getD_getElem?, Array.getD_eq_getD_getElem?, Array.getElem?_setIfInBounds]
 by_cases e : i = j
 ·subst e; simp [hi]
 ·simp [e, Ne.symm e]
theorem cf_pos {l : List Bool} : (∀ i, i < l.length → l[i]? = some true) → cf l = 0 := by
 induction l with
 | nil => intro _; rfl
 | cons b l ih =>
  intro h
  have h0 := h 0 (by simp)
  simp only [List.getElem?_cons_zero, Option.some.injEq] at h0
  simp only [cf, h0, if_true, Nat.zero_add]
  exact ih fun i hi => by have := h (i + 1) (by simp; omega); simpa using this
theorem ready_nil {ops : List Oper} {listed : Array Bool} (hs : listed.size = ops.length) (he : edgesOK ops 0 = true) (h : Region.ready .any ops.toArray listed = []) : ∀ i, i < ops.length → listed.getD i false = true := by
 intro i
 induction i using Nat.strongRecOn with
 | ind i ih =>
  intro hi
  cases hb : listed.getD i false with
  | true => rfl
  | false =>
   have : i ∈ Region.ready .any ops.toArray listed := ready_mem.2 ⟨ops[i], List.getElem?_eq_getElem hi, getD_false (by omega) hb, fun e h1 hbd => by
    have := edges_lt he (List.getElem?_eq_getElem hi) h1 hbd
    exact ih e.on (by omega) (by omega)⟩
   rw [h] at this; cases this
theorem ready_agree {uss : List (List Up)} {rcs : List Rec} {L : Nat → Bool} {b : List Nat} {i : Nat} {rc : Rec} (hn : uss.length = rcs.length) (hw : ∀ (j : Nat) us q, uss[j]? = some us → rcs[j]? = some q → q.wr = us.map Up.slot)
  (hsp : ∀ i j r q, i < j → rcs[i]? = some r → rcs[j]? = some q → Nat.testBit (b.getD j 0) i = true ∨ Free r q)
  (hcl : ∀ j m, L j = true → Nat.testBit (b.getD j 0) m = true → L m = true) (hci : ∀ m, Nat.testBit (b.getD i 0) m = true → L m = true) (hL : L i = false) (hrc : rcs[i]? = some rc)
  {x : Nat} (hx : x ∈ rc.fp ∨ x ∈ rc.wr) : ∀ (j : Nat) us, uss[j]? = some us → (∃ u ∈ us, u.slot = x) → L j = decide (j < i) := by
 intro j us hj hu
 have hjl : j < uss.length := (List.getElem?_eq_some_iff.1 hj).1
 obtain ⟨q, hq⟩ : ∃ q, rcs[j]? = some q := ⟨_, List.getElem?_eq_getElem (by omega)⟩
 have hxq : x ∈ q.wr := by
  rw [hw j us q hj hq]
  obtain ⟨u, h1, h2⟩ := hu
  exact List.mem_map.2 ⟨u, h1, h2⟩
 rcases Nat.lt_trichotomy j i with h | h | h
 ·rw [decide_eq_true h]
  rcases hsp j i q rc h hq hrc with h1 | ⟨h1, h2, h3, _, _⟩
  ·exact hci j h1
  ·rcases hx with hx | hx
   ·exact absurd hx (h1 x hxq)
   ·exact absurd hx (h2 x hxq)
 ·subst h; simpa using hL
 ·rw [decide_eq_false (by omega)]
  cases hb : L j with
  | false => rfl
  | true =>
   rcases hsp i j rc q h hrc hq with h1 | ⟨h1, h2, h3, _, _⟩
   ·rw [hcl j i hb h1] at hL; cases hL
   ·rcases hx with hx | hx
    ·exact absurd hx (h3 x hxq)
    ·exact absurd hxq (h2 x hx)
theorem at_big {l : List Slot} {x : Nat} (h : l.length ≤ x) : at? l x = Slot.dead := by
 unfold at?; simp [List.getD, List.getElem?_eq_none h]
def PO (t : Ty) (k : Nat) (s : Slot) : Prop := ptrOwn s.sv = some t ∧ s.s = k
theorem fold1_s {x : Nat} : ∀ {us : List Up} {s : Slot}, us.any (isPut x) = false → (fold1 x s us).s = s.s
 | [], _, _ => rfl
 | u :: us, s, h => by
  rw [List.any_cons, Bool.or_eq_false_iff] at h
  simp only [fold1]
  rw [fold1_s h.2]
  split
  ·rename_i hx
   cases u with
   | put r v =>
    have : Nat.beq x r = true := by rw [show x = r from hx]; exact Nat.beq_refl r
    rw [show isPut x (.put r v) = Nat.beq x r from rfl, this] at h
    exact absurd h.1 (by decide)
   | mod r v => rfl
   | pub r v => rfl
  ·rfl
theorem fold1_sv {x : Nat} : ∀ {us : List Up} {s s' : Slot}, x ∈ us.map Up.slot → (fold1 x s us).sv = (fold1 x s' us).sv
 | [], _, _, h => by cases h
 | u :: us, s, s', h => by
  simp only [fold1]
  by_cases hm : x ∈ us.map Up.slot
  ·exact fold1_sv hm
  ·have hx : x = u.slot := by
    rw [List.map_cons, List.mem_cons] at h
    exact h.resolve_right hm
   have hq : ∀ v ∈ us, v.slot ≠ x := fun v hv e => hm (e ▸ List.mem_map_of_mem hv)
   rw [if_pos hx, if_pos hx, fold1_none hq, fold1_none hq]
   cases u <;> rfl
theorem soft_ups {x : Nat} {t : Ty} {k : Nat} {us : List Up} {l : List Slot} (hl : x < l.length) (hb : x ∉ badUps l us) :
  (PO t k (at? l x) ↔ PO t k (at? (upsL l us) x)) ∧ (PO t k (at? l x) → ∀ s, PO t k s → PO t k (fold1 x s us)) := by
 rw [at_fold1 hl]
 by_cases hm : x ∈ us.map Up.slot
 ·have he : endsSoft l us x = true := by
   cases he : endsSoft l us x with
   | true => rfl
   | false => exact absurd (List.mem_filter.2 ⟨hm, by rw [he]; rfl⟩) hb
  unfold endsSoft at he
  rw [Bool.and_eq_true, at_fold1 hl] at he
  have hp : us.any (isPut x) = false := by simpa using he.1
  have he2 := he.2
  split at he2
  ·rename_i a b e1 e2
   have hab : a = b := of_decide_eq_true he2
   subst hab
   refine ⟨?_, fun h s hs => ?_⟩
   ·unfold PO
    rw [fold1_s hp, e1, e2]
   ·refine ⟨?_, by rw [fold1_s hp]; exact hs.2⟩
    rw [fold1_sv (s' := at? l x) hm, e2, ← e1]; exact h.1
  ·cases he2
 ·have hn : ∀ s, fold1 x s us = s := fun s => fold1_none (fun v hv e => hm (e ▸ List.mem_map_of_mem hv))
  rw [hn]
  exact ⟨Iff.rfl, fun _ s hs => by rw [hn]; exact hs⟩
theorem soft_back {x : Nat} {t : Ty} {k : Nat} : ∀ {uss : List (List Up)} {l : List Slot} {i : Nat}, x < l.length → (∀ j us, uss[j]? = some us → x ∉ badUps (upsL l (uss.take j).flatten) us) →
  PO t k (at? (upsL l (uss.take i).flatten) x) → PO t k (at? l x)
 | [], l, i, _, _, h => by simpa [upsL] using h
 | us :: uss, l, 0, _, _, h => by simpa [upsL] using h
 | us :: uss, l, i + 1, hl, hb, h => by
  have h0 : x ∉ badUps l us := by have := hb 0 us rfl; simpa [upsL] using this
  refine (soft_ups hl h0).1.2 (soft_back (uss := uss) (l := upsL l us) (i := i) (by rw [upsL_len]; exact hl) (fun j us' hj => ?_) ?_)
  ·have := hb (j + 1) us' (by simpa using hj)
   simpa [upsL_append] using this
  ·simpa [upsL_append] using h
theorem soft_sel {x : Nat} {t : Ty} {k : Nat} {L : Nat → Bool} : ∀ {uss : List (List Up)} {l : List Slot} {kk : Nat}, x < l.length → (∀ j us, uss[j]? = some us → x ∉ badUps (upsL l (uss.take j).flatten) us) →
  PO t k (at? l x) → ∀ s, PO t k s → PO t k (fold1 x s (sel L uss kk))
 | [], l, kk, _, _, _, s, hs => hs
 | us :: uss, l, kk, hl, hb, h, s, hs => by
  have h0 : x ∉ badUps l us := by have := hb 0 us rfl; simpa [upsL] using this
  obtain ⟨h1, h2⟩ := soft_ups (t := t) (k := k) hl h0
  simp only [sel]
  rw [fold1_append]
  refine soft_sel (uss := uss) (l := upsL l us) (by rw [upsL_len]; exact hl) (fun j us' hj => ?_) (h1.1 h) _ ?_
  ·have := hb (j + 1) us' (by simpa using hj)
   simpa [upsL_append] using this
  ·split
   ·exact h2 h s hs
   ·exact hs
theorem viewOf_mem {l : List Slot} {fp : List Nat} {s : Nat} (h : s ∈ fp) : viewOf l fp s = at? l s := by
 unfold viewOf
 rw [if_pos]
 exact List.any_eq_true.2 ⟨s, h, by simp⟩
theorem soft_op {l l' : List Slot} {fp fp' : List Nat} {mv : Bool} {o : Oper} {x : Operand} {s : Nat} {us : List Up} (hm : o.op = .move x) (hs : softS (at? l) mv x = some s) (hk : opK E R mv (viewOf l fp) o some = some us) (h1 : s ∈ fp) (h2 : s ∈ fp')
  {t : Ty} (hp : PO t (at? l s).s (at? l' s)) : opK E R mv (viewOf l' fp') o some = some us := by
 unfold softS at hs
 split at hs
 ·rename_i s0
  split at hs
  ·rename_i hc
   cases hs
   simp only [Bool.and_eq_true] at hc
   have e1 : softS (viewOf l fp) mv (.tmp s) = some s := by
    unfold softS
    simp only
    rw [viewOf_mem h1, if_pos (by simp [hc.1, hc.2])]
   have e2 : softS (viewOf l' fp') mv (.tmp s) = some s := by
    unfold softS
    simp only
    rw [viewOf_mem h2, if_pos (by simp [hc.1, hp.1])]
   unfold opK at hk ⊢
   rw [hm] at hk ⊢
   simp only at hk ⊢
   unfold moveK at hk ⊢
   rw [e1] at hk
   rw [e2]
   simp only at hk ⊢
   rw [viewOf_mem h1] at hk
   rw [viewOf_mem h2, hp.2]
   exact hk
  ·cases hs
 ·cases hs
theorem soft_fp {l : List Slot} {o : Oper} {mv : Bool} {x : Operand} {s : Nat} (hm : o.op = .move x) (hs : softS (at? l) mv x = some s) : s ∈ fpOf o l := by
 unfold softS at hs
 split at hs
 ·split at hs
  ·cases hs
   unfold fpOf
   rw [hm]
   simp [Op.operands, tmpsOf]
  ·cases hs
 ·cases hs
theorem upon_sv (u : Up) (a : Slot) : (u.on a).sv = u.v := by cases u <;> rfl
def FP (k : Nat) (v : SV) : Option Dat :=
 match v with
 | .tup d => (getP (fieldPath k) d.t d.f d.x).filter (·.f.free)
 | _ => none
theorem fp_set : ∀ {i k : Nat} {t : Ty} {f : Fl} {x : t.D} {e : Dat}, getP (fieldPath i) t f x = some e → e.f.free = false →
  (getP (fieldPath k) t (setF (fieldPath i) f .gone) x).filter (·.f.free) = (getP (fieldPath k) t f x).filter (·.f.free) := by
 intro i
 induction i with
 | zero =>
  intro k t f x e h hf
  cases t <;> try (simp only [fieldPath, getP, reduceCtorEq] at h; done)
  rename_i a b
  simp only [fieldPath, getP, Option.some.injEq] at h
  cases k with
  | zero =>
   simp only [fieldPath, getP, setF]
   rw [l_base, wrap_base, ← l_base, mkpr_l]
   subst h
   simp only at hf
   show Option.filter _ (some _) = Option.filter _ (some _)
   simp only [Option.filter]
   rw [if_neg (show ¬ Fl.free .gone = true by decide), if_neg (by rw [hf]; decide)]
  | succ k =>
   simp only [fieldPath, getP, setF]
   rw [r_base, wrap_base, ← r_base, mkpr_r]
 | succ i ih =>
  intro k t f x e h hf
  cases t <;> try (simp only [fieldPath, getP, reduceCtorEq] at h; done)
  rename_i a b
  simp only [fieldPath, getP] at h
  cases k with
  | zero =>
   simp only [fieldPath, getP, setF]
   rw [l_base, wrap_base, ← l_base, mkpr_l]
  | succ k =>
   simp only [fieldPath, getP, setF]
   rw [r_base, wrap_base, ← r_base, mkpr_r]
   exact ih h hf
theorem exAt_iff {o : Oper} {x : Nat} (h : exAt o x = true) : ∃ i d, o.op = .extract (.tmp x) i ∧ o.dst = some d ∧ x ≠ d := by
 unfold exAt at h
 split at h
 ·rename_i s0 i d hop hd
  simp only [Bool.and_eq_true, Bool.not_eq_true', Nat.beq_eq] at h
  obtain ⟨h1, h2⟩ := h
  subst h1
  exact ⟨i, d, hop, hd, fun e => by subst e; simp at h2⟩
 ·cases h
theorem ex_fold {l : List Slot} {fp : List Nat} {mv : Bool} {o : Oper} {us : List Up} {x : Nat} (hk : opK E R mv (viewOf l fp) o some = some us) (hx : exAt o x = true) (hfp : x ∈ fp) (hm : x ∈ us.map Up.slot) (k : Nat) (s : Slot) :
  FP k (fold1 x s us).sv = FP k (at? l x).sv := by
 obtain ⟨i, d, hop, hd, hne⟩ := exAt_iff hx
 unfold opK at hk
 rw [hop] at hk
 simp only at hk
 unfold extractK at hk
 simp only at hk
 rw [viewOf_mem hfp] at hk
 split at hk
 ·rename_i t ht
  split at hk
  ·rename_i e he
   split at hk
   ·unfold outp at hk
    rw [hd] at hk
    simp only [List.nil_append, Option.some.injEq] at hk
    subst hk
    simp only [List.map_cons, List.map_nil, List.mem_singleton, Up.slot] at hm
    exact absurd hm hne
   ·rename_i hnf
    split at hk
    ·unfold outp at hk
     rw [hd] at hk
     simp only [Option.some.injEq] at hk
     subst hk
     simp only [List.cons_append, List.nil_append, fold1, Up.slot, if_neg hne, if_true]
     rw [upon_sv, ht]
     exact fp_set he (by simpa using hnf)
    ·cases hk
  ·cases hk
 ·cases hk
theorem ex_op {l l' : List Slot} {fp fp' : List Nat} {mv : Bool} {o : Oper} {s : Nat} {us : List Up} (hex : exFree l o = [s]) (hk : opK E R mv (viewOf l fp) o some = some us) (h1 : s ∈ fp) (h2 : s ∈ fp')
  (heq : ∀ k, FP k (at? l' s).sv = FP k (at? l s).sv) : opK E R mv (viewOf l' fp') o some = some us := by
 unfold exFree at hex
 split at hex
 ·rename_i s0 i hop
  split at hex
  ·rename_i d hd
   split at hex
   ·rename_i e he
    split at hex
    ·rename_i hf
     simp only [List.cons.injEq, and_true] at hex
     subst hex
     have hq := heq i
     rw [hd] at hq
     have e1 : FP i (.tup d) = some e := by unfold FP; simp only; rw [he]; simp [Option.filter, hf]
     rw [e1] at hq
     unfold FP at hq
     split at hq
     ·rename_i d2 hd2
      obtain ⟨e2, hg, hq2⟩ : ∃ e2, getP (fieldPath i) d2.t d2.f d2.x = some e2 ∧ e2 = e := by
       cases hg : getP (fieldPath i) d2.t d2.f d2.x with
       | none => rw [hg] at hq; cases hq
       | some e2 =>
        rw [hg] at hq
        refine ⟨e2, rfl, ?_⟩
        simp only [Option.filter] at hq
        split at hq
        ·exact Option.some.inj hq
        ·cases hq
      subst hq2
      unfold opK at hk ⊢
      rw [hop] at hk ⊢
      simp only at hk ⊢
      unfold extractK at hk ⊢
      simp only at hk ⊢
      rw [viewOf_mem h1, hd] at hk
      rw [viewOf_mem h2, hd2]
      simp only at hk ⊢
      rw [he] at hk
      rw [hg]
      simp only at hk ⊢
      rw [if_pos hf] at hk ⊢
      exact hk
     ·cases hq
    ·cases hex
   ·cases hex
  ·cases hex
 ·cases hex
theorem exFree_fp {l : List Slot} {o : Oper} {s : Nat} (hex : exFree l o = [s]) : s ∈ fpOf o l ∧ s < l.length := by
 unfold exFree at hex
 split at hex
 ·rename_i s0 i hop
  split at hex
  ·rename_i d hd
   split at hex
   ·split at hex
    ·simp only [List.cons.injEq, and_true] at hex
     subst hex
     refine ⟨by unfold fpOf; rw [hop]; simp [Op.operands, tmpsOf], ?_⟩
     rcases Nat.lt_or_ge s0 l.length with h | h
     ·exact h
     ·rw [at_big h] at hd; cases hd
    ·cases hex
   ·cases hex
  ·cases hex
 ·cases hex
theorem sel_snoc {L : Nat → Bool} {us : List Up} : ∀ {uss : List (List Up)} {k : Nat}, sel L (uss ++ [us]) k = sel L uss k ++ (if L (k + uss.length) then us else [])
 | [], k => by simp [sel]
 | v :: uss, k => by
  simp only [List.cons_append, sel, List.length_cons]
  rw [sel_snoc (uss := uss) (k := k + 1), List.append_assoc, show k + 1 + uss.length = k + (uss.length + 1) by omega]
theorem fp_sel {x k i : Nat} {l : List Slot} {uss : List (List Up)} {L : Nat → Bool} {tw : Nat → Prop} (hl : x < l.length)
  (hX : ∀ j us, uss[j]? = some us → x ∈ us.map Up.slot → ¬ tw j → ∀ s, FP k (fold1 x s us).sv = FP k (at? (upsL l (uss.take j).flatten) x).sv)
  (hW : ∀ j, j < uss.length → tw j → L j = decide (j < i)) (hC : ∀ j j' us, j' < j → tw j' → uss[j]? = some us → x ∈ us.map Up.slot → L j = true → L j' = true) :
  FP k (at? (upsL l (sel L uss 0)) x).sv = FP k (at? (upsL l (uss.take i).flatten) x).sv := by
 have hT : ∀ n us, uss[n]? = some us → at? (upsL l (uss.take (n + 1)).flatten) x = fold1 x (at? (upsL l (uss.take n).flatten) x) us := fun n us hu => by
  rw [List.take_add_one, hu, List.flatten_append, upsL_append, at_fold1 (by rw [upsL_len]; exact hl)]
  simp
 have none_ : ∀ us, x ∉ us.map Up.slot → ∀ s, fold1 x s us = s := fun us hn s => fold1_none fun v hv e => hn (e ▸ List.mem_map_of_mem hv)
 have chain : ∀ n, i ≤ n → n ≤ uss.length → (∀ j, i ≤ j → j < n → ¬ tw j) → FP k (at? (upsL l (uss.take n).flatten) x).sv = FP k (at? (upsL l (uss.take i).flatten) x).sv := by
  intro n
  induction n with
  | zero => intro h _ _; rw [Nat.le_zero.1 h]
  | succ n ih =>
   intro h1 h2 h3
   rcases Nat.lt_or_ge i (n + 1) with h | h
   ·have hu : uss[n]? = some uss[n] := List.getElem?_eq_getElem (by omega)
    rw [hT n _ hu, ← ih (by omega) (by omega) fun j a b => h3 j a (by omega)]
    by_cases hx : x ∈ (uss[n]).map Up.slot
    ·exact hX n _ hu hx (h3 n (by omega) (by omega)) _
    ·rw [none_ _ hx]
   ·rw [show i = n + 1 by omega]
 have key : ∀ n, n ≤ uss.length → FP k (fold1 x (at? l x) (sel L (uss.take n) 0)).sv = FP k (at? (upsL l (uss.take (min n i)).flatten) x).sv := by
  intro n
  induction n with
  | zero => intro _; simp [sel, fold1, upsL]
  | succ n ih =>
   intro hn
   have hu : uss[n]? = some uss[n] := List.getElem?_eq_getElem (by omega)
   have ih := ih (by omega)
   have e1 : sel L (uss.take (n + 1)) 0 = sel L (uss.take n) 0 ++ (if L n then uss[n] else []) := by
    rw [List.take_add_one, hu]
    show sel L (uss.take n ++ [uss[n]]) 0 = _
    rw [sel_snoc, List.length_take, Nat.zero_add, Nat.min_eq_left (by omega)]
   rw [e1, fold1_append]
   by_cases hx : x ∈ (uss[n]).map Up.slot
   ·by_cases ht : tw n
    ·have hL := hW n (by omega) ht
     rcases Nat.lt_or_ge n i with h | h
     ·rw [decide_eq_true h] at hL
      rw [hL, if_pos rfl, Nat.min_eq_left (show n + 1 ≤ i by omega), hT n _ hu, fold1_sv hx]
     ·rw [decide_eq_false (by omega)] at hL
      rw [hL, if_neg (by decide), Nat.min_eq_right (show i ≤ n + 1 by omega)]
      rw [Nat.min_eq_right h] at ih
      exact ih
    ·have hf := hX n _ hu hx ht
     rcases Nat.lt_or_ge n i with h | h
     ·rw [Nat.min_eq_left (show n + 1 ≤ i by omega), hT n _ hu, hf]
      rw [Nat.min_eq_left (show n ≤ i by omega)] at ih
      split
      ·rw [hf]
      ·exact ih
     ·rw [Nat.min_eq_right (show i ≤ n + 1 by omega)]
      rw [Nat.min_eq_right h] at ih
      split
      ·rename_i hL
       rw [hf]
       refine chain n h (by omega) fun j a b htj => ?_
       have h1 := hC n j _ b htj hu hx hL
       rw [hW j (by omega) htj, decide_eq_false (by omega)] at h1
       cases h1
      ·exact ih
   ·have e2 : fold1 x (fold1 x (at? l x) (sel L (uss.take n) 0)) (if L n then uss[n] else []) = fold1 x (at? l x) (sel L (uss.take n) 0) := by
     split
     ·exact none_ _ hx _
     ·rfl
    rw [e2, ih]
    rcases Nat.lt_or_ge n i with h | h
    ·rw [Nat.min_eq_left (show n + 1 ≤ i by omega), Nat.min_eq_left (show n ≤ i by omega), hT n _ hu, none_ _ hx]
    ·rw [Nat.min_eq_right (show i ≤ n + 1 by omega), Nat.min_eq_right h]
 have h0 := key uss.length (Nat.le_refl _)
 rw [List.take_length] at h0
 rw [at_fold1 hl, h0]
 rcases Nat.le_total i uss.length with h | h
 ·rw [Nat.min_eq_right h]
 ·rw [Nat.min_eq_left h, List.take_of_length_le h, List.take_length]
theorem draw_ok (hR : CallsOK E R) (hm : E.P.follows .mixedOrders = true) : DrawOK E R := by
 intro ρ H mv ops id l a w S β κ r Q hl hrel hin hk hQ
 obtain ⟨uss, rcs, hu, hrc, hκ, ⟨hap, hnb⟩, hed, hst⟩ := opsK_trace hk
 simp only [List.nil_append] at hap hnb
 have hsp := apart_spec hap
 simp only [Nat.zero_add] at hsp hst
 have hwr : ∀ (j : Nat) us q, uss[j]? = some us → rcs[j]? = some q → q.wr = us.map Up.slot := fun j us q h1 h2 => by
  have hj : j < ops.length := by have := (List.getElem?_eq_some_iff.1 h1).1; omega
  exact (hst j ops[j] us q (List.getElem?_eq_getElem hj) h1 h2).1
 refine wp_region_any hm ?_
 have hw1 : Rel H a.tmps.size (at? l) (vals a) { w with drawn := w.drawn + 1 } S β := hrel.heap rfl (hl ▸ dead_at)
 have hs1 : Step w S β { w with drawn := w.drawn + 1 } S β := ⟨Nat.le_refl _, fun _ _ _ => rfl, fun k _ hb => .inl ⟨k, hb⟩, fun _ hb => hb, fun _ hb => .inl hb, ⟨rfl, rfl, rfl⟩⟩
 have hn : ops.toArray.size = ops.length := by simp
 have fin : ∀ (listed : Array Bool) (a' : Act) (w' : World) (S' : Nat → Prop) (β' : Key → Option Nat), (∀ i, i < ops.length → listed.getD i false = true) → a'.tmps.size = a.tmps.size → a'.defers = a.defers →
   Rel H a.tmps.size (at? (upsL l (sel (fun i => listed.getD i false) uss 0))) (vals a') w' S' β' → Step w S β w' S' β' → Q .normal a' w' := by
  intro listed a' w' S' β' hall e1 e2 hr hstep
  have hlast := sel_all (L := fun i => listed.getD i false) (uss := uss) (k := 0) (fun j hj => by rw [Nat.zero_add]; exact hall j (by omega))
  exact hQ _ a' w' S' β' (by rw [upsL_len]; exact hl) (by rw [← hlast] at hκ; exact hκ) e1 e2 hr hstep
 have key : ∀ (fuel : Nat) (listed : Array Bool) (a' : Act) (w' : World) (S' : Nat → Prop) (β' : Key → Option Nat), listed.size = ops.length → cf listed.toList = fuel →
   (∀ i m, listed.getD i false = true → Nat.testBit ((binsOf ops).getD i 0) m = true → listed.getD m false = true) → a'.tmps.size = a.tmps.size → a'.defers = a.defers →
   Rel H a.tmps.size (at? (upsL l (sel (fun i => listed.getD i false) uss 0))) (vals a') w' S' β' → Step w S β w' S' β' → wpAny E.P .any ops.toArray Q fuel listed a' w' := by
  intro fuel
  induction fuel with
  | zero =>
   intro listed a' w' S' β' hsz hcf hcl e1 e2 hr hstep
   have hall : ∀ i, i < ops.length → listed.getD i false = true := fun i hi => by
    have h1 := cf_zero (l := listed.toList) (i := i) hcf
    have h2 : i < listed.size := by omega
    rw [Array.getElem?_toList, Array.getElem?_eq_getElem h2] at h1
    simp only [Array.getD_eq_getD_getElem?, Array.getElem?_eq_getElem h2, Option.getD_some]
    cases hb : listed[i] with
    | true => rfl
    | false => rw [hb] at h1; exact absurd rfl h1
   refine ⟨?_, fin listed a' w' S' β' hall e1 e2 hr hstep⟩
   apply List.eq_nil_iff_forall_not_mem.2
   intro i hi
   obtain ⟨o, h1, h2, _⟩ := ready_mem.1 hi
   have := hall i (List.getElem?_eq_some_iff.1 h1).1
   rw [(getD_two h2).2] at this; cases this
  | succ fuel ih =>
   intro listed a' w' S' β' hsz hcf hcl e1 e2 hr hstep
   refine ⟨fun hnil => fin listed a' w' S' β' (ready_nil hsz hed hnil) e1 e2 hr hstep, fun i hi => ?_⟩
   obtain ⟨o, ho, hli, hedge⟩ := ready_mem.1 hi
   obtain ⟨hilt, hLi⟩ := getD_two hli
   obtain ⟨us, hus⟩ : ∃ us, uss[i]? = some us := ⟨_, List.getElem?_eq_getElem (by omega)⟩
   obtain ⟨rc, hrci⟩ : ∃ rc, rcs[i]? = some rc := ⟨_, List.getElem?_eq_getElem (by omega)⟩
   obtain ⟨hwi, _, _, _, hst'⟩ := hst i o us rc ho hus hrci
   have hci : ∀ m, Nat.testBit ((binsOf ops).getD i 0) m = true → listed.getD m false = true := fun m hm => by
    obtain ⟨e, e1, e2, _, e4⟩ := before_bit hed ho hm
    have := hedge e e1 e2
    rcases e4 with e4 | e4
    ·rw [← e4]; exact this
    ·exact hcl e.on m this e4
   have hag : ∀ {x : Nat}, x ∈ rc.fp ∨ x ∈ rc.wr → ∀ (j : Nat) us, uss[j]? = some us → (∃ u ∈ us, u.slot = x) → listed.getD j false = decide (j < i) := fun {x} hx =>
    ready_agree (L := fun i => listed.getD i false) (by omega) hwr hsp hcl hci hLi hrci hx
   have hat : ∀ x, x ∈ rc.fp ∨ x ∈ rc.wr → at? (upsL l (sel (fun i => listed.getD i false) uss 0)) x = at? (upsL l (uss.take i).flatten) x := fun x hx => by
    by_cases hlen : x < l.length
    ·rw [at_fold1 hlen, at_fold1 hlen]
     rw [sel_slot (L := fun i => listed.getD i false) (M := fun j => decide (j < 0 + i)) (fun j us hj hu => by simp only [Nat.zero_add]; exact hag hx j us hj hu), sel_take]
    ·rw [at_big (by rw [upsL_len]; omega), at_big (by rw [upsL_len]; omega)]
   have hat' : ∀ x, at? (upsL (upsL l (sel (fun i => listed.getD i false) uss 0)) us) x = at? (upsL l (sel (fun j => (listed.setIfInBounds i true).getD j false) uss 0)) x := fun x => by
    by_cases hlen : x < l.length
    ·rw [at_fold1 (by rw [upsL_len]; exact hlen), at_fold1 hlen, at_fold1 hlen]
     by_cases ht : ∃ u ∈ us, u.slot = x
     ·have hx : x ∈ rc.wr := by
       rw [hwi]
       obtain ⟨u, h1, h2⟩ := ht
       exact List.mem_map.2 ⟨u, h1, h2⟩
      rw [sel_slot (L := fun i => listed.getD i false) (M := fun j => decide (j < 0 + i)) (fun j us hj hu => by simp only [Nat.zero_add]; exact hag (.inr hx) j us hj hu), sel_take, ← fold1_append,
       sel_slot (L := fun j => (listed.setIfInBounds i true).getD j false) (M := fun j => decide (j < 0 + (i + 1))) (fun j us' hj hu => by
        simp only [Nat.zero_add]
        rw [getD_set hilt, hag (.inr hx) j us' hj hu, ← Bool.decide_or]
        exact decide_eq_decide.2 (by omega)), sel_take, List.take_add_one, hus]
      simp
     ·rw [fold1_none fun u hu e => ht ⟨u, hu, e⟩]
      exact sel_slot fun j us' hj hu => by
       simp only [Nat.zero_add]
       rw [getD_set hilt]
       by_cases e : j = i
       ·subst e; rw [hj] at hus; cases hus; exact absurd hu ht
       ·simp [e]
    ·rw [at_big (by rw [upsL_len, upsL_len]; omega), at_big (by rw [upsL_len]; omega)]
   have next : ∀ a'' w'' S'' β'', a''.tmps.size = a.tmps.size → a''.defers = a.defers → Rel H a.tmps.size (at? (upsL (upsL l (sel (fun i => listed.getD i false) uss 0)) us)) (vals a'') w'' S'' β'' → Step w S β w'' S'' β'' →
     wpAny E.P .any ops.toArray Q fuel (listed.setIfInBounds i true) a'' w'' := by
    intro a'' w'' S'' β'' f1 f2 hr'' hstep''
    refine ih _ a'' w'' S'' β'' (by simpa using hsz) ?_ ?_ f1 f2 ?_ hstep''
    ·have : listed.toList[i]? = some false := by
      rw [Array.getElem?_toList, Array.getElem?_eq_getElem hilt]
      rw [Array.getD_eq_getD_getElem?, Array.getElem?_eq_getElem hilt] at hLi
      simpa using hLi
     have := cf_set this
     rw [Array.toList_setIfInBounds]; omega
    ·intro j m hj hm
     rw [getD_set hilt] at hj ⊢
     by_cases e : j = i
     ·subst e; simp [hci m hm]
     ·simp only [e, decide_false, Bool.false_or] at hj
      simp [hcl j m hj hm]
    ·rw [← funext hat']; exact hr''
   have hoin := hin o (List.mem_of_getElem? ho)
   have hlc : (upsL l (sel (fun i => listed.getD i false) uss 0)).length = a'.tmps.size := by rw [upsL_len, hl, e1]
   unfold wpOp
   simp only [List.getElem?_toArray, ho]
   rcases hst' with ⟨hop, gs, hg, hfc⟩ | ⟨j, want, g, h1, h2, h3, h4, h5⟩
   ·have hgs : ∀ x, x ∈ gs → x ∈ rc.fp := by
     rcases hfc with h | ⟨h, _⟩ | ⟨h, _⟩
     ·intro x hx; rw [h]; exact List.mem_append_left _ hx
     ·intro x hx; rw [h]; exact hx
     ·intro x hx; rw [h]; exact hx
    have hwant : Region.wanted o (yielded ops.toArray a'.tmps) = true := by
     rcases hg with ⟨h, _⟩ | ⟨j, want, g, h1, h2, h3, h4⟩
     ·simp [Region.wanted, h]
     ·have := yielded_dat hr h2 (t := want) (by rw [hat g (.inl (hgs g (by rw [h3]; simp)))]; exact h4)
      simp [Region.wanted, h1, this]
    rw [if_pos hwant]
    left
    have hop : opK E R (mv.any (Nat.beq i ·)) (viewOf (upsL l (sel (fun i => listed.getD i false) uss 0)) (fpOf o (upsL l (uss.take i).flatten))) o some = some us := by
     rcases hfc with h | ⟨h, x, s, hm, hs, hsf⟩ | ⟨h, s, hex, hts⟩
     ·rw [view_congr fun x hx => hat x (.inl (by rw [h]; exact List.mem_append_right _ hx))]; exact hop
     ·have hmem := soft_fp hm hs
      have hbads : ∀ j us, uss[j]? = some us → s ∉ badUps (upsL l (uss.take j).flatten) us := fun j us' hj hbad => by
       have hjl : j < ops.length := by have := (List.getElem?_eq_some_iff.1 hj).1; omega
       obtain ⟨q, hq⟩ : ∃ q, rcs[j]? = some q := ⟨_, List.getElem?_eq_getElem (by omega)⟩
       have hb2 := (hst j ops[j] us' q (List.getElem?_eq_getElem hjl) hj hq).2.1 s hbad
       unfold noBad at hnb
       rw [meets_iff.2 ⟨s, List.mem_flatMap.2 ⟨rc, List.mem_of_getElem? hrci, by rw [hsf]; simp⟩, List.mem_flatMap.2 ⟨q, List.mem_of_getElem? hq, hb2⟩⟩] at hnb
       cases hnb
      have hps : ∃ t, ptrOwn (at? (upsL l (uss.take i).flatten) s).sv = some t := by
       unfold softS at hs
       split at hs
       ·split at hs
        ·rename_i hc
         cases hs
         simp only [Bool.and_eq_true] at hc
         exact Option.isSome_iff_exists.1 hc.2
        ·cases hs
       ·cases hs
      obtain ⟨t, ht⟩ := hps
      have hlen : s < l.length := by
       rcases Nat.lt_or_ge s l.length with h | h
       ·exact h
       ·rw [at_big (by rw [upsL_len]; exact h)] at ht; cases ht
      have hpi : PO t (at? (upsL l (uss.take i).flatten) s).s (at? (upsL l (uss.take i).flatten) s) := ⟨ht, rfl⟩
      have hp0 := soft_back hlen hbads hpi
      refine soft_op hm hs hop hmem hmem (t := t) ?_
      have hfin := soft_sel (L := fun i => listed.getD i false) (kk := 0) hlen hbads hp0 _ hp0
      rw [← at_fold1 hlen] at hfin
      exact hfin
     ·obtain ⟨hmem, hlen⟩ := exFree_fp hex
      rw [upsL_len] at hlen
      refine ex_op hex hop hmem hmem fun k => fp_sel (i := i) (tw := fun j => ∃ q, rcs[j]? = some q ∧ s ∈ q.tw) hlen (fun j us' hj hx hn s' => ?_) (fun j hjl hw => ?_) fun j j' us' hjj hw hj hx hL => ?_
      ·have hjl : j < ops.length := by have := (List.getElem?_eq_some_iff.1 hj).1; omega
       obtain ⟨q, hq⟩ : ∃ q, rcs[j]? = some q := ⟨_, List.getElem?_eq_getElem (by omega)⟩
       obtain ⟨_, _, _, h4, h5⟩ := hst j ops[j] us' q (List.getElem?_eq_getElem hjl) hj hq
       have he := (h4 s hx).resolve_left fun h => hn ⟨q, hq, h⟩
       rcases h5 with ⟨ho', _⟩ | ⟨_, _, _, _, _, _, _, h6⟩
       ·refine ex_fold ho' he ?_ hx k s'
        obtain ⟨i0, d0, e0, _, _⟩ := exAt_iff he
        unfold fpOf; rw [e0]; simp [Op.operands, tmpsOf]
       ·exfalso
        obtain ⟨i0, d0, _, e1, e2⟩ := exAt_iff he
        rw [e1] at h6
        simp only at h6
        subst h6
        simp only [List.map_cons, List.map_nil, List.mem_singleton, Up.slot] at hx
        exact e2 hx
      ·obtain ⟨q, hq, hs⟩ := hw
       have hst2 : s ∈ rc.ts := by rw [hts]; simp
       rcases Nat.lt_trichotomy j i with h6 | h6 | h6
       ·rw [decide_eq_true h6]
        rcases hsp j i q rc h6 hq hrci with h1 | ⟨_, _, _, h1, _⟩
        ·exact hci j h1
        ·exact absurd hst2 (h1 s hs)
       ·subst h6; simpa using hLi
       ·rw [decide_eq_false (by omega)]
        cases hb : listed.getD j false with
        | false => rfl
        | true =>
         rcases hsp i j rc q h6 hrci hq with h1 | ⟨_, _, _, _, h1⟩
         ·rw [hcl j i hb h1] at hLi; cases hLi
         ·exact absurd hst2 (h1 s hs)
      ·obtain ⟨q', hq', hs⟩ := hw
       have hjl : j < ops.length := by have := (List.getElem?_eq_some_iff.1 hj).1; omega
       obtain ⟨q, hq⟩ : ∃ q, rcs[j]? = some q := ⟨_, List.getElem?_eq_getElem (by omega)⟩
       have h6 : s ∈ q.wr := by rw [hwr j us' q hj hq]; exact hx
       obtain ⟨us2, hj2⟩ : ∃ us2, uss[j']? = some us2 := ⟨_, List.getElem?_eq_getElem (by omega)⟩
       have h7 : s ∈ q'.wr := by
        rw [hwr j' us2 q' hj2 hq']
        exact (hst j' ops[j'] us2 q' (List.getElem?_eq_getElem (by omega)) hj2 hq').2.2.1 s hs
       rcases hsp j' j q' q hjj hq' hq with h1 | ⟨_, h1, _⟩
       ·exact hcl j j' hL h1
       ·exact absurd h6 (h1 s h7)
    refine op_step hR hlc (by rw [e1]; exact hr) (by rw [e1]; exact hoin) hop fun us' a'' w'' S'' β'' g0 g1 g2 g3 g4 => ?_
    cases g0
    exact next a'' w'' S'' β'' (g1.trans e1) (g2.trans e2) (by rw [← e1]; exact g3) (hstep.trans g4)
   ·have hv := hat g (.inl (by rw [h3]; simp))
    have hwant : Region.wanted o (yielded ops.toArray a'.tmps) = false := by
     rcases h4 with h4 | h4
     ·have := yielded_und hr h2 (by rw [hv]; exact h4)
      simp [Region.wanted, h1, this]
     ·have := yielded_dat hr h2 (t := !want) (by rw [hv]; exact h4)
      simp [Region.wanted, h1, this]
    rw [if_neg (by rw [hwant]; simp)]
    cases hd : o.dst with
    | some d =>
     rw [hd] at h5
     simp only at h5
     subst h5
     have hdN := opIn_dst hoin hd
     refine next _ _ _ _ (put_size.trans e1) (put_defers.trans e2) ?_ hstep
     have := (show Rel H a'.tmps.size _ (vals a') w' S' β' by rw [e1]; exact hr).unset hlc (d := d) (by omega)
     rw [e1] at this; exact this
    | none =>
     rw [hd] at h5
     simp only at h5
     subst h5
     exact next _ _ _ _ e1 e2 hr hstep
 refine key _ _ a _ S β (by simp) ?_ ?_ rfl rfl ?_ hs1
 ·have : ∀ n, cf (List.replicate n false) = n := by
   intro n
   induction n with
   | zero => rfl
   | succ n ih => simp only [List.replicate_succ, cf, ih]; simp; omega
  rw [Array.toList_replicate]; exact this _
 ·intro i m hi
  exfalso
  simp [Array.getD_eq_getD_getElem?, Array.getElem?_replicate] at hi
  split at hi <;> simp at hi
 ·have : ∀ (uss : List (List Up)) (k : Nat), sel (fun i => (Array.replicate ops.toArray.size false).getD i false) uss k = [] := by
   intro uss
   induction uss with
   | nil => intro k; rfl
   | cons us r ih =>
    intro k
    simp only [sel, ih (k + 1), List.append_nil]
    rw [if_neg]
    simp [Array.getD_eq_getD_getElem?, Array.getElem?_replicate]
    split <;> simp
  rw [this]; exact hw1
end
end Go.Rf

end
section
namespace Go.Rf
set_option linter.unusedSectionVars false
variable [T : Laid]
def noH : Nat → Option (List Value) := fun _ => none
theorem nopin_pins : ∀ {f : Fl}, f.nopin = true → f.pins = []
 | .pin _ _, h => by simp [Fl.nopin] at h
 | .sh, _ | .gone, _ | .own _, _ | .pr _ _, _ | .ar _, _ => rfl
theorem nopin_base : ∀ {f : Fl}, f.nopin = true → f.base = f
 | .pin _ _, h => by simp [Fl.nopin] at h
 | .sh, _ | .gone, _ | .own _, _ | .pr _ _, _ | .ar _, _ => rfl
theorem nopin_l : ∀ {f : Fl}, f.nopin = true → f.l.nopin = true
 | .pin _ _, h => by simp [Fl.nopin] at h
 | .pr _ _, h => by simp only [Fl.nopin, Bool.and_eq_true] at h; exact h.1
 | .sh, _ | .gone, _ | .own _, _ | .ar _, _ => rfl
theorem nopin_r : ∀ {f : Fl}, f.nopin = true → f.r.nopin = true
 | .pin _ _, h => by simp [Fl.nopin] at h
 | .pr _ _, h => by simp only [Fl.nopin, Bool.and_eq_true] at h; exact h.2
 | .sh, _ | .gone, _ | .own _, _ | .ar _, _ => rfl
section
variable {S S' : Nat → Prop} {β : Key → Option Nat} {H H' : Nat → Option (List Value)} {w w' : World}
theorem Pins_nopin {f : Fl} {c : List Value} (hf : f.nopin = true) : Pins H f c := fun k hk => by rw [nopin_pins hf] at hk; cases hk
theorem VRel_H : ∀ {t : Ty} {k : Key} {f : Fl} {x : t.D} {c : List Value}, f.nopin = true → VRel S β H w k t f x c → VRel S β H' w k t f x c
 | .int _, _, _, _, _, hf, h => by simp only [VRel] at h ⊢; exact ⟨Pins_nopin hf, h.2⟩
 | .bool, _, _, _, _, hf, h => by simp only [VRel] at h ⊢; exact ⟨Pins_nopin hf, h.2⟩
 | .str, _, _, _, _, hf, h => by simp only [VRel] at h ⊢; exact ⟨Pins_nopin hf, h.2⟩
 | .fn, _, _, _, _, hf, h => by simp only [VRel] at h ⊢; exact ⟨Pins_nopin hf, h.2⟩
 | .unit, _, _, _, _, hf, h => by simp only [VRel] at h ⊢; exact ⟨Pins_nopin hf, h.2⟩
 | .sl _, k, f, x, c, hf, h => by
  simp only [VRel] at h ⊢
  refine ⟨Pins_nopin hf, ?_⟩
  have h := h.2
  rw [nopin_base hf] at h ⊢
  cases f with
  | own e =>
   obtain ⟨ad, cap, e1, e2, h⟩ := h
   refine ⟨ad, cap, e1, e2, h.imp id ?_⟩
   rintro ⟨b, o, cs, q1, q2, q3, q4, q5⟩
   exact ⟨b, o, cs, q1, q2, q3, q4, fun i y hy => VRel_H hf (q5 i y hy)⟩
  | _ => exact h
 | .ptr _, k, f, x, c, hf, h => by
  simp only [VRel] at h ⊢
  refine ⟨Pins_nopin hf, ?_⟩
  have h := h.2
  rw [nopin_base hf] at h ⊢
  cases f with
  | own e =>
   obtain ⟨b, cs, q1, q2, q3, q4, q5⟩ := h
   exact ⟨b, cs, q1, q2, q3, q4, VRel_H hf q5⟩
  | _ => exact h
 | .arr _ _, k, f, x, c, hf, h => by
  simp only [VRel] at h ⊢
  refine ⟨Pins_nopin hf, ?_⟩
  have h := h.2
  rw [nopin_base hf] at h ⊢
  cases f with
  | ar e => exact ⟨h.1, h.2.1, fun i y hy => VRel_H hf (h.2.2 i y hy)⟩
  | _ => exact h
 | .pair _ _, k, f, x, c, hf, h => by
  simp only [VRel] at h ⊢
  refine ⟨Pins_nopin hf, ?_⟩
  have h := h.2
  rw [nopin_base hf] at h ⊢
  cases f with
  | pr e1 e2 =>
   simp only [Fl.nopin, Bool.and_eq_true] at hf
   exact ⟨VRel_H hf.1 h.1, VRel_H hf.2 h.2⟩
  | _ => exact h
theorem closed_sh : ∀ {t : Ty}, closed t .sh = true → scal t = true
 | .int _, _ | .bool, _ | .str, _ | .unit, _ => rfl
 | .arr _ t, h => by simp only [closed, Fl.a] at h; simp only [scal]; exact closed_sh h
 | .pair a b, h => by
  simp only [closed, Fl.l, Fl.r, Bool.and_eq_true] at h
  simp only [scal, Bool.and_eq_true]; exact ⟨closed_sh h.1, closed_sh h.2⟩
 | .fn, h | .sl _, h | .ptr _, h => by simp [closed] at h
theorem closed_gone : ∀ {t : Ty}, closed t .gone = true → scal t = true
 | .int _, _ | .bool, _ | .str, _ | .unit, _ => rfl
 | .arr _ t, h => by simp only [closed, Fl.a] at h; simp only [scal]; exact closed_gone h
 | .pair a b, h => by
  simp only [closed, Fl.l, Fl.r, Bool.and_eq_true] at h
  simp only [scal, Bool.and_eq_true]; exact ⟨closed_gone h.1, closed_gone h.2⟩
 | .fn, h | .sl _, h | .ptr _, h => by simp [closed] at h
theorem closed_VRel : ∀ {t : Ty} {f : Fl} {k : Key} {x : t.D} {c : List Value}, closed t f = true → VRel S β H w k t f x c → VRel S' β H w k t f x c
 | .int _, f, _, _, _, _, h | .bool, f, _, _, _, _, h | .str, f, _, _, _, _, h | .unit, f, _, _, _, _, h => by
  simp only [VRel] at h ⊢
  refine ⟨h.1, ?_⟩
  have h := h.2
  cases hf : f.base <;> rw [hf] at h <;> first | exact h | (simpa only [Rd] using h)
 | .fn, _, _, _, _, hc, _ => by simp [closed] at hc
 | .sl t, f, _, _, _, hc, h => by
  cases f with
  | own e =>
   simp only [closed] at hc
   simp only [VRel, Fl.base] at h ⊢
   obtain ⟨h0, ad, cap, e1, e2, h⟩ := h
   refine ⟨h0, ad, cap, e1, e2, h.imp id ?_⟩
   rintro ⟨b, o, cs, q1, q2, q3, q4, q5⟩
   exact ⟨b, o, cs, q1, q2, q3, q4, fun i y hy => closed_VRel hc (q5 i y hy)⟩
  | _ => simp [closed] at hc
 | .ptr t, f, _, _, _, hc, h => by
  cases f with
  | own e =>
   simp only [closed] at hc
   simp only [VRel, Fl.base] at h ⊢
   obtain ⟨h0, b, cs, q1, q2, q3, q4, q5⟩ := h
   exact ⟨h0, b, cs, q1, q2, q3, q4, closed_VRel hc q5⟩
  | _ => simp [closed] at hc
 | .arr n t, f, _, x, c, hc, h => by
  simp only [closed] at hc
  rw [a_base] at hc
  simp only [VRel] at h ⊢
  refine ⟨h.1, ?_⟩
  have h := h.2
  have rd : scal t = true → Rd S w (.arr n t) x c → Rd S' w (.arr n t) x c := fun hs => Rd_scal (t := .arr n t) hs
  cases hf : f.base with
  | ar e =>
   rw [hf] at h hc
   exact ⟨h.1, h.2.1, fun i y hy => closed_VRel hc (h.2.2 i y hy)⟩
  | gone => rw [hf] at h; exact h
  | sh => rw [hf] at h hc; exact rd (closed_sh hc) h
  | own e => rw [hf] at h hc; exact rd (closed_gone hc) h
  | pr e1 e2 => rw [hf] at h hc; exact rd (closed_gone hc) h
  | pin k e => exact absurd hf base_ne_pin
 | .pair a b, f, _, x, c, hc, h => by
  simp only [closed, Bool.and_eq_true] at hc
  rw [l_base, r_base] at hc
  simp only [VRel] at h ⊢
  refine ⟨h.1, ?_⟩
  have h := h.2
  have rd : scal a = true ∧ scal b = true → Rd S w (.pair a b) x c → Rd S' w (.pair a b) x c := fun hs => Rd_scal (t := .pair a b) (by simp [scal, hs.1, hs.2])
  cases hf : f.base with
  | pr e1 e2 =>
   rw [hf] at h hc
   exact ⟨closed_VRel hc.1 h.1, closed_VRel hc.2 h.2⟩
  | gone => rw [hf] at h; exact h
  | sh => rw [hf] at h hc; exact rd ⟨closed_sh hc.1, closed_sh hc.2⟩ h
  | own e => rw [hf] at h hc; exact rd ⟨closed_gone hc.1, closed_gone hc.2⟩ h
  | ar e => rw [hf] at h hc; exact rd ⟨closed_gone hc.1, closed_gone hc.2⟩ h
  | pin k e => exact absurd hf base_ne_pin
end
def CallRes (P : Program) (f : FuncId) (args : Array Value) (w : World) (R : Value → World → Prop) : Prop :=
 (∃ fn, P.funcs[f]? = some fn ∧ (fn.name == "runtime.NumGoroutine") = false ∧ fn.body.isNone = false ∧ Calls P f args w fun | .returned v, w' => R v w' | _, _ => False) ∨
 ∃ v w', (callFunc f args).run P w = .ok (.value v) w' ∧ R v w'
theorem CallRes.mono {P : Program} {f : FuncId} {args : Array Value} {w : World} {R R' : Value → World → Prop} (h : CallRes P f args w R) (hr : ∀ v w', R v w' → R' v w') : CallRes P f args w R' := by
 rcases h with ⟨fn, h1, h2, h3, h4⟩ | ⟨v, w', h1, h2⟩
 ·exact .inl ⟨fn, h1, h2, h3, h4.mono fun e w' he => by cases e <;> first | exact hr _ _ he | exact he⟩
 ·exact .inr ⟨v, w', h1, hr _ _ h2⟩
section
variable (S : Nat → Prop) (β : Key → Option Nat) (w : World)
def ArgsAt : List Mode → List Dyn → List (List Value) → Nat → Prop
 | [], [], [], _ => True
 | .ro t :: ms, d :: ds, c :: cs, i => d.t = t ∧ Rd S w d.t d.x c ∧ ArgsAt ms ds cs (i + 1)
 | .mv t f :: ms, d :: ds, c :: cs, i => d.t = t ∧ f.nopin = true ∧ VRel S β noH w [i] d.t f d.x c ∧ ArgsAt ms ds cs (i + 1)
 | .io t f fo _ _ :: ms, d :: ds, c :: cs, i => d.t = t ∧ (f.nopin = true ∧ fo.nopin = true) ∧ VRel S β noH w [i] d.t f d.x c ∧ ArgsAt ms ds cs (i + 1)
 | _, _, _, _ => False
def argVals : List Dyn → List (List Value) → List Value
 | d :: ds, c :: cs => valOf d.t c :: argVals ds cs
 | _, _ => []
def IoAt : List Mode → List (List Value) → Nat → (t : Ty) → t.D → Prop
 | [], [], _, _, _ => True
 | .io t _ fo _ _ :: ms, c :: cs, i, .pair a b, x => a = t ∧ VRel S β noH w [2 * i + 1] a fo x.1 c ∧ IoAt ms cs (i + 1) b x.2
 | .ro _ :: ms, _ :: cs, i, t, x => IoAt ms cs (i + 1) t x
 | .mv _ _ :: ms, _ :: cs, i, t, x => IoAt ms cs (i + 1) t x
 | _, _, _, _, _ => False
def ResAt : Nat → Nat → (t : Ty) → Fl → t.D → List (List Value) → Prop
 | 0, _, _, _, _, [] => True
 | n + 1, k, .pair a b, f, x, c :: cs => VRel S β noH w [2 * k] a f.l x.1 c ∧ ResAt n (k + 1) b f.r x.2 cs
 | _, _, _, _, _, _ => False
end
def resVals : Nat → Ty → List (List Value) → List Value
 | n + 1, .pair a b, c :: cs => valOf a c :: resVals n b cs
 | _, _, _ => []
def retVal : List Value → Value
 | [v] => v
 | vs => .tuple vs.toArray
def Ret (c : FCfg) (x : c.rt.D) (cs : List (List Value)) (w : World) (S : Nat → Prop) (β : Key → Option Nat) (v : Value) (w' : World) : Prop :=
 ∃ S' β' crs, Sane w' S' β' ∧ Step w S β w' S' β' ∧ ResAt S' β' w' c.nres 0 c.rt c.rf x crs ∧ v = retVal (resVals c.nres c.rt crs) ∧ IoAt S' β' w' c.modes cs 0 (tailTy c.nres c.rt) (tailD c.nres c.rt x)
def FnOK (E : Env) (f : FuncId) (ds : List Dyn) (x : (E.cfg f).rt.D) : Prop :=
 ∀ (w : World) (S : Nat → Prop) (β : Key → Option Nat) (cs : List (List Value)), Sane w S β → ArgsAt S β w (E.cfg f).modes ds cs 0 →
  CallRes E.P f (argVals ds cs).toArray w (Ret (E.cfg f) x cs w S β)
def RunOK (E : Env) (R : Run E) : Prop := ∀ f ds x, R f ds = some x → FnOK E f ds x
end Go.Rf

end
section
namespace Go.Rf
set_option linter.unusedSectionVars false
variable [T : Laid]
section
variable {P : Program} {H : Nat → Option (List Value)} {N : Nat} {g g' G σ : View} {V V' V0 : Nat → Option Value} {w w' : World} {S S' : Nat → Prop} {β β' : Key → Option Nat} {a : Act} {o : Oper}
variable {E : Env} {gv : View} {us : List Up}
structure HeldIo (N : Nat) (w : World) (G : View) (V V0 : Nat → Option Value) (x : Operand) (t : Ty) (f fo : Fl) (d : Dyn) (o : Io) (k : Nat) : Prop where
 np : f.nopin = true ∧ fo.nopin = true
 at_ : ∃ d0 : Dat, getP o.p o.e.t o.e.f o.e.x = some d0 ∧ d0.t = t ∧ d0.f.base = f ∧ d = ⟨d0.t, d0.x⟩ ∧
  ∀ cr L c, V0 o.r = some (valOf o.e.t cr) → cr.length = o.e.t.size → walk w o.e.t (.reg cr) o.p = some (d0.t, L) → cellsAt w d0.t.size L = some c → evl V0 x = some (valOf d0.t c)
 ne : f.base ≠ .gone
 inb : inB o.p o.e.t o.e.x
 sv : (G (N + k)).sv = .dat o.e
 lt : o.r < N
 val : V (N + k) = V0 o.r
def HeldAt (N : Nat) (w : World) (G : View) (V V0 : Nat → Option Value) : List Mode → List Operand → List (Option Dyn) → List Io → Nat → Prop
 | [], [], [], [], _ => True
 | .ro _ :: ms, _ :: xs, none :: hs, rs, k => HeldAt N w G V V0 ms xs hs rs (k + 1)
 | .mv t f :: ms, x :: xs, some d :: hs, rs, k => d.t = t ∧ f.nopin = true ∧ (G (N + k)).sv = .dat ⟨d.t, d.x, f⟩ ∧ V (N + k) = evl V0 x ∧ HeldAt N w G V V0 ms xs hs rs (k + 1)
 | .io t f fo _ _ :: ms, x :: xs, some d :: hs, o :: rs, k => HeldIo N w G V V0 x t f fo d o k ∧ HeldAt N w G V V0 ms xs hs rs (k + 1)
 | _, _, _, _, _ => False
theorem up_congr {i : Nat} {u : Up} (h : g i = g' i) : (g.up u) i = (g'.up u) i := by
 by_cases e : i = u.slot
 ·subst e; rw [up_eq, up_eq, h]
 ·rw [up_ne e, up_ne e, h]
theorem ups_congr {i : Nat} : ∀ {us : List Up} {g g' : View}, g i = g' i → (g.ups us) i = (g'.ups us) i
 | [], _, _, h => h
 | u :: us, _, _, h => by simp only [View.ups]; exact ups_congr (up_congr h)
theorem ups_far {i : Nat} : ∀ {us : List Up} {g : View}, (∀ u ∈ us, u.slot ≠ i) → (g.ups us) i = g i
 | [], _, _ => rfl
 | u :: us, g, h => by
  simp only [View.ups]
  rw [ups_far fun v hv => h v (by simp [hv]), up_ne (fun e => h u (by simp) e.symm)]
theorem Sub.hand {n : Nat} {d : Dat} (h : Sub g G) (hn : (g n).sv = .dead) : Sub g (upN G n d) := fun i => by
 by_cases e : i = n
 ·subst e; exact .inl hn
 ·exact (h i).imp id fun h => by rw [upN_at e]; exact h
theorem Sub.rfl' : Sub g g := fun _ => .inr rfl
theorem Rel.weakenHand {r : Nat} {e : Dat} {f : Fl} (h : Rel H N g V w S β) (he : (g r).sv = .dat e) (hf : Fl.le f e.f = true) :
  Rel H N (upN g r ⟨e.t, e.x, f⟩) V w (pubS S β r e.t f) (pubβ β r e.t f) := by
 refine Rel.put h (h.sane.pub r e.t f) (fun b hb => ⟨.inl hb, rfl⟩) (fun j s b hj _ hb => ⟨by simp [pubβ, hj, hb], rfl⟩) (fun _ _ => rfl) ?_
 obtain ⟨c, hv, hV⟩ := h.dat he
 refine ⟨c, ?_, hV⟩
 refine VRel_le (fun b hb => ⟨.inl hb, rfl⟩) hf (fun s b hb => ⟨rfl, fun ho => ?_, fun ho => .inr ⟨s, hb, ho⟩⟩) hv
 simp only [List.cons_append, List.nil_append] at hb ⊢
 simp [pubβ, ho, hb]
theorem inB_init : ∀ {p q : List PS} {t : Ty} {x : t.D}, inB (p ++ q) t x → inB p t x
 | [], _, _, _, _ => by simp [inB]
 | .fst :: p, q, .pair _ _, x, h => by simp only [List.cons_append, inB] at h ⊢; exact inB_init (p := p) h
 | .snd :: p, q, .pair _ _, x, h => by simp only [List.cons_append, inB] at h ⊢; exact inB_init (p := p) h
 | .der :: p, q, .ptr _, x, h => by simp only [List.cons_append, inB] at h ⊢; exact inB_init (p := p) h
 | .idx i :: p, q, .arr _ _, x, h => by simp only [List.cons_append, inB] at h ⊢; exact ⟨h.1, inB_init (p := p) h.2⟩
 | .elm i :: p, q, .sl _, x, h => by simp only [List.cons_append, inB] at h ⊢; exact ⟨h.1, inB_init (p := p) h.2⟩
 | .fst :: p, q, .int _, _, h | .fst :: p, q, .bool, _, h | .fst :: p, q, .str, _, h | .fst :: p, q, .fn, _, h | .fst :: p, q, .unit, _, h | .fst :: p, q, .sl _, _, h | .fst :: p, q, .ptr _, _, h | .fst :: p, q, .arr _ _, _, h => by simp [inB] at h
 | .snd :: p, q, .int _, _, h | .snd :: p, q, .bool, _, h | .snd :: p, q, .str, _, h | .snd :: p, q, .fn, _, h | .snd :: p, q, .unit, _, h | .snd :: p, q, .sl _, _, h | .snd :: p, q, .ptr _, _, h | .snd :: p, q, .arr _ _, _, h => by simp [inB] at h
 | .der :: p, q, .int _, _, h | .der :: p, q, .bool, _, h | .der :: p, q, .str, _, h | .der :: p, q, .fn, _, h | .der :: p, q, .unit, _, h | .der :: p, q, .sl _, _, h | .der :: p, q, .pair _ _, _, h | .der :: p, q, .arr _ _, _, h => by simp [inB] at h
 | .idx _ :: p, q, .int _, _, h | .idx _ :: p, q, .bool, _, h | .idx _ :: p, q, .str, _, h | .idx _ :: p, q, .fn, _, h | .idx _ :: p, q, .unit, _, h | .idx _ :: p, q, .sl _, _, h | .idx _ :: p, q, .pair _ _, _, h | .idx _ :: p, q, .ptr _, _, h => by simp [inB] at h
 | .elm _ :: p, q, .int _, _, h | .elm _ :: p, q, .bool, _, h | .elm _ :: p, q, .str, _, h | .elm _ :: p, q, .fn, _, h | .elm _ :: p, q, .unit, _, h | .elm _ :: p, q, .arr _ _, _, h | .elm _ :: p, q, .pair _ _, _, h | .elm _ :: p, q, .ptr _, _, h => by simp [inB] at h
theorem pl_sound {x : Operand} {q : Pl} {e d : Dat} (h : Rel H N g V w S β) (hr : ioPl g x (sv g x) = some q) (he : (g q.1).sv = .dat e) (hg : getP q.2 e.t e.f e.x = some d) :
  inB q.2 e.t e.x ∧ ∀ cr L c, V q.1 = some (valOf e.t cr) → cr.length = e.t.size → walk w e.t (.reg cr) q.2 = some (d.t, L) → cellsAt w d.t.size L = some c → evl V x = some (valOf d.t c) := by
 cases hx : sv g x with
 | dat e' =>
  rw [hx] at hr
  simp only [ioPl] at hr
  split at hr
  ·simp only [Option.some.injEq] at hr; subst hr
   simp only [getP, Option.some.injEq] at hg; subst hg
   refine ⟨by simp [inB], fun cr L c h1 h2 h3 h4 => ?_⟩
   simp only [walk, Option.some.injEq, Prod.mk.injEq, true_and] at h3
   subst h3
   obtain ⟨rfl, _⟩ := cellsAt_reg h4
   exact h1
  ·cases hr
 | als r' p c' s =>
  rw [hx] at hr
  obtain ⟨i, rfl, hi⟩ := opnd_tmp hx (by simp) (by simp) (by simp)
  simp only [ioPl] at hr
  split at hr
  ·rename_i hok
   simp only [Option.some.injEq] at hr; subst hr
   obtain ⟨_, hb, _, cr, L, c2, k1, k2, k3, k4, k5, k6, k7⟩ := h.als hi hok he hg
   refine ⟨hb, fun cr' L' c h1 h2 h3 h4 => ?_⟩
   have := valOf_inj (Option.some.inj (k1.symm.trans h1)) k2 h2
   subst this
   rw [k4] at h3
   simp only [Option.some.injEq, Prod.mk.injEq, true_and] at h3
   subst h3
   rw [k5] at h4
   simp only [Option.some.injEq] at h4
   subst h4
   exact k7
  ·cases hr
 | adr r' p c' s =>
  rw [hx] at hr
  obtain ⟨i, rfl, hi⟩ := opnd_tmp hx (by simp) (by simp) (by simp)
  simp only [ioPl] at hr
  split at hr
  ·rename_i hok
   split at hr
   ·rename_i q' hrev
    simp only [Option.some.injEq] at hr; subst hr
    have hp : p = q'.reverse ++ [.der] := by have := congrArg List.reverse hrev; simpa using this
    subst hp
    have hs := h.slots i
    rw [hi] at hs
    obtain ⟨_, _, _, hs⟩ := hs
    obtain ⟨cr, t, b, o, k1, k2, k3, k4, k5, _⟩ := hs hok e he
    refine ⟨inB_init k5, fun cr' L c h1 h2 h3 h4 => ?_⟩
    have := valOf_inj (Option.some.inj (k1.symm.trans h1)) k2 h2
    subst this
    rw [walk_append h3] at k3
    simp only [evl]
    rw [k4]
    obtain ⟨dt, dx, df⟩ := d
    cases dt with
    | ptr τ =>
     simp only [Ty.size] at h4
     simp only [walk, stepL, h4] at k3
     split at k3
     ·rename_i t' L' he'
      simp only [Option.some.injEq, Prod.mk.injEq] at k3
      obtain ⟨rfl, rfl⟩ := k3
      split at he'
      ·rename_i b' hq
       simp only [Option.some.injEq, Prod.mk.injEq, Loc.mem.injEq] at he' hq
       obtain ⟨_, rfl, rfl⟩ := he'
       subst hq
       rfl
      ·cases he'
     ·cases k3
    | _ => simp [walk, stepL] at k3
   ·cases hr
  ·cases hr
 | _ => rw [hx] at hr; simp [ioPl] at hr
theorem pl_mono {x : Operand} {q : Pl} (hs : Sub g G) (h : ioPl g x (sv g x) = some q) (hd : (g q.1).sv ≠ .dead) : ioPl G x (sv G x) = some q := by
 cases hx : sv g x with
 | dat e => rw [hs.sv hx (by simp)]; rw [hx] at h; exact h
 | als r' p c s =>
  rw [hs.sv hx (by simp)]; rw [hx] at h
  simp only [ioPl] at h ⊢
  split at h
  ·rename_i hok
   simp only [Option.some.injEq] at h; subst h
   rw [Sub.okA (hs.get rfl hd), hok]; rfl
  ·cases h
 | adr r' p c s =>
  rw [hs.sv hx (by simp)]; rw [hx] at h
  simp only [ioPl] at h ⊢
  split at h
  ·rename_i hok
   split at h
   ·rename_i q' hrev
    simp only [Option.some.injEq] at h; subst h
    rw [Sub.okB (hs.get rfl hd), hok]; rfl
   ·cases h
  ·cases h
 | _ => rw [hx] at h; simp [ioPl] at h
theorem evl_low {x : Operand} (hD : DeadFrom N g) (hx : sv g x ≠ .dead) (hV : ∀ i, i < N → V i = V' i) : evl V x = evl V' x := by
 cases x with
 | tmp s => exact hV s (hD.lt hx)
 | _ => rfl
theorem prepAll_sound {share : Bool} : ∀ {ms : List Mode} {xs : List Operand} {g : View} {p : Prep} {k : Nat} {V : Nat → Option Value} {G : View} {S : Nat → Prop} {β : Key → Option Nat},
  Rel H N G V w S β → Sub g G → DeadFrom N g → (∀ i, N + k ≤ i → (G i).sv = .dead) → (∀ i, i < N → V i = V0 i) → prepAll share ms xs g = some p →
  ∃ G' V' S' β', Rel H N G' V' w S' β' ∧ Step w S β w S' β' ∧ Sub p.g G' ∧ DeadFrom N p.g ∧ (∀ i, i < N → G' i = (G.ups p.ups) i) ∧ (∀ i, i < N + k → V' i = V i) ∧
   (∀ i, N ≤ i → i < N + k → G' i = G i) ∧ HeldAt N w G' V' V0 ms xs p.hands p.ios k ∧ ∀ u ∈ p.ups, u.slot < N
 | [], [], g, p, k, V, G, S, β, h, hs, hD, hd, hV, hp => by
  simp only [prepAll, Option.some.injEq] at hp; subst hp
  exact ⟨G, V, S, β, h, .refl, hs, hD, fun _ _ => rfl, fun _ _ => rfl, fun _ _ _ => rfl, by simp [HeldAt], by simp⟩
 | [], _ :: _, _, _, _, _, _, _, _, _, _, _, _, _, hp => by simp [prepAll] at hp
 | _ :: _, [], _, _, _, _, _, _, _, _, _, _, _, _, hp => by simp [prepAll] at hp
 | m :: ms, x :: xs, g, p, k, V, G, S, β, h, hs, hD, hd, hV, hp => by
  simp only [prepAll] at hp
  split at hp
  ·rename_i hnd us rs ho
   obtain ⟨p', hp', rfl⟩ := Option.map_eq_some_iff.1 hp
   have go : ∀ (G1 : View) (V1 : Nat → Option Value) (S1 : Nat → Prop) (β1 : Key → Option Nat), Rel H N G1 V1 w S1 β1 → Step w S β w S1 β1 → Sub (g.ups us) G1 → (∀ u ∈ us, u.slot < N) →
     (∀ i, i ≠ N + k → G1 i = (G.ups us) i) → (∀ i, i ≠ N + k → V1 i = V i) →
     (∀ (G' : View) (V' : Nat → Option Value), G' (N + k) = G1 (N + k) → V' (N + k) = V1 (N + k) → HeldAt N w G' V' V0 ms xs p'.hands p'.ios (k + 1) → HeldAt N w G' V' V0 (m :: ms) (x :: xs) (hnd :: p'.hands) (rs ++ p'.ios) k) →
     ∃ G' V' S' β', Rel H N G' V' w S' β' ∧ Step w S β w S' β' ∧ Sub p'.g G' ∧ DeadFrom N p'.g ∧ (∀ i, i < N → G' i = (G.ups (us ++ p'.ups)) i) ∧ (∀ i, i < N + k → V' i = V i) ∧
      (∀ i, N ≤ i → i < N + k → G' i = G i) ∧ HeldAt N w G' V' V0 (m :: ms) (x :: xs) (hnd :: p'.hands) (rs ++ p'.ios) k ∧ ∀ u ∈ us ++ p'.ups, u.slot < N := by
    intro G1 V1 S1 β1 h1 hst hs1 hlt hG hV1 hhd
    have hfar : ∀ i, N ≤ i → (G.ups us) i = G i := fun i hi => ups_far fun u hu e => by have := hlt u hu; omega
    obtain ⟨G', V', S', β', r1, r2, r3, r4, r5, r6, r7, r8, r9⟩ := prepAll_sound (k := k + 1) h1 hs1 (hD.ups hlt) (fun i hi => by rw [hG i (by omega), hfar i (by omega)]; exact hd i (by omega))
     (fun i hi => by rw [hV1 i (by omega)]; exact hV i hi) hp'
    refine ⟨G', V', S', β', r1, hst.trans r2, r3, r4, fun i hi => ?_, fun i hi => ?_, fun i h1 h2 => ?_, hhd G' V' (r7 _ (by omega) (by omega)) (r6 _ (by omega)) r8, fun u hu => ?_⟩
    ·rw [r5 i hi, ups_append]; exact ups_congr (hG i (by omega))
    ·rw [r6 i (by omega), hV1 i (by omega)]
    ·rw [r7 i h1 (by omega), hG i (by omega), hfar i h1]
    ·rcases List.mem_append.1 hu with hu | hu
     ·exact hlt u hu
     ·exact r9 u hu
   have hgn : (g (N + k)).sv = .dead := hD _ (by omega)
   have hGn : (G (N + k)).sv = .dead := hd _ (Nat.le_refl _)
   cases m with
   | ro t =>
    simp only [prepOf] at ho
    have plain : (none, [], []) = (hnd, us, rs) → ∃ G' V' S' β', Rel H N G' V' w S' β' ∧ Step w S β w S' β' ∧ Sub p'.g G' ∧ DeadFrom N p'.g ∧ (∀ i, i < N → G' i = (G.ups (us ++ p'.ups)) i) ∧ (∀ i, i < N + k → V' i = V i) ∧
      (∀ i, N ≤ i → i < N + k → G' i = G i) ∧ HeldAt N w G' V' V0 (.ro t :: ms) (x :: xs) (hnd :: p'.hands) (rs ++ p'.ios) k ∧ ∀ u ∈ us ++ p'.ups, u.slot < N := fun e => by
     simp only [Prod.mk.injEq] at e
     obtain ⟨rfl, rfl, rfl⟩ := e
     exact go G V S β h .refl hs (by simp) (fun _ _ => rfl) (fun _ _ => rfl) (fun G' V' _ _ hh => hh)
    split at ho
    ·split at ho
     ·simp only [Option.some.injEq] at ho; exact plain ho
     ·split at ho
      ·rename_i d hdat
       obtain ⟨us', hpub, e⟩ := Option.map_eq_some_iff.1 ho
       simp only [Prod.mk.injEq] at e
       obtain ⟨rfl, rfl, rfl⟩ := e
       obtain ⟨hpub', hsub', _⟩ := publish_mono hs hpub
       obtain ⟨_, _, halive⟩ := publish_mono Sub.rfl' hpub
       obtain ⟨S1, β1, c, q1, q2, _, _⟩ := publish_sound h hpub' (dataOf_mono hs hdat)
       exact go _ V S1 β1 q1 q2 hsub' (fun u hu => hD.lt (halive u hu)) (fun _ _ => rfl) (fun _ _ => rfl) (fun G' V' _ _ hh => hh)
      ·cases ho
    ·simp only [Option.some.injEq] at ho; exact plain ho
   | mv t f =>
    simp only [prepOf] at ho
    split at ho
    ·rename_i d us' ht
     split at ho
     ·rename_i hc
      simp only [Option.some.injEq, Prod.mk.injEq] at ho
      obtain ⟨rfl, rfl, rfl⟩ := ho
      simp only [Bool.and_eq_true, decide_eq_true_eq] at hc
      obtain ⟨⟨hdt, hle⟩, hnp⟩ := hc
      obtain ⟨ht', hsub'⟩ := take_mono hs ht
      have hlt : ∀ u ∈ us', u.slot < N := fun u hu => hD.lt (take_alive ht u hu)
      obtain ⟨S1, β1, c, q1, q2, q3, q4⟩ := take_sound (n := N + k) h ht' hGn (by omega)
      have q5 := q1.weakenHand upN_self hle
      have hdn : ((g.ups us') (N + k)).sv = .dead := hD.ups hlt _ (by omega)
      refine go _ _ _ _ q5 (q2.trans (.pub _ _ _)) ((hsub'.hand hdn).hand hdn) hlt (fun i hi => by rw [upN_at hi, upN_at hi]) (fun i hi => by simp [upd, hi]) ?_
      intro G' V' e1 e2 hh
      refine ⟨hdt, hnp, by rw [e1]; exact upN_self, ?_, hh⟩
      rw [e2, ← evl_low hD (fun e => by rw [e] at ht; simp [take] at ht) hV, q3]; simp [upd]
     ·cases ho
    ·cases ho
   | io t f fo sl pa =>
    simp only [prepOf] at ho
    split at ho
    ·rename_i q hr
     split at ho
     ·rename_i e hdat
      split at ho
      ·rename_i d hg
       split at ho
       ·rename_i hc
        simp only [Option.some.injEq, Prod.mk.injEq] at ho
        obtain ⟨rfl, rfl, rfl⟩ := ho
        simp only [Bool.and_eq_true, decide_eq_true_eq, Bool.not_eq_true'] at hc
        obtain ⟨⟨⟨⟨hdt, hfb⟩, hnp⟩, hnp'⟩, hng⟩ := hc
        have hnb : f.base ≠ .gone := isGone_base hng
        have hGr : G q.1 = g q.1 := hs.get rfl (by rw [hdat]; simp)
        have hGd : (G q.1).sv = .dat e := by rw [hGr]; exact hdat
        have hrN : q.1 < N := hD.lt (i := q.1) (by rw [hdat]; simp)
        have hrn : N + k ≠ q.1 := by omega
        obtain ⟨hinb, hval⟩ := pl_sound h (pl_mono hs hr (by rw [hdat]; simp)) hGd hg
        obtain ⟨c, hvr, hVr⟩ := h.dat hGd
        have q1 : Rel H N (G.up (.put q.1 .dead)) V w S β := h.kill fun _ _ => rfl
        have hd1 : ((G.up (.put q.1 .dead)) q.1).sv = .dead := by rw [show G.up (.put q.1 .dead) q.1 = _ from up_eq (u := .put q.1 .dead)]; rfl
        have hd2 : ((G.up (.put q.1 .dead)) (N + k)).sv = .dead := by rw [up_ne (u := .put q.1 .dead) hrn]; exact hGn
        have q2 := (q1.rekey [] hd1 hd2).hand (n := N + k) (d := e) (c := c) (VRel_rekey hvr)
        have hsx : sv g x ≠ .dead := fun e => by rw [e] at hr; simp [ioPl] at hr
        have hlt : ∀ u ∈ [Up.put q.1 .dead], u.slot < N := fun u hu => by rw [List.mem_singleton.1 hu]; exact hrN
        have hdn : ((g.ups [Up.put q.1 .dead]) (N + k)).sv = .dead := hD.ups hlt _ (by omega)
        have hsub1 : Sub (g.ups [Up.put q.1 .dead]) (G.ups [Up.put q.1 .dead]) := hs.upD
        refine go _ _ _ _ q2 (.rekey _ _) (hsub1.hand hdn) hlt (fun i hi => by rw [upN_at hi]; rfl) (fun i hi => by simp [upd, hi]) ?_
        intro G' V' e1 e2 hh
        have hx0 : evl V x = evl V0 x := evl_low hD hsx hV
        exact ⟨⟨⟨hnp, hnp'⟩, ⟨d, hg, hdt, hfb, rfl, fun cr L c h1 h2 h3 h4 => by rw [← hx0]; exact hval cr L c (by rw [hV _ hrN]; exact h1) h2 h3 h4⟩, hnb, hinb, by rw [e1]; exact upN_self, hrN, by rw [e2, ← hV _ hrN, hVr]; simp [upd]⟩, hh⟩
       ·cases ho
      ·cases ho
     ·cases ho
    ·cases ho
  ·cases hp
end
end Go.Rf

end
section
namespace Go.Rf
set_option linter.unusedSectionVars false
variable [T : Laid]
section
variable {P : Program} {H : Nat → Option (List Value)} {N : Nat} {g g' G σ : View} {V V' V0 : Nat → Option Value} {w w' : World} {S S' : Nat → Prop} {β β' : Key → Option Nat} {a : Act} {o : Oper}
variable {E : Env} {gv : View} {us : List Up}
theorem caps_alive : ∀ {rs : List (Nat × Nat)} {cs : FCaps}, capsOf g rs = some cs → ∀ x ∈ rs, (g x.1).sv ≠ .dead
 | [], _, _ => by simp
 | (r, s) :: rs, cs, h => by
  simp only [capsOf] at h
  intro x hx
  split at h
  ·rename_i he
   split at h
   ·obtain ⟨cs', h, _⟩ := Option.map_eq_some_iff.1 h
    rcases List.mem_cons.1 hx with rfl | hx
    ·simp [he]
    ·exact caps_alive h x hx
   ·cases h
  ·rename_i he
   split at h
   ·obtain ⟨cs', h, _⟩ := Option.map_eq_some_iff.1 h
    rcases List.mem_cons.1 hx with rfl | hx
    ·simp [he]
    ·exact caps_alive h x hx
   ·cases h
  ·cases h
theorem lent_alive {x : Operand} {d : Dat} (h : dataOf g (sv g x) = some d) : ∀ r ∈ lentOf g x (sv g x), (g r).sv ≠ .dead := by
 cases hx : sv g x with
 | dat e =>
  simp only [lentOf]
  split
  ·simp
  ·split
   ·rename_i s
    intro r hr
    rw [List.mem_singleton.1 hr]
    have : (g s).sv = .dat e := hx
    rw [this]; simp
   ·simp
 | als r p c s =>
  simp only [lentOf]
  split
  ·rename_i d hd
   split
   ·simp
   ·intro r' hr
    rw [List.mem_singleton.1 hr]
    obtain ⟨e, he, _⟩ := atP_some hd
    rw [he]; simp
  ·simp
 | pend r p c s u e =>
  rw [hx] at h
  simp only [dataOf] at h
  split at h
  ·split at h
   ·rename_i e' he
    intro r' hr
    simp only [lentOf, List.mem_append, List.mem_singleton] at hr
    rcases hr with hr | rfl
    ·split at hr
     ·rename_i i
      rw [List.mem_singleton.1 hr]
      have : (g i).sv = _ := hx
      rw [this]; simp
     ·cases hr
    ·rw [he]; simp
   ·cases h
  ·cases h
 | clo f rs =>
  rw [hx] at h
  simp only [dataOf, Option.map_eq_some_iff] at h
  obtain ⟨cs, hc, _⟩ := h
  intro r hr
  simp only [lentOf, List.mem_map] at hr
  obtain ⟨y, hy, rfl⟩ := hr
  exact caps_alive hc y hy
 | _ => simp [lentOf]
theorem lent_mono {x : Operand} {d : Dat} (hs : Sub g G) (h : dataOf g (sv g x) = some d) : lentOf G x (sv G x) = lentOf g x (sv g x) := by
 have hn : sv g x ≠ .dead := fun e => by rw [e] at h; simp [dataOf] at h
 rw [hs.sv rfl hn]
 cases hx : sv g x with
 | als r p c s =>
  rw [hx] at h
  simp only [dataOf] at h
  split at h
  ·split at h
   ·rename_i d' hd
    simp only [lentOf]
    rw [hd, (hs.atP hd).1]
   ·cases h
  ·cases h
 | _ => rfl
structure BackIo (H : Nat → Option (List Value)) (N : Nat) (S : Nat → Prop) (β : Key → Option Nat) (w : World) (V0 : Nat → Option Value) (t : Ty) (fo : Fl) (c : List Value) (o : Io) (k : Nat) : Prop where
 lt : o.r < N
 np : fo.nopin = true
 at_ : ∃ (d0 : Dat) (cr : List Value) (L : Loc), getP o.p o.e.t o.e.f o.e.x = some d0 ∧ d0.t = t ∧ d0.f.base ≠ .gone ∧ inB o.p o.e.t o.e.x ∧ V0 o.r = some (valOf o.e.t cr) ∧
  VRel S β H w [N + k] o.e.t o.e.f o.e.x cr ∧ walk w o.e.t (.reg cr) o.p = some (d0.t, L) ∧ cellsAt w d0.t.size L = some c ∧ Pins H d0.f c
def BackAt (H : Nat → Option (List Value)) (N : Nat) (S : Nat → Prop) (β : Key → Option Nat) (w : World) (V0 : Nat → Option Value) : List Mode → List (List Value) → List Io → Nat → Prop
 | [], [], [], _ => True
 | .ro _ :: ms, _ :: cs, rs, k => BackAt H N S β w V0 ms cs rs (k + 1)
 | .mv _ _ :: ms, _ :: cs, rs, k => BackAt H N S β w V0 ms cs rs (k + 1)
 | .io t _ fo _ _ :: ms, c :: cs, o :: rs, k => BackIo H N S β w V0 t fo c o k ∧ BackAt H N S β w V0 ms cs rs (k + 1)
 | _, _, _, _ => False
def ksOf : List Mode → List Io → Nat → Nat → Key
 | .io _ _ _ _ _ :: ms, o :: os, i, j => if j = i then keyP o.p else ksOf ms os (i + 1) j
 | .ro _ :: ms, os, i, j => ksOf ms os (i + 1) j
 | .mv _ _ :: ms, os, i, j => ksOf ms os (i + 1) j
 | _, _, _, _ => []
theorem ksOf_lt : ∀ {ms : List Mode} {os : List Io} {i j : Nat}, j < i → ksOf ms os i j = []
 | .io _ _ _ _ _ :: ms, o :: os, i, j, h => by simp only [ksOf]; rw [if_neg (by omega)]; exact ksOf_lt (by omega)
 | .ro _ :: ms, os, i, j, h => by simp only [ksOf]; exact ksOf_lt (by omega)
 | .mv _ _ :: ms, os, i, j, h => by simp only [ksOf]; exact ksOf_lt (by omega)
 | [], _, _, _, _ => by simp [ksOf]
 | .io _ _ _ _ _ :: _, [], _, _, _ => by simp [ksOf]
def handβ (N : Nat) (ks : Nat → Key) (β : Key → Option Nat) : Key → Option Nat
 | i :: s => β ((N + i) :: (ks i ++ s))
 | [] => none
theorem datsOf_sound {ks : Nat → Key} : ∀ {ms : List Mode} {xs : List Operand} {hs : List (Option Dyn)} {rs : List Io} {k : Nat} {ds : List Dyn} {lent : List Nat},
  Rel H N G V w S β → Sub g G → DeadFrom N g → (∀ i, i < N → V i = V0 i) → HeldAt N w G V V0 ms xs hs rs k → (∀ j, k ≤ j → ks j = ksOf ms rs k j) → datsOf g ms xs hs = some (ds, lent) →
  ∃ cs : List (List Value), xs.map (evl V0 ·) = (argVals ds cs).map some ∧ (∀ r ∈ lent, r < N) ∧ BackAt H N S β w V0 ms cs rs k ∧
   ∀ L : List Nat, (∀ r ∈ lent, r ∈ L) → ArgsAt (lentS S β L) (handβ N ks β) w ms ds cs k
 | [], [], [], rs, k, ds, lent, h, hs, hD, hV, hh, hk, hd => by
  simp only [datsOf, Option.some.injEq, Prod.mk.injEq] at hd
  obtain ⟨rfl, rfl⟩ := hd
  refine ⟨[], by simp [argVals], by simp, ?_, fun L _ => by simp [ArgsAt]⟩
  cases rs with
  | nil => simp [BackAt]
  | cons _ _ => simp [HeldAt] at hh
 | .ro t :: ms, x :: xs, none :: hs', rs, k, ds, lent, h, hs, hD, hV, hh, hk, hd => by
  simp only [HeldAt] at hh
  have hk' : ∀ j, k + 1 ≤ j → ks j = ksOf ms rs (k + 1) j := fun j hj => by rw [hk j (by omega)]; simp only [ksOf]
  have nilcase : ∀ {τ : Ty}, sv g x = .nils → t = .sl τ → ((datsOf g ms xs hs').map fun r => ((⟨.sl τ, ([] : List τ.D)⟩ : Dyn) :: r.1, r.2)) = some (ds, lent) → ∃ cs : List (List Value), (x :: xs).map (evl V0 ·) = (argVals ds cs).map some ∧ (∀ r ∈ lent, r < N) ∧ BackAt H N S β w V0 (.ro t :: ms) cs rs k ∧
    ∀ L : List Nat, (∀ r ∈ lent, r ∈ L) → ArgsAt (lentS S β L) (handβ N ks β) w (.ro t :: ms) ds cs k := by
   intro τ hx ht hq
   obtain ⟨r, hr, e⟩ := Option.map_eq_some_iff.1 hq
   subst ht
   simp only [Prod.mk.injEq] at e
   obtain ⟨rfl, rfl⟩ := e
   obtain ⟨cs, h1, h2, h3, h4⟩ := datsOf_sound (k := k + 1) h hs hD hV hh hk' hr
   refine ⟨[.slice none 0 0] :: cs, ?_, h2, h3, fun L hL => ⟨rfl, ?_, h4 L hL⟩⟩
   ·rcases opnd_nils (hs.sv hx (by simp)) with ⟨s, rfl, hss⟩ | rfl
    ·have := h.slots s
     rw [hss] at this; exact this.elim
    ·simp only [List.map_cons, argVals, h1]; rfl
   ·simp only [Rd]
    exact ⟨none, 0, rfl, Nat.le_refl _, .inl rfl⟩
  have datcase : ∀ {d : Dat}, dataOf g (sv g x) = some d → d.t = t → ((datsOf g ms xs hs').map fun r => ((⟨d.t, d.x⟩ : Dyn) :: r.1, lentOf g x (sv g x) ++ r.2)) = some (ds, lent) → ∃ cs : List (List Value), (x :: xs).map (evl V0 ·) = (argVals ds cs).map some ∧ (∀ r ∈ lent, r < N) ∧ BackAt H N S β w V0 (.ro t :: ms) cs rs k ∧
    ∀ L : List Nat, (∀ r ∈ lent, r ∈ L) → ArgsAt (lentS S β L) (handβ N ks β) w (.ro t :: ms) ds cs k := by
   intro d hx ht hq
   obtain ⟨r, hr, e⟩ := Option.map_eq_some_iff.1 hq
   simp only [Prod.mk.injEq] at e
   obtain ⟨rfl, rfl⟩ := e
   obtain ⟨cs, h1, h2, h3, h4⟩ := datsOf_sound (k := k + 1) h hs hD hV hh hk' hr
   obtain ⟨c, hc, hrd⟩ := dataOf_lent h (dataOf_mono hs hx)
   rw [lent_mono hs hx] at hrd
   refine ⟨c :: cs, ?_, fun r hr => ?_, h3, fun L hL => ⟨ht, ?_, h4 L fun r hr => hL r (List.mem_append_right _ hr)⟩⟩
   ·simp only [List.map_cons, argVals, h1]
    rw [← evl_low hD (fun e => by rw [e] at hx; simp [dataOf] at hx) hV, hc]
   ·rcases List.mem_append.1 hr with hr | hr
    ·exact hD.lt (lent_alive hx r hr)
    ·exact h2 r hr
   ·exact Rd_mono (fun b hb => ⟨hb.imp id fun ⟨r, hr, q⟩ => ⟨r, hL r (List.mem_append_left _ hr), q⟩, rfl⟩) hrd
  simp only [datsOf] at hd
  split at hd
  ·rename_i hx
   split at hd
   ·exact nilcase hx rfl hd
   ·cases hd
  ·split at hd
   ·rename_i d hx
    split at hd
    ·rename_i ht; exact datcase hx ht hd
    ·cases hd
   ·cases hd
 | .mv t f :: ms, x :: xs, some d :: hs', rs, k, ds, lent, h, hs, hD, hV, hh, hk, hd => by
  simp only [HeldAt] at hh
  have hk' : ∀ j, k + 1 ≤ j → ks j = ksOf ms rs (k + 1) j := fun j hj => by rw [hk j (by omega)]; simp only [ksOf]
  have hk0 : ks k = [] := by rw [hk k (Nat.le_refl _)]; simp only [ksOf]; exact ksOf_lt (by omega)
  obtain ⟨h1, h2, h3, h4, hh⟩ := hh
  simp only [datsOf] at hd
  obtain ⟨r, hr, e⟩ := Option.map_eq_some_iff.1 hd
  simp only [Prod.mk.injEq] at e
  obtain ⟨rfl, rfl⟩ := e
  obtain ⟨cs, q1, q2, q3, q4⟩ := datsOf_sound (k := k + 1) h hs hD hV hh hk' hr
  obtain ⟨c, hv, hc⟩ := h.dat h3
  refine ⟨c :: cs, ?_, q2, q3, fun L hL => ⟨h1, h2, ?_, q4 L hL⟩⟩
  ·simp only [List.map_cons, argVals, q1]
   rw [← h4, hc]
  ·exact VRel_H h2 (VRel_trans (fun b hb => ⟨.inl hb, rfl⟩) (fun s b hb => ⟨by simpa [handβ, hk0] using hb, rfl⟩) hv)
 | .io t f fo sl pa :: ms, x :: xs, some d :: hs', rs, k, ds, lent, h, hs, hD, hV, hh, hk, hd => by
  cases rs with
  | nil => simp [HeldAt] at hh
  | cons o rs =>
  simp only [HeldAt] at hh
  have hk' : ∀ j, k + 1 ≤ j → ks j = ksOf ms rs (k + 1) j := fun j hj => by rw [hk j (by omega)]; simp only [ksOf]; rw [if_neg (by omega)]
  have hk0 : ks k = keyP o.p := by rw [hk k (Nat.le_refl _)]; simp only [ksOf, if_true]
  obtain ⟨⟨hnp, ⟨d0, hg, hdt, hfb, rfl, hval⟩, hne, hinb, hsv, hlt, hv0⟩, hh⟩ := hh
  simp only [datsOf] at hd
  obtain ⟨r, hr, e⟩ := Option.map_eq_some_iff.1 hd
  simp only [Prod.mk.injEq] at e
  obtain ⟨rfl, rfl⟩ := e
  obtain ⟨cs, q1, q2, q3, q4⟩ := datsOf_sound (k := k + 1) h hs hD hV hh hk' hr
  obtain ⟨cr, hvr, hVr⟩ := h.dat hsv
  have hl := VRel_len hvr
  have hV0 : V0 o.r = some (valOf o.e.t cr) := by rw [← hv0]; exact hVr
  have hgb : d0.f.base ≠ .gone := by
   rw [hfb]
   rw [nopin_base hnp.1] at hne; exact hne
  obtain ⟨L, c, w1, w2, w3⟩ := walk_get (L := .reg cr) hg hinb hgb (by simp [cellsAt, hl]) hvr
  have hev := hval cr L c hV0 hl w1 w2
  refine ⟨c :: cs, ?_, q2, ⟨⟨hlt, hnp.2, d0, cr, L, hg, hdt, hgb, hinb, hV0, hvr, w1, w2, VRel_pins w3⟩, q3⟩, fun L hL => ⟨hdt, hnp, ?_, q4 L hL⟩⟩
  ·simp only [List.map_cons, argVals, q1, hev]
  ·refine VRel_H (H := H) hnp.1 ?_
   rw [← hfb]
   exact VRel_pin_base (VRel_trans (fun b hb => ⟨.inl hb, rfl⟩) (fun s b hb => ⟨by simpa [handβ, hk0] using hb, rfl⟩) w3)
 | [], _ :: _, _, _, _, _, _, _, _, _, _, _, _, hd => by simp [datsOf] at hd
 | [], [], _ :: _, _, _, _, _, _, _, _, _, _, _, hd => by simp [datsOf] at hd
 | .ro _ :: _, [], _, _, _, _, _, _, _, _, _, _, _, hd => by simp [datsOf] at hd
 | .mv _ _ :: _, [], _, _, _, _, _, _, _, _, _, _, _, hd => by simp [datsOf] at hd
 | .io _ _ _ _ _ :: _, [], _, _, _, _, _, _, _, _, _, _, _, hd => by simp [datsOf] at hd
 | .ro _ :: _, _ :: _, [], _, _, _, _, _, _, _, _, _, _, hd => by simp [datsOf] at hd
 | .mv _ _ :: _, _ :: _, [], _, _, _, _, _, _, _, _, _, _, hd => by simp [datsOf] at hd
 | .io _ _ _ _ _ :: _, _ :: _, [], _, _, _, _, _, _, _, _, _, _, hd => by simp [datsOf] at hd
 | .ro _ :: _, _ :: _, some _ :: _, _, _, _, _, _, _, _, _, hh, _, _ => by simp [HeldAt] at hh
 | .mv _ _ :: _, _ :: _, none :: _, _, _, _, _, _, _, _, _, hh, _, _ => by simp [HeldAt] at hh
 | .io _ _ _ _ _ :: _, _ :: _, none :: _, _, _, _, _, _, _, _, _, hh, _, _ => by simp [HeldAt] at hh
end
end Go.Rf

end
section
namespace Go.Rf
set_option linter.unusedSectionVars false
variable [T : Laid]
section
variable {P : Program} {H : Nat → Option (List Value)} {N : Nat} {g g' G σ : View} {V V' V0 : Nat → Option Value} {w w' w2 : World} {S S' S2 : Nat → Prop} {β β' β2 : Key → Option Nat} {a : Act} {o : Oper}
variable {E : Env} {gv : View} {us : List Up}
def ioAt : List Mode → List Io → Nat → Nat → Option (Nat × Key)
 | .io _ _ _ _ _ :: ms, o :: rs, i, j => if j = o.r then some (i, keyP o.p) else ioAt ms rs (i + 1) j
 | .ro _ :: ms, rs, i, j => ioAt ms rs (i + 1) j
 | .mv _ _ :: ms, rs, i, j => ioAt ms rs (i + 1) j
 | _, _, _, _ => none
theorem ioAt_le : ∀ {ms : List Mode} {rs : List Io} {i j : Nat} {m : Nat × Key}, ioAt ms rs i j = some m → i ≤ m.1
 | .io _ _ _ _ _ :: ms, o :: rs, i, j, m, h => by
  simp only [ioAt] at h
  split at h
  ·simp only [Option.some.injEq] at h; subst h; exact Nat.le_refl _
  ·have := ioAt_le h; omega
 | .ro _ :: ms, rs, i, j, m, h => by simp only [ioAt] at h; have := ioAt_le h; omega
 | .mv _ _ :: ms, rs, i, j, m, h => by simp only [ioAt] at h; have := ioAt_le h; omega
 | [], _, _, _, _, h => by simp [ioAt] at h
 | .io _ _ _ _ _ :: _, [], _, _, _, h => by simp [ioAt] at h
theorem ioAt_inj : ∀ {ms : List Mode} {rs : List Io} {i j j' : Nat} {m m' : Nat × Key}, ioAt ms rs i j = some m → ioAt ms rs i j' = some m' → m.1 = m'.1 → j = j'
 | .io _ _ _ _ _ :: ms, o :: rs, i, j, j', m, m', h, h', e => by
  simp only [ioAt] at h h'
  split at h <;> split at h'
  ·rename_i e e'; rw [e, e']
  ·simp only [Option.some.injEq] at h; subst h; have := ioAt_le h'; simp only at e; omega
  ·simp only [Option.some.injEq] at h'; subst h'; have := ioAt_le h; simp only at e; omega
  ·exact ioAt_inj h h' e
 | .ro _ :: ms, rs, i, j, j', m, m', h, h', e => by simp only [ioAt] at h h'; exact ioAt_inj h h' e
 | .mv _ _ :: ms, rs, i, j, j', m, m', h, h', e => by simp only [ioAt] at h h'; exact ioAt_inj h h' e
 | [], _, _, _, _, _, _, h, _, _ => by simp [ioAt] at h
 | .io _ _ _ _ _ :: _, [], _, _, _, _, _, h, _, _ => by simp [ioAt] at h
theorem ioAt_mem : ∀ {ms : List Mode} {rs : List Io} {i j : Nat} {m : Nat × Key}, ioAt ms rs i j = some m → j ∈ rs.map Io.r
 | .io _ _ _ _ _ :: ms, o :: rs, i, j, m, h => by
  simp only [ioAt] at h
  split at h
  ·rename_i e; simp [e]
  ·simp only [List.map_cons, List.mem_cons]; exact .inr (ioAt_mem h)
 | .ro _ :: ms, rs, i, j, m, h => by simp only [ioAt] at h; exact ioAt_mem h
 | .mv _ _ :: ms, rs, i, j, m, h => by simp only [ioAt] at h; exact ioAt_mem h
 | [], _, _, _, _, h => by simp [ioAt] at h
 | .io _ _ _ _ _ :: _, [], _, _, _, h => by simp [ioAt] at h
theorem ioAt_ks : ∀ {ms : List Mode} {rs : List Io} {i j : Nat} {m : Nat × Key}, ioAt ms rs i j = some m → ksOf ms rs i m.1 = m.2
 | .io _ _ _ _ _ :: ms, o :: rs, i, j, m, h => by
  simp only [ioAt] at h
  simp only [ksOf]
  split at h
  ·simp only [Option.some.injEq] at h; subst h; simp
  ·have := ioAt_le h; rw [if_neg (by omega)]; exact ioAt_ks h
 | .ro _ :: ms, rs, i, j, m, h => by simp only [ioAt] at h; simp only [ksOf]; exact ioAt_ks h
 | .mv _ _ :: ms, rs, i, j, m, h => by simp only [ioAt] at h; simp only [ksOf]; exact ioAt_ks h
 | [], _, _, _, _, h => by simp [ioAt] at h
 | .io _ _ _ _ _ :: _, [], _, _, _, h => by simp [ioAt] at h
def chainNm : Nat → Key → Option Key
 | k, 0 :: s => some (2 * k :: s)
 | k, 1 :: s => chainNm (k + 1) s
 | _, _ => none
theorem chainNm_head : ∀ {s : Key} {k : Nat} {q : Key}, chainNm k s = some q → ∃ m t, q = 2 * m :: t ∧ k ≤ m
 | [], _, _, h => by simp [chainNm] at h
 | 0 :: s, k, q, h => by simp only [chainNm, Option.some.injEq] at h; exact ⟨k, s, h.symm, Nat.le_refl _⟩
 | 1 :: s, k, q, h => by
  simp only [chainNm] at h
  obtain ⟨m, t, e, hm⟩ := chainNm_head h
  exact ⟨m, t, e, by omega⟩
 | (_ + 2) :: _, _, _, h => by simp [chainNm] at h
theorem chainNm_inj : ∀ {s s' : Key} {k : Nat} {q : Key}, chainNm k s = some q → chainNm k s' = some q → s = s'
 | 0 :: s, 0 :: s', k, q, h, h' => by
  simp only [chainNm, Option.some.injEq] at h h'
  rw [← h'] at h; simp only [List.cons.injEq, true_and] at h; rw [h]
 | 1 :: s, 1 :: s', k, q, h, h' => by
  simp only [chainNm] at h h'
  rw [chainNm_inj h h']
 | 0 :: s, 1 :: s', k, q, h, h' => by
  simp only [chainNm, Option.some.injEq] at h h'
  obtain ⟨m, t, e, hm⟩ := chainNm_head h'
  rw [e] at h; simp only [List.cons.injEq] at h; omega
 | 1 :: s, 0 :: s', k, q, h, h' => by
  simp only [chainNm, Option.some.injEq] at h h'
  obtain ⟨m, t, e, hm⟩ := chainNm_head h
  rw [e] at h'; simp only [List.cons.injEq] at h'; omega
 | [], _, _, _, h, _ => by simp [chainNm] at h
 | (_ + 2) :: _, _, _, _, h, _ => by simp [chainNm] at h
 | _, [], _, _, _, h => by simp [chainNm] at h
 | _, (_ + 2) :: _, _, _, _, h => by simp [chainNm] at h
def nmOf (one : Bool) (dst : Option Nat) (io : Nat → Option (Nat × Key)) (j : Nat) (s : Key) : Option Key :=
 if dst = some j then (if one then some (0 :: s) else chainNm 0 s) else (io j).bind fun m => (strip m.2 s).map fun s => (2 * m.1 + 1) :: s
theorem nmOf_inj {one : Bool} {dst : Option Nat} {io : Nat → Option (Nat × Key)} (hio : ∀ j j' m m', io j = some m → io j' = some m' → m.1 = m'.1 → j = j') {j j' : Nat} {s s' q : Key}
  (h : nmOf one dst io j s = some q) (h' : nmOf one dst io j' s' = some q) : j = j' ∧ s = s' := by
 unfold nmOf at h h'
 have even : ∀ {s : Key}, (if one = true then some (0 :: s) else chainNm 0 s) = some q → ∃ m t, q = 2 * m :: t := fun {s} h => by
  split at h
  ·simp only [Option.some.injEq] at h; exact ⟨0, s, h.symm⟩
  ·obtain ⟨m, t, e, _⟩ := chainNm_head h; exact ⟨m, t, e⟩
 have odd : ∀ {j : Nat} {s : Key}, ((io j).bind fun m => (strip m.2 s).map fun s => (2 * m.1 + 1) :: s) = some q → ∃ m s2, io j = some m ∧ s = m.2 ++ s2 ∧ q = (2 * m.1 + 1) :: s2 := fun {j s} h => by
  obtain ⟨m, h1, h2⟩ := Option.bind_eq_some_iff.1 h
  obtain ⟨s2, h3, h4⟩ := Option.map_eq_some_iff.1 h2
  exact ⟨m, s2, h1, strip_some.1 h3, h4.symm⟩
 split at h <;> split at h'
 ·rename_i e e'
  rw [e] at e'
  refine ⟨by simpa using e', ?_⟩
  split at h
  ·simp only [Option.some.injEq] at h h'
   rw [if_pos (by assumption)] at h'
   simp only [Option.some.injEq] at h'
   rw [← h'] at h; simpa using h
  ·rw [if_neg (by assumption)] at h'
   exact chainNm_inj h h'
 ·obtain ⟨m, t, e⟩ := even h
  obtain ⟨i, s2, _, _, e'⟩ := odd h'
  rw [e] at e'; simp only [List.cons.injEq] at e'; omega
 ·obtain ⟨m, t, e⟩ := even h'
  obtain ⟨i, s2, _, _, e'⟩ := odd h
  rw [e] at e'; simp only [List.cons.injEq] at e'; omega
 ·obtain ⟨m, s2, h1, h2, e⟩ := odd h
  obtain ⟨m', s2', h1', h2', e'⟩ := odd h'
  rw [e] at e'
  simp only [List.cons.injEq] at e'
  have hj := hio _ _ _ _ h1 h1' (by omega)
  subst hj
  rw [h1] at h1'
  simp only [Option.some.injEq] at h1'
  subst h1'
  exact ⟨rfl, by rw [h2, h2', e'.2]⟩
def backβ (N : Nat) (one : Bool) (dst : Option Nat) (io : Nat → Option (Nat × Key)) (β β2 : Key → Option Nat) : Key → Option Nat
 | j :: s => if N ≤ j then none else
  match nmOf one dst io j s with
  | some q => β2 q
  | none => if dst = some j then none else match io j with
   | some m => β ((N + m.1) :: s)
   | none => β (j :: s)
 | [] => none
def Was (N : Nat) (io : Nat → Option (Nat × Key)) (j : Nat) (s κ : Key) : Prop := (io j = none ∧ κ = j :: s) ∨ ∃ m, io j = some m ∧ strip m.2 s = none ∧ κ = (N + m.1) :: s
theorem backβ_cases {one : Bool} {dst : Option Nat} {io : Nat → Option (Nat × Key)} {k : Key} {b : Nat} (h : backβ N one dst io β β2 k = some b) :
  ∃ j s, k = j :: s ∧ j < N ∧ ((∃ q, nmOf one dst io j s = some q ∧ β2 q = some b) ∨ ∃ κ, Was N io j s κ ∧ β κ = some b) := by
 cases k with
 | nil => simp [backβ] at h
 | cons j s =>
  simp only [backβ] at h
  split at h
  ·cases h
  ·rename_i hN
   refine ⟨j, s, rfl, by omega, ?_⟩
   split at h
   ·rename_i q hq; exact .inl ⟨q, hq, h⟩
   ·rename_i hq
    split at h
    ·cases h
    ·rename_i hd
     unfold nmOf at hq
     rw [if_neg hd] at hq
     split at h
     ·rename_i m hm
      rw [hm] at hq
      simp only [Option.bind_some, Option.map_eq_none_iff] at hq
      exact .inr ⟨_, .inr ⟨m, hm, hq, rfl⟩, h⟩
     ·rename_i hm
      exact .inr ⟨_, .inl ⟨hm, rfl⟩, h⟩
theorem back_sane {one : Bool} {dst : Option Nat} {io : Nat → Option (Nat × Key)} {ks : Nat → Key} {lent : List Nat} (hio : ∀ j j' m m', io j = some m → io j' = some m' → m.1 = m'.1 → j = j') (hks : ∀ j m, io j = some m → ks m.1 = m.2)
  (hs : Sane w S β) (h2 : Sane w2 S2 β2) (hst : Step w (lentS S β lent) (handβ N ks β) w2 S2 β2) {S' : Nat → Prop} (hS' : (S' = S2 ∧ lent = []) ∨ S' = S) :
  Sane w2 S' (backβ N one dst io β β2) ∧ Step w S β w2 S' (backβ N one dst io β β2) := by
 have hand : ∀ {k b}, handβ N ks β k = some b → ∃ i s, β ((N + i) :: (ks i ++ s)) = some b := fun {k b} h => by
  cases k with
  | nil => simp [handβ] at h
  | cons i s => exact ⟨i, s, h⟩
 have apartK : ∀ {j s κ b k}, j < N → Was N io j s κ → β κ = some b → handβ N ks β k = some b → False := fun {j s κ b k} hj hw hb hk => by
  obtain ⟨i, s', e⟩ := hand hk
  have := hs.inj _ _ _ hb e
  rcases hw with ⟨_, rfl⟩ | ⟨m, hm, hst, rfl⟩
  ·simp only [List.cons.injEq] at this; omega
  ·simp only [List.cons.injEq] at this
   have hi : i = m.1 := by omega
   subst hi
   rw [hks j m hm] at this
   exact strip_none hst _ this.2
 have far : ∀ {q b j s κ}, β2 q = some b → j < N → Was N io j s κ → β κ = some b → False := fun {q b j s κ} hq hj hw hb => by
  rcases hst.new q b hq with ⟨k', e⟩ | e
  ·exact apartK hj hw hb e
  ·have := hs.live _ _ hb; omega
 refine ⟨⟨fun k k' b hk hk' => ?_, fun k b hk hb => ?_, fun k b hk => ?_, fun b hb => ?_, hs.tabs fun b hb => ⟨hS'.elim (fun h => h.1 ▸ hst.keepS b (.inl hb)) (fun h => h ▸ hb), hst.old b (hs.liveS b hb) (fun k hk => by obtain ⟨i, s', e⟩ := hand hk; exact hs.sep _ _ e hb)⟩⟩, ⟨hst.size, fun b hb hk => ?_, fun k b hk => ?_, fun b hb => ?_, fun b hb => ?_, hst.out⟩⟩
 ·obtain ⟨j, s, rfl, hj, h⟩ := backβ_cases hk
  obtain ⟨j', s', rfl, hj', h'⟩ := backβ_cases hk'
  rcases h with ⟨q, n1, n2⟩ | ⟨κ, n0, n1⟩ <;> rcases h' with ⟨q', m1, m2⟩ | ⟨κ', m0, m1⟩
  ·have := h2.inj _ _ _ n2 m2
   subst this
   obtain ⟨e1, e2⟩ := nmOf_inj hio n1 m1
   rw [e1, e2]
  ·exact (far n2 hj' m0 m1).elim
  ·exact (far m2 hj n0 n1).elim
  ·have := hs.inj _ _ _ n1 m1
   rcases n0 with ⟨_, rfl⟩ | ⟨m, hm, _, rfl⟩ <;> rcases m0 with ⟨_, rfl⟩ | ⟨m', hm', _, rfl⟩
   ·exact this
   ·simp only [List.cons.injEq] at this; omega
   ·simp only [List.cons.injEq] at this; omega
   ·simp only [List.cons.injEq] at this
    rw [hio _ _ _ _ hm hm' (by omega), this.2]
 ·obtain ⟨j, s, rfl, hj, h⟩ := backβ_cases hk
  rcases h with ⟨q, n1, n2⟩ | ⟨κ, n0, n1⟩
  ·rcases hS' with ⟨rfl, _⟩ | rfl
   ·exact h2.sep _ _ n2 hb
   ·exact h2.sep _ _ n2 (hst.keepS b (.inl hb))
  ·rcases hS' with ⟨rfl, hl⟩ | rfl
   ·rcases hst.newS b hb with (h | ⟨r, hr, _⟩) | ⟨k', e⟩ | e
    ·exact hs.sep _ _ n1 h
    ·rw [hl] at hr; cases hr
    ·exact apartK hj n0 n1 e
    ·have := hs.live _ _ n1; omega
   ·exact hs.sep _ _ n1 hb
 ·obtain ⟨j, s, rfl, hj, h⟩ := backβ_cases hk
  rcases h with ⟨q, n1, n2⟩ | ⟨κ, n0, n1⟩
  ·exact h2.live _ _ n2
  ·exact Nat.lt_of_lt_of_le (hs.live _ _ n1) hst.size
 ·rcases hS' with ⟨rfl, _⟩ | rfl
  ·exact h2.liveS b hb
  ·exact Nat.lt_of_lt_of_le (hs.liveS b hb) hst.size
 ·exact hst.old b hb fun k hk' => by
   obtain ⟨i, s, e⟩ := hand hk'
   exact hk _ e
 ·obtain ⟨j, s, rfl, hj, h⟩ := backβ_cases hk
  rcases h with ⟨q, n1, n2⟩ | ⟨κ, n0, n1⟩
  ·rcases hst.new q b n2 with ⟨k', e⟩ | e
   ·obtain ⟨i, s', e⟩ := hand e
    exact .inl ⟨_, e⟩
   ·exact .inr e
  ·exact .inl ⟨_, n1⟩
 ·rcases hS' with ⟨rfl, _⟩ | rfl
  ·exact hst.keepS b (.inl hb)
  ·exact hb
 ·rcases hS' with ⟨rfl, hl⟩ | rfl
  ·rcases hst.newS b hb with (h | ⟨r, hr, _⟩) | ⟨k', e⟩ | e
   ·exact .inl h
   ·rw [hl] at hr; cases hr
   ·obtain ⟨i, s', e⟩ := hand e
    exact .inr (.inl ⟨_, e⟩)
   ·exact .inr (.inr e)
  ·exact .inl hb
theorem hand_sane {ks : Nat → Key} {lent : List Nat} (hs : Sane w S β) (hl : ∀ r ∈ lent, r < N) : Sane w (lentS S β lent) (handβ N ks β) := by
 refine ⟨fun k k' b h h' => ?_, fun k b h hb => ?_, fun k b h => ?_, fun b hb => ?_, hs.tabs fun b hb => ⟨.inl hb, rfl⟩⟩
 ·cases k with
  | nil => simp [handβ] at h
  | cons i s =>
   cases k' with
   | nil => simp [handβ] at h'
   | cons i' s' =>
    have := hs.inj _ _ _ h h'
    simp only [List.cons.injEq] at this ⊢
    have hi : i = i' := by omega
    subst hi
    exact ⟨rfl, List.append_cancel_left this.2⟩
 ·cases k with
  | nil => simp [handβ] at h
  | cons i s =>
   rcases hb with hb | ⟨r, hr, s', hb⟩
   ·exact hs.sep _ _ h hb
   ·have := hs.inj _ _ _ h hb
    simp only [List.cons.injEq] at this
    have := hl r hr; omega
 ·cases k with
  | nil => simp [handβ] at h
  | cons i s => exact hs.live _ _ h
 ·rcases hb with hb | ⟨r, hr, s', hb⟩
  ·exact hs.liveS b hb
  ·exact hs.live _ _ hb
end
end Go.Rf

end
section
namespace Go.Rf
set_option linter.unusedSectionVars false
variable [T : Laid]
section
variable {P : Program} {H : Nat → Option (List Value)} {N : Nat} {g g' G σ : View} {V V' V0 : Nat → Option Value} {w w' w2 : World} {S S' S2 : Nat → Prop} {β β' β2 : Key → Option Nat} {a : Act} {o : Oper}
variable {E : Env} {gv : View} {us : List Up}
theorem resVals_len : ∀ {n k : Nat} {t : Ty} {f : Fl} {x : t.D} {cs : List (List Value)}, ResAt S β w n k t f x cs → (resVals n t cs).length = n
 | 0, _, _, _, _, [], _ => by simp [resVals]
 | n + 1, k, .pair a b, f, x, c :: cs, h => by
  simp only [ResAt] at h
  simp only [resVals, List.length_cons, resVals_len h.2]
 | 0, _, _, _, _, _ :: _, h => by simp [ResAt] at h
 | _ + 1, _, .pair _ _, _, _, [], h => by simp [ResAt] at h
 | _ + 1, _, .int _, _, _, _, h | _ + 1, _, .bool, _, _, _, h | _ + 1, _, .str, _, _, _, h | _ + 1, _, .fn, _, _, _, h | _ + 1, _, .unit, _, _, _, h
 | _ + 1, _, .sl _, _, _, _, h | _ + 1, _, .ptr _, _, _, _, h | _ + 1, _, .arr _ _, _, _, _, h => by simp [ResAt] at h
theorem retVal_many {vs : List Value} (h : vs.length ≠ 1) : retVal vs = .tuple vs.toArray := by
 match vs, h with
 | [], _ => rfl
 | [v], h => exact absurd rfl h
 | _ :: _ :: _, _ => rfl
theorem chain_at : ∀ {n k : Nat} {t : Ty} {f : Fl} {x : t.D} {cs : List (List Value)} {key : Key}, f.nopin = true → ResAt S β2 w n k t f x cs →
  (∀ s b, (chainNm k s).bind β2 = some b → β' (key ++ s) = some b) →
  VRel S β' H w key (cutTy n t) (cutFl n f) (cutD n t x) cs.flatten ∧ tupL (cutTy n t) cs.flatten = resVals n t cs
 | 0, _, t, _, _, [], _, _, _, _ => by
  simp only [cutTy, cutFl, cutD, List.flatten_nil]
  exact ⟨VRel_sh.2 (by simp [Rd]), by simp [tupL, resVals]⟩
 | n + 1, k, .pair a b, f, x, c :: cs, key, hf, h, hb => by
  simp only [ResAt] at h
  obtain ⟨h1, h2⟩ := h
  have hl := VRel_len h1
  obtain ⟨q1, q2⟩ := chain_at (n := n) (k := k + 1) (key := key ++ [1]) (nopin_r hf) h2 (fun s b' hs => by
   rw [List.append_assoc]
   exact hb (1 :: s) b' (by simpa [chainNm] using hs))
  have ht : (c ++ cs.flatten).take a.size = c := by rw [← hl]; simp
  have hd : (c ++ cs.flatten).drop a.size = cs.flatten := by rw [← hl]; simp
  simp only [cutTy, cutFl, cutD, List.flatten_cons, tupL, resVals]
  refine ⟨VRel_mkpr.2 ⟨?_, ?_⟩, ?_⟩
  ·rw [ht]
   refine VRel_H (nopin_l hf) (VRel_trans (fun _ hb => ⟨hb, rfl⟩) (fun s b' hs => ⟨?_, rfl⟩) h1)
   rw [List.append_assoc]
   exact hb (0 :: s) b' (by simpa [chainNm] using hs)
  ·rw [hd]; exact q1
  ·rw [ht, hd, q2]
 | 0, _, _, _, _, _ :: _, _, _, h, _ => by simp [ResAt] at h
 | _ + 1, _, .pair _ _, _, _, [], _, _, h, _ => by simp [ResAt] at h
 | _ + 1, _, .int _, _, _, _, _, _, h, _ | _ + 1, _, .bool, _, _, _, _, _, h, _ | _ + 1, _, .str, _, _, _, _, _, h, _ | _ + 1, _, .fn, _, _, _, _, _, h, _ | _ + 1, _, .unit, _, _, _, _, _, h, _
 | _ + 1, _, .sl _, _, _, _, _, _, h, _ | _ + 1, _, .ptr _, _, _, _, _, _, h, _ | _ + 1, _, .arr _ _, _, _, _, _, _, h, _ => by simp [ResAt] at h
theorem ioAt_head {ms : List Mode} {t : Ty} {f fo : Fl} {sl : Nat} {pa : List PS} {o : Io} {rs : List Io} {i : Nat} : ioAt (.io t f fo sl pa :: ms) (o :: rs) i o.r = some (i, keyP o.p) := by simp [ioAt]
theorem nodups_cons {x : Nat} {l : List Nat} (h : nodups (x :: l) = true) : x ∉ l ∧ nodups l = true := by
 simp only [nodups, Bool.and_eq_true, Bool.not_eq_true'] at h
 refine ⟨fun hx => ?_, h.2⟩
 have : l.any (Nat.beq x ·) = true := List.any_eq_true.2 ⟨x, hx, by simp⟩
 rw [this] at h; cases h.1
theorem backs_sound {S1 : Nat → Prop} {β1 : Key → Option Nat} (hsame : ∀ b, S1 b → S' b ∧ w2.heap[b]? = w.heap[b]?) : ∀ {ms : List Mode} {rs : List Io} {cs : List (List Value)} {i : Nat} {t : Ty} {x : t.D} {us : List Up} {G : View},
  backs ms rs t x = some us → IoAt S2 β2 w2 ms cs i t x → BackAt H N S1 β1 w V0 ms cs rs i → nodups (rs.map Io.r) = true → (∀ r ∈ rs.map Io.r, V r = V0 r) →
  (∀ j m, ioAt ms rs i j = some m → (∀ s b, β2 ((2 * m.1 + 1) :: s) = some b → β' (j :: (m.2 ++ s)) = some b) ∧ ∀ s b, ¬ m.2 <+: s → β1 ((N + m.1) :: s) = some b → β' (j :: s) = some b ∧ w2.heap[b]? = w.heap[b]?) →
  ((∀ b, S2 b → S' b) ∨ closedIo ms = true) → Rel H N G V w2 S' β' → Rel H N (G.ups us) V w2 S' β'
 | [], [], [], i, t, x, us, G, hb, _, _, _, _, _, _, h => by
  simp only [backs, Option.some.injEq] at hb; subst hb; exact h
 | .ro _ :: ms, rs, _ :: cs, i, t, x, us, G, hb, hi, hk, hn, hG, hβ, hc, h => by
  simp only [backs] at hb; simp only [IoAt] at hi; simp only [BackAt] at hk; simp only [ioAt] at hβ; simp only [closedIo] at hc
  exact backs_sound hsame hb hi hk hn hG hβ hc h
 | .mv _ _ :: ms, rs, _ :: cs, i, t, x, us, G, hb, hi, hk, hn, hG, hβ, hc, h => by
  simp only [backs] at hb; simp only [IoAt] at hi; simp only [BackAt] at hk; simp only [ioAt] at hβ; simp only [closedIo] at hc
  exact backs_sound hsame hb hi hk hn hG hβ hc h
 | .io tm f fo sl pa :: ms, o :: rs, c :: cs, i, .pair ta tb, x, us, G, hb, hi, hk, hn, hG, hβ, hc, h => by
  simp only [backs] at hb; simp only [IoAt] at hi; simp only [BackAt] at hk; simp only [closedIo, Bool.and_eq_true] at hc
  obtain ⟨rfl, hv, hi⟩ := hi
  obtain ⟨⟨hrN, hfo, d0, cr, L, hg, hdt, hgb, hinb, hV0, hold, hw1, hw2, hpins⟩, hk⟩ := hk
  rw [hg] at hb
  simp only at hb
  split at hb
  ·rename_i y hm
   split at hb
   ·obtain ⟨us', hb', rfl⟩ := Option.map_eq_some_iff.1 hb
    simp only [List.map_cons] at hn hG
    obtain ⟨hr, hn⟩ := nodups_cons hn
    have hVr := hG o.r (by simp)
    obtain ⟨hβ1, hβ2⟩ := hβ o.r _ ioAt_head
    simp only at hβ1 hβ2
    have hvv : VRel S' β' H w2 ([o.r] ++ keyP o.p) ta (d0.f.wrap fo) x.1 c := by
     refine VRel_wrap hpins (VRel_H (H := noH) hfo ?_)
     have h1 : VRel S2 β' noH w2 ([o.r] ++ keyP o.p) ta fo x.1 c := VRel_trans (fun _ hb => ⟨hb, rfl⟩) (fun s b hb => ⟨by simpa using hβ1 s b (by simpa using hb), rfl⟩) hv
     rcases hc with hc | hc
     ·exact VRel_trans (fun b hb => ⟨hc b hb, rfl⟩) (fun s b hb => ⟨hb, rfl⟩) h1
     ·exact closed_VRel hc.1 h1
    have hnew : VRel S' β' H w2 [o.r] o.e.t y.1 y.2 cr :=
     VRel_replace hsame (k := [N + i]) hg hgb hinb (by have := VRel_len hold; simp [cellsAt, this]) hw1 hw2 hm hold hvv (fun s b hs hbb => by
      have := hβ2 s b hs (by simpa using hbb)
      simpa using this)
    have h2 : Rel H N (G.up (.put o.r (.dat ⟨o.e.t, y.2, y.1⟩))) V w2 S' β' :=
     h.put h.sane (fun b hb => ⟨hb, rfl⟩) (fun j s b _ _ hb => ⟨hb, rfl⟩) (fun _ _ => rfl) ⟨cr, hnew, by rw [hVr]; exact hV0⟩
    show Rel H N ((G.up (.put o.r (.dat ⟨o.e.t, y.2, y.1⟩))).ups us') V w2 S' β'
    refine backs_sound hsame (i := i + 1) hb' hi hk hn (fun r' hr' => hG r' (by simp [hr'])) (fun j m hj => ?_) (hc.imp id (·.2)) h2
    have hne : j ≠ o.r := fun e => hr (e ▸ ioAt_mem hj)
    exact hβ j m (by simp only [ioAt]; rw [if_neg hne]; exact hj)
   ·cases hb
  ·cases hb
 | [], [], _ :: _, _, _, _, _, _, _, hi, _, _, _, _, _, _ => by simp [IoAt] at hi
 | [], _ :: _, _, _, _, _, _, _, hb, _, _, _, _, _, _, _ => by simp [backs] at hb
 | .ro _ :: _, _, [], _, _, _, _, _, _, hi, _, _, _, _, _, _ => by simp [IoAt] at hi
 | .mv _ _ :: _, _, [], _, _, _, _, _, _, hi, _, _, _, _, _, _ => by simp [IoAt] at hi
 | .io _ _ _ _ _ :: _, _, [], _, _, _, _, _, _, hi, _, _, _, _, _, _ => by simp [IoAt] at hi
 | .io _ _ _ _ _ :: _, [], _ :: _, _, _, _, _, _, _, _, hk, _, _, _, _, _ => by simp [BackAt] at hk
 | .io _ _ _ _ _ :: _, _ :: _, _ :: _, _, .int _, _, _, _, _, hi, _, _, _, _, _, _ | .io _ _ _ _ _ :: _, _ :: _, _ :: _, _, .bool, _, _, _, _, hi, _, _, _, _, _, _ | .io _ _ _ _ _ :: _, _ :: _, _ :: _, _, .str, _, _, _, _, hi, _, _, _, _, _, _
 | .io _ _ _ _ _ :: _, _ :: _, _ :: _, _, .fn, _, _, _, _, hi, _, _, _, _, _, _ | .io _ _ _ _ _ :: _, _ :: _, _ :: _, _, .unit, _, _, _, _, hi, _, _, _, _, _, _ | .io _ _ _ _ _ :: _, _ :: _, _ :: _, _, .sl _, _, _, _, _, hi, _, _, _, _, _, _
 | .io _ _ _ _ _ :: _, _ :: _, _ :: _, _, .ptr _, _, _, _, _, hi, _, _, _, _, _, _ | .io _ _ _ _ _ :: _, _ :: _, _ :: _, _, .arr _ _, _, _, _, _, hi, _, _, _, _, _, _ => by simp [IoAt] at hi
theorem Rel.kills (h : Rel H N g V w S β) : ∀ {os : List Io}, Rel H N (g.ups (kills os)) V w S β := by
 intro os
 induction os generalizing g with
 | nil => exact h
 | cons o os ih => exact ih (h.kill fun _ _ => rfl)
theorem kills_lt {os : List Io} (h : ∀ o ∈ os, o.r < N) : ∀ u ∈ kills os, u.slot < N := by
 induction os with
 | nil => simp [Go.Rf.kills]
 | cons o os ih =>
  intro u hu
  simp only [Go.Rf.kills, List.mem_cons] at hu
  rcases hu with rfl | hu
  ·exact h o (by simp)
  ·exact ih (fun o ho => h o (by simp [ho])) u hu
theorem kills_dead : ∀ {os : List Io} {g : View}, ∀ r ∈ os.map Io.r, ((g.ups (kills os)) r).sv = .dead
 | [], _, r, h => by simp at h
 | o :: os, g, r, h => by
  simp only [Go.Rf.kills, View.ups]
  by_cases hr : r ∈ os.map Io.r
  ·exact kills_dead r hr
  ·have : r = o.r := by simp only [List.map_cons, List.mem_cons] at h; exact h.resolve_right hr
   subst this
   rw [ups_far]
   ·rw [show g.up (.put o.r .dead) o.r = _ from up_eq (u := .put o.r .dead)]; rfl
   ·intro u hu e
    have key : ∀ {os : List Io}, u ∈ Go.Rf.kills os → u.slot ∈ os.map Io.r := by
     intro os
     induction os with
     | nil => simp [Go.Rf.kills]
     | cons o' os ih =>
      intro hu
      simp only [Go.Rf.kills, List.mem_cons] at hu
      rcases hu with rfl | hu
      ·simp [Up.slot]
      ·simp only [List.map_cons, List.mem_cons]; exact .inr (ih hu)
    exact hr (e ▸ key hu)
theorem BackAt.lt : ∀ {ms : List Mode} {cs : List (List Value)} {rs : List Io} {k : Nat}, BackAt H N S β w V0 ms cs rs k → ∀ o ∈ rs, o.r < N
 | [], [], [], _, _ => by simp
 | .ro _ :: ms, _ :: cs, rs, k, h => by simp only [BackAt] at h; exact BackAt.lt h
 | .mv _ _ :: ms, _ :: cs, rs, k, h => by simp only [BackAt] at h; exact BackAt.lt h
 | .io _ _ _ _ _ :: ms, c :: cs, o :: rs, k, h => by
  simp only [BackAt] at h
  intro o' ho'
  rcases List.mem_cons.1 ho' with rfl | ho'
  ·exact h.1.lt
  ·exact BackAt.lt h.2 o' ho'
 | [], [], _ :: _, _, h | [], _ :: _, _, _, h | .ro _ :: _, [], _, _, h | .mv _ _ :: _, [], _, _, h | .io _ _ _ _ _ :: _, [], _, _, h | .io _ _ _ _ _ :: _, _ :: _, [], _, h => by simp [BackAt] at h
theorem exec_call {ρ : Operand → Value} {c : Call} {f : FuncId} (ho : o.op = .call c) (hcal : c.callee = .value (.func f)) (hρ : ρ (.func f) = .func (.func f) #[] #[]) :
  execOp ρ o = callFunc f (c.args.map ρ) := by
 unfold execOp
 simp [ho, resolve, hcal, Deferred.ofValue, invoke, hρ]
theorem wp_call {f : FuncId} {args : Array Value} {K : Act → World → Prop} {Q : Exit → Act → World → Prop} (he : execOp a.eval o = callFunc f args)
  (h : CallRes P f args w fun v w' => K (a.put o.dst v) w') : o.wp P a w K Q := by
 unfold Oper.wp
 rw [he]
 rcases h with ⟨fn, h1, h2, h3, h4⟩ | ⟨v, w', h1, h2⟩
 ·have hr : (callFunc f args).run P w = .ok (.enter f args) w := by
   have h2' : fn.name ≠ "runtime.NumGoroutine" := fun e => by rw [e] at h2; simp at h2
   have h3' : fn.body ≠ none := fun e => by rw [e] at h3; simp at h3
   simp only [callFunc, go_sem]
   simp [h1, h2', h3']
  rw [hr, Oper.upon_enter]
  exact h4.mono fun e w' he => by cases e <;> first | exact he | exact he.elim
 ·rw [h1, Oper.upon_value]; exact h2
theorem resSV_sound {n d : Nat} {t : Ty} {f : Fl} {x : t.D} {crs : List (List Value)} {rv : SV} {gg : View} (hr : resSV n (cutTy n t) (cutD n t x) (cutFl n f) = some rv) (h : ResAt S2 β2 w n 0 t f x crs) (hf : f.nopin = true)
  (hc : (∀ b, S2 b → S' b) ∨ closed (cutTy n t) (cutFl n f) = true) (hβ : ∀ s b, (if Nat.beq n 1 = true then some (0 :: s) else chainNm 0 s).bind β2 = some b → β' (d :: s) = some b) :
  SVRel H N gg (upd V d (retVal (resVals n t crs))) w S' β' d rv := by
 have many : n ≠ 1 → rv = .tup ⟨cutTy n t, cutD n t x, cutFl n f⟩ → SVRel H N gg (upd V d (retVal (resVals n t crs))) w S' β' d rv := by
  intro hn e
  have hn' : Nat.beq n 1 = false := by
   cases h : Nat.beq n 1 with
   | false => rfl
   | true => exact absurd (Nat.eq_of_beq_eq_true h) hn
  obtain ⟨q1, q2⟩ := chain_at (H := H) (key := [d]) hf h (fun s b hs => by simpa using hβ s b (by rw [hn']; exact hs))
  subst e
  refine ⟨crs.flatten, ?_, ?_⟩
  ·rcases hc with hc | hc
   ·exact VRel_trans (fun b hb => ⟨hc b hb, rfl⟩) (fun s b hb => ⟨hb, rfl⟩) q1
   ·exact closed_VRel hc q1
  ·rw [retVal_many (by rw [resVals_len h]; exact hn)]
   simp only [upd, if_true, tupOf, q2]
 match n, h, hr with
 | 0, h, hr =>
  refine many (by omega) ?_
  simp only [resSV, Option.some.injEq] at hr
  exact hr.symm
 | n + 2, h, hr =>
  refine many (by omega) ?_
  simp only [resSV, Option.some.injEq] at hr
  exact hr.symm
 | 1, h, hr =>
  cases t with
  | pair ta tb =>
   match crs, h with
   | [c], h =>
    simp only [ResAt] at h
    have hr : (some (.dat ⟨ta, x.1, (Fl.mkpr f.l .sh).l⟩) : Option SV) = some rv := hr
    rw [mkpr_l] at hr
    simp only [Option.some.injEq] at hr
    subst hr
    simp only [cutTy, cutFl, closed, mkpr_l, Bool.and_true] at hc
    have h1 : VRel S2 β' H w [d] ta f.l x.1 c := VRel_H (H := noH) (nopin_l hf) (VRel_trans (fun _ hb => ⟨hb, rfl⟩) (fun s b hb => ⟨by simpa using hβ s b (by simpa using hb), rfl⟩) h.1)
    refine ⟨c, ?_, by simp [upd, resVals, retVal]⟩
    rcases hc with hc | hc
    ·exact VRel_trans (fun b hb => ⟨hc b hb, rfl⟩) (fun s b hb => ⟨hb, rfl⟩) h1
    ·exact closed_VRel hc h1
   | [], h => simp [ResAt] at h
   | _ :: _ :: _, h => simp [ResAt] at h
  | _ => simp [ResAt] at h
theorem args_eval : ∀ {xs : List Operand} {vs : List Value}, xs.map (evl (vals a) ·) = vs.map some → xs.map a.eval = vs
 | [], [], _ => rfl
 | x :: xs, v :: vs, h => by
  simp only [List.map_cons, List.cons.injEq] at h ⊢
  exact ⟨evl_eval h.1, args_eval h.2⟩
 | [], _ :: _, h => by simp at h
 | _ :: _, [], h => by simp at h
theorem soften_put {d : Option Nat} {us : List Up} (r : Nat) (v : SV) : Up.soften d g us (.put r v) = .mod r v ∨ Up.soften d g us (.put r v) = .put r v := by
 by_cases h : (!hits d r && stays g us r) = true
 ·exact .inl (if_pos h)
 ·exact .inr (if_neg h)
theorem soften_slot {d : Option Nat} {us : List Up} {u : Up} : (Up.soften d g us u).slot = u.slot := by
 cases u with
 | put r v => rcases soften_put (d := d) (g := g) (us := us) r v with e | e <;> rw [e] <;> rfl
 | mod r v => rfl
 | pub r v => rfl
theorem soften_v {d : Option Nat} {us : List Up} {u : Up} : (Up.soften d g us u).v = u.v := by
 cases u with
 | put r v => rcases soften_put (d := d) (g := g) (us := us) r v with e | e <;> rw [e] <;> rfl
 | mod r v => rfl
 | pub r v => rfl
theorem soften_cu {d : Option Nat} {us : List Up} {u : Up} (a : Slot) : ((Up.soften d g us u).on a).c = (u.on a).c ∧ ((Up.soften d g us u).on a).u = (u.on a).u := by
 cases u with
 | put r v => rcases soften_put (d := d) (g := g) (us := us) r v with e | e <;> rw [e] <;> exact ⟨rfl, rfl⟩
 | mod r v => exact ⟨rfl, rfl⟩
 | pub r v => exact ⟨rfl, rfl⟩
theorem on_cu {u : Up} {a b : Slot} (h1 : a.c = b.c) (h2 : a.u = b.u) : (u.on a).c = (u.on b).c ∧ (u.on a).u = (u.on b).u := by
 cases u <;> simp [Up.on, h1, h2]
structure Alike (a b : Slot) : Prop where
 sv : a.sv = b.sv
 c : a.c = b.c
 u : a.u = b.u
theorem Up.on_sv (u : Up) (a : Slot) : (u.on a).sv = u.v := by cases u <;> rfl
theorem Up.on_c (u : Up) (a : Slot) : a.c ≤ (u.on a).c ∧ a.s ≤ (u.on a).s ∧ a.u ≤ (u.on a).u ∧ ((u.on a).c = a.c → (u.on a).s = a.s) := by
 cases u <;> simp [Up.on]
theorem up_at (u : Up) (r : Nat) : (g.up u) r = if r = u.slot then u.on (g r) else g r := by
 by_cases h : r = u.slot
 ·rw [if_pos h, h, up_eq]
 ·rw [if_neg h, up_ne h]
theorem ups_mono : ∀ (us : List Up) (g : View) (r : Nat), (g r).c ≤ ((g.ups us) r).c ∧ (g r).s ≤ ((g.ups us) r).s ∧ (((g.ups us) r).c = (g r).c → ((g.ups us) r).s = (g r).s)
 | [], g, r => ⟨Nat.le_refl _, Nat.le_refl _, fun _ => rfl⟩
 | u :: us, g, r => by
  obtain ⟨h1, h2, h3⟩ := ups_mono us (g.up u) r
  have hu := Up.on_c u (g r)
  have e := up_at (g := g) u r
  show (g r).c ≤ (((g.up u).ups us) r).c ∧ _
  by_cases h : r = u.slot
  ·rw [if_pos h] at e
   rw [e] at h1 h2 h3
   obtain ⟨u1, u2, u3, u4⟩ := hu
   refine ⟨by omega, show (g r).s ≤ (((g.up u).ups us) r).s by omega, fun hc => ?_⟩
   have hc : (((g.up u).ups us) r).c = (g r).c := hc
   have e3 := h3 (by omega)
   have e4 := u4 (by omega)
   show (((g.up u).ups us) r).s = _
   omega
  ·rw [if_neg h] at e
   rw [e] at h1 h2 h3
   exact ⟨h1, h2, h3⟩
theorem ups_refs : ∀ (us : List Up) (g : View) (r : Nat), us.all (fun u => !u.v.refs) = true → (((g.ups us) r).sv.refs = true → ((g.ups us) r).sv = (g r).sv)
 | [], g, r, _, _ => rfl
 | u :: us, g, r, ha, hr => by
  rw [List.all_cons, Bool.and_eq_true] at ha
  have hr' : (((g.up u).ups us) r).sv.refs = true := hr
  have := ups_refs us (g.up u) r ha.2 hr'
  show (((g.up u).ups us) r).sv = _
  rw [this]
  rw [this, up_at] at hr'
  rw [up_at]
  by_cases h : r = u.slot
  ·rw [if_pos h, Up.on_sv] at hr'
   rw [hr'] at ha
   exact absurd ha.1 (by decide)
  ·rw [if_neg h]
theorem soft_slot {d : Option Nat} {g0 : View} {us0 : List Up} (r : Nat) : ∀ (us : List Up) (a b : Slot) (g1 g2 : View), g1 r = a → g2 r = b → Alike a b →
    Alike ((g1.ups (us.map (Up.soften d g0 us0))) r) ((g2.ups us) r) ∧
    (((!hits d r && stays g0 us0 r) = true ∧ ((g1.ups (us.map (Up.soften d g0 us0))) r).s = a.s) ∨
     ((!hits d r && stays g0 us0 r) = false ∧ (a = b → (g1.ups (us.map (Up.soften d g0 us0))) r = (g2.ups us) r)))
  | [], a, b, g1, g2, h1, h2, hab => by
    subst h1 h2
    refine ⟨hab, ?_⟩
    cases hc : (!hits d r && stays g0 us0 r) with
    | true => exact .inl ⟨rfl, rfl⟩
    | false => exact .inr ⟨rfl, fun h => h⟩
  | u :: us, a, b, g1, g2, h1, h2, hab => by
    by_cases hr : r = u.slot
    · have e1 : (g1.up (Up.soften d g0 us0 u)) r = (Up.soften d g0 us0 u).on a := by rw [up_at, soften_slot, if_pos hr, h1]
      have e2 : (g2.up u) r = u.on b := by rw [up_at, if_pos hr, h2]
      have hal : Alike ((Up.soften d g0 us0 u).on a) (u.on b) := by
        have k1 := soften_cu (d := d) (g := g0) (us := us0) (u := u) a
        have k2 := on_cu (u := u) hab.c hab.u
        exact ⟨by rw [Up.on_sv, Up.on_sv, soften_v], k1.1.trans k2.1, k1.2.trans k2.2⟩
      obtain ⟨q1, q2⟩ := soft_slot r us _ _ _ _ e1 e2 hal
      refine ⟨q1, ?_⟩
      rcases q2 with ⟨hc, q2⟩ | ⟨hc, q2⟩
      · refine .inl ⟨hc, ?_⟩
        show ((((g1.up (Up.soften d g0 us0 u)).ups (us.map (Up.soften d g0 us0)))) r).s = _
        rw [q2]
        cases u with
        | put s v =>
          have hs : r = s := hr
          subst hs
          have e : Up.soften d g0 us0 (.put r v) = .mod r v := if_pos hc
          rw [e]; rfl
        | mod s v => simp only [Up.soften, Up.on]
        | pub s v => simp only [Up.soften, Up.on]
      · refine .inr ⟨hc, fun hab => ?_⟩
        subst hab
        refine q2 ?_
        cases u with
        | put s v =>
          have hs : r = s := hr
          subst hs
          have e : Up.soften d g0 us0 (.put r v) = .put r v := if_neg (fun h => absurd (h.symm.trans hc) (by decide))
          rw [e]
        | mod s v => rfl
        | pub s v => rfl
    · have e1 : (g1.up (Up.soften d g0 us0 u)) r = a := by rw [up_at, soften_slot, if_neg hr, h1]
      have e2 : (g2.up u) r = b := by rw [up_at, if_neg hr, h2]
      exact soft_slot r us _ _ _ _ e1 e2 hab
theorem put_bump {d : Nat} : ∀ (us : List Up) (g : View), us.any (isPut d) = true → (g d).s < ((g.ups us) d).s
 | [], _, h => by cases h
 | u :: us, g, h => by
  rw [List.any_cons, Bool.or_eq_true] at h
  show _ < (((g.up u).ups us) d).s
  by_cases hu : isPut d u = true
  ·have hm := (ups_mono us (g.up u) d).2.1
   cases u with
   | put r v =>
    have hr : d = r := Nat.eq_of_beq_eq_true hu
    subst hr
    rw [up_at, if_pos (show d = Up.slot (.put d v) from rfl)] at hm
    have : (Up.on (.put d v) (g d)).s = (g d).s + 1 := rfl
    omega
   | mod r v => cases hu
   | pub r v => cases hu
  ·have := put_bump us (g.up u) (h.resolve_left hu)
   have h2 : (g d).s ≤ ((g.up u) d).s := (ups_mono [u] g d).2.1
   omega
theorem put_norefs {d : Nat} : ∀ (us : List Up) (g : View), us.all (fun u => !u.v.refs) = true → us.any (isPut d) = true → ((g.ups us) d).sv.refs = false
 | [], _, _, h => by cases h
 | u :: us, g, h1, h2 => by
  rw [List.all_cons, Bool.and_eq_true] at h1
  by_cases h3 : us.any (isPut d) = true
  ·exact put_norefs us _ h1.2 h3
  ·rw [List.any_cons, Bool.or_eq_true] at h2
   have h4 := h2.resolve_right h3
   cases hq : (((g.up u).ups us) d).sv.refs with
   | false => exact hq
   | true =>
    have h5 := ups_refs us (g.up u) d h1.2 hq
    rw [h5, up_at] at hq
    have h6 : d = u.slot := by
     cases u with
     | put r v => exact Nat.eq_of_beq_eq_true h4
     | mod r v => cases h4
     | pub r v => cases h4
    rw [if_pos h6, Up.on_sv] at hq
    rw [hq] at h1
    exact absurd h1.1 (by decide)
theorem boxed_in {t : Ty} {x y : t.D} {p : List PS} (h : boxed p = true) (hi : inB p t x) : inB p t y := by
 cases p with
 | nil => simp [inB]
 | cons s p =>
  cases s <;> simp only [boxed, Bool.false_eq_true, Bool.not_eq_true'] at h
  cases t <;> first | (simp only [inB] at hi ⊢; exact inB_flat h hi) | (simp [inB] at hi)
theorem Rel.softs {d : Option Nat} {us : List Up} (hb : Rel H N g V w S β) (hs : Sub gv g) (ha : Rel H N (g.ups us) V' w' S' β') (hV : ∀ r, d ≠ some r → V' r = V r) : Rel H N (g.ups (Go.Rf.softs d gv us)) V' w' S' β' := by
 unfold Go.Rf.softs
 split
 ·rename_i hcond
  rw [Bool.and_eq_true] at hcond
  obtain ⟨hrefs, hput⟩ := hcond
  have key := fun r => soft_slot (d := d) (g0 := gv) (us0 := us) r us (g r) (g r) g g rfl rfl ⟨rfl, rfl, rfl⟩
  have mono := ups_mono us g
  refine ⟨ha.sane, fun j => ?_⟩
  have hold := ha.slots j
  have hbef := hb.slots j
  have hal := (key j).1
  rw [hal.sv]
  have hsv := ups_refs us g j hrefs
  have hjd : ((g.ups us) j).sv.refs = true → d ≠ some j := fun h e => by
   subst e
   rw [put_norefs us g hrefs hput] at h
   cases h
  have hrd : ∀ r s, s ≤ (g r).s → ((g.ups (us.map (Up.soften d gv us))) r).s = s → (g r).s = s ∧ d ≠ some r := fun r s h1 h2 => by
   rcases (key r).2 with ⟨hc, q⟩ | ⟨hc, q⟩
   ·refine ⟨by omega, fun e => ?_⟩
    subst e
    simp [hits] at hc
   ·have := q rfl
    rw [this] at h2
    have := (mono r).2.1
    refine ⟨by omega, fun e => ?_⟩
    subst e
    have := put_bump us g hput
    omega
  generalize hx : ((g.ups us) j).sv = x at hold hsv
  cases x with
  | dead => exact hold
  | nils => exact hold
  | und => exact hold
  | unk => exact hold
  | dat d => exact hold
  | tup d => exact hold
  | adr r p c s =>
   rw [← hsv rfl] at hbef
   obtain ⟨a1, a2, a3, a4⟩ := hold
   obtain ⟨b1, b2, b3, b4⟩ := hbef
   refine ⟨a1, by rw [(key r).1.c]; exact a2, ?_, fun hok => ?_⟩
   ·rcases (key r).2 with ⟨hc, q⟩ | ⟨hc, q⟩
    ·omega
    ·rw [q rfl]; exact a3
   ·obtain ⟨h1, h2⟩ := okB_iff.1 hok
    obtain ⟨h3, hd⟩ := hrd r s b3 h1
    rcases (key r).2 with ⟨hc, q⟩ | ⟨hc, q⟩
    ·rw [(key r).1.c] at h2
     have hbx : boxed p = true ∨ (g r).c = c := h2.imp id fun e => by have := (mono r).1; omega
     by_cases hcc : ((g.ups us) r).c = (g r).c
     ·
      have hse := (mono r).2.2 hcc
      have := a4 (okB_iff.2 ⟨by omega, h2⟩)
      intro dr hdr
      rw [(key r).1.sv] at hdr
      exact this dr hdr
     ·have hbx : boxed p = true := by
       rcases h2 with h2 | h2
       ·exact h2
       ·have := (mono r).1; omega
      have hA := b4 (okB_iff.2 ⟨h3, .inl hbx⟩)
      intro dr hdr
      rw [(key r).1.sv] at hdr
      rw [Bool.and_eq_true] at hc
      have hst := hc.2
      unfold stays at hst
      have hgr : ∀ d0, (gv r).sv = .dat d0 → (g r).sv = .dat d0 := fun d0 h => by
       rcases hs r with h' | h'
       ·rw [h'] at h; cases h
       ·rw [h']; exact h
      have hgu : ∀ d0, ((gv.ups us) r).sv = .dat d0 → (gv r).sv ≠ .dead → ((g.ups us) r).sv = .dat d0 := fun d0 h hn => by
       have : ∀ (us : List Up) (g1 g2 : View), g1 r = g2 r → (g1.ups us) r = (g2.ups us) r := fun us => by
        induction us with
        | nil => exact fun _ _ h => h
        | cons u us ih => exact fun g1 g2 h => ih _ _ (by rw [up_at, up_at, h])
       rcases hs r with h' | h'
       ·exact absurd h' hn
       ·rw [this us g gv h']; exact h
      split at hst
      ·rename_i da db e1 e2
       have ht : da.t = db.t := of_decide_eq_true hst
       have e3 := hgu db e2 (by rw [e1]; simp)
       rw [e3] at hdr
       obtain rfl := SV.dat.inj hdr
       obtain ⟨cr, t, b, o, v1, v2, v3, v4, v5, v6⟩ := hA da (hgr da e1)
       refine ⟨cr, t, b, o, ?_, ?_, ?_, ?_, ?_, fun h => ?_⟩
       ·rw [hV r hd, ← ht]; exact v1
       ·rw [← ht]; exact v2
       ·rw [← ht, walk_boxed (w' := w) hbx]; exact v3
       ·have hj : d ≠ some j := hjd (by rw [hx]; rfl)
        rw [hV j hj]; exact v4
       ·have hcast : ∀ (t t' : Ty) (h : t = t') (x : t.D) (y : t'.D), inB p t x → inB p t' y := fun t t' h x y hi => by
         subst h; exact boxed_in hbx hi
        exact hcast _ _ ht _ _ v5
       ·rw [hbx] at h; cases h
      ·cases hst
    ·have e := q rfl
     have := a4 (okB_iff.2 ⟨by rw [← h1, e], by rw [← e]; exact h2⟩)
     intro dr hdr
     rw [(key r).1.sv] at hdr
     exact this dr hdr
  | als r p c s =>
   rw [← hsv rfl] at hbef
   obtain ⟨a1, a2, a3, a4⟩ := hold
   obtain ⟨b1, b2, b3, b4⟩ := hbef
   refine ⟨a1, by rw [(key r).1.c]; exact a2, ?_, fun hok => ?_⟩
   ·rcases (key r).2 with ⟨hc, q⟩ | ⟨hc, q⟩
    ·omega
    ·rw [q rfl]; exact a3
   ·obtain ⟨h2, h1⟩ := okA_iff.1 hok
    obtain ⟨h3, hd⟩ := hrd r s b3 h1
    rw [(key r).1.c] at h2
    have hse := (mono r).2.2 (by have := (mono r).1; omega)
    have := a4 (okA_iff.2 ⟨h2, by omega⟩)
    intro dr hdr
    rw [(key r).1.sv] at hdr
    exact this dr hdr
  | pend r p c s u d' =>
   rw [← hsv rfl] at hbef
   obtain ⟨a1, a2, a3, a5, a4⟩ := hold
   obtain ⟨b1, b2, b3, b5, b4⟩ := hbef
   refine ⟨a1, by rw [(key r).1.c]; exact a2, ?_, by rw [(key r).1.u]; exact a5, fun hok => ?_⟩
   ·rcases (key r).2 with ⟨hc, q⟩ | ⟨hc, q⟩
    ·omega
    ·rw [q rfl]; exact a3
   ·obtain ⟨⟨h2, h1⟩, h6⟩ := okU_iff.1 hok
    obtain ⟨h3, hd⟩ := hrd r s b3 h1
    rw [(key r).1.c] at h2
    rw [(key r).1.u] at h6
    have hse := (mono r).2.2 (by have := (mono r).1; omega)
    have := a4 (okU_iff.2 ⟨⟨h2, by omega⟩, h6⟩)
    intro dr hdr
    rw [(key r).1.sv] at hdr
    exact this dr hdr
  | clo h rs =>
   rw [← hsv rfl] at hbef
   obtain ⟨a1, a2⟩ := hold
   obtain ⟨b1, b2⟩ := hbef
   refine ⟨fun x hx => ⟨(a1 x hx).1, ?_⟩, fun hall => ?_⟩
   ·have := (b1 x hx).2
    rcases (key x.1).2 with ⟨hc, q⟩ | ⟨hc, q⟩
    ·omega
    ·rw [q rfl]; exact (a1 x hx).2
   ·have hh := fun x hx => hrd x.1 x.2 (b1 x hx).2 (hall x hx)
    intro vs hvs
    have hm : rs.map (fun x => V' x.1) = rs.map (fun x => V x.1) := List.map_congr_left fun x hx => hV _ (hh x hx).2
    rw [hV j (hjd (by rw [hx]; rfl))]
    exact b2 (fun x hx => (hh x hx).1) vs (by rw [← hm]; exact hvs)
 ·exact ha
theorem callK0_sound {R : Run E} {c : Call} {f : FuncId} (hR : RunOK E R) (hc : Ctx E.P H S β a w o g) (hs : Sub gv g) (hm : o.op = .call c) (hcal : c.callee = .value (.func f))
  (hk : callK0 E R gv o f c.args.toList some = some us) (K : Act → World → Prop) (Q : Exit → Act → World → Prop)
  (hK : ∀ a' w' S' β', a'.tmps.size = a.tmps.size → a'.defers = a.defers → (∀ r, o.dst ≠ some r → vals a' r = vals a r) → Rel H a.tmps.size (g.ups us) (vals a') w' S' β' → Step w S β w' S' β' → K a' w') : o.wp E.P a w K Q := by
 unfold callK0 at hk
 split at hk
 ·rename_i p hp
  split at hk
  ·rename_i ds lent hd
   split at hk
   ·rename_i hcond
    obtain ⟨x, hx, hk⟩ := Option.bind_eq_some_iff.1 hk
    simp only [Bool.and_eq_true, Bool.or_eq_true, Bool.not_eq_true', List.isEmpty_iff] at hcond
    obtain ⟨⟨hsh, hrf⟩, hnd⟩ := hcond
    have hgv : DeadFrom a.tmps.size gv := fun i hi => by
     rcases hs i with h | h
     ·exact h
     ·rw [← h]; exact hc.dead i hi
    obtain ⟨G', V', S1, β1, r1, r2, r3, r4, r5, r6, r7, r8, r9⟩ := prepAll_sound (V0 := vals a) (k := 0) hc.rel hs hgv (fun i hi => hc.dead i (by omega)) (fun _ _ => rfl) hp
    have hks : ∀ j, 0 ≤ j → ksOf (E.cfg f).modes p.ios 0 j = ksOf (E.cfg f).modes p.ios 0 j := fun _ _ => rfl
    obtain ⟨cs, q1, q2, q3, q4⟩ := datsOf_sound (ks := ksOf (E.cfg f).modes p.ios 0) r1 r3 r4 (fun i hi => r6 i (by omega)) r8 hks hd
    have q4 := q4 lent (fun _ h => h)
    split at hk
    ·rename_i rv usb hrv hbk
     have hargs : (argVals ds cs).toArray = c.args.map a.eval := by
      have := args_eval q1
      apply Array.toList_inj.1
      rw [← this]; simp
     refine wp_call (exec_call hm hcal rfl) ?_
     rw [← hargs]
     refine (hR f ds x hx w _ _ cs (hand_sane r1.sane q2) q4).mono fun v w2 ⟨S2, β2, crs, s1, s2, s3, s4, s5⟩ => ?_
     obtain ⟨S'', hS1, hS2⟩ : ∃ S'' : Nat → Prop, ((S'' = S2 ∧ lent = []) ∨ S'' = S1) ∧ ((∀ b, S2 b → S'' b) ∨ (closed (cutTy (E.cfg f).nres (E.cfg f).rt) (cutFl (E.cfg f).nres (E.cfg f).rf) = true ∧ closedIo (E.cfg f).modes = true)) := by
      rcases hsh with h | h
      ·refine ⟨S1, .inr rfl, .inr ?_⟩
       simpa [shares] using h
      ·exact ⟨S2, .inl ⟨rfl, h⟩, .inl fun _ h => h⟩
     have hio : ∀ j j' m m', ioAt (E.cfg f).modes p.ios 0 j = some m → ioAt (E.cfg f).modes p.ios 0 j' = some m' → m.1 = m'.1 → j = j' := fun _ _ _ _ => ioAt_inj
     have hioks : ∀ j m, ioAt (E.cfg f).modes p.ios 0 j = some m → ksOf (E.cfg f).modes p.ios 0 m.1 = m.2 := fun _ _ => ioAt_ks
     obtain ⟨sane2, step2⟩ := back_sane (N := a.tmps.size) (one := Nat.beq (E.cfg f).nres 1) (dst := o.dst) hio hioks r1.sane s1 s2 hS1
     have stepA := r2.trans step2
     have hsame := s2.same (hand_sane r1.sane q2)
     have hSame : ∀ b, S1 b → S'' b ∧ w2.heap[b]? = w.heap[b]? := fun b hb => ⟨step2.keepS b hb, (hsame b (.inl hb)).2⟩
     have hkl := kills_lt (N := a.tmps.size) q3.lt
     have hdead : DeadFrom a.tmps.size ((g.ups p.ups).ups (kills p.ios)) := (hc.dead.ups r9).ups hkl
     have rel1 : Rel H a.tmps.size ((g.ups p.ups).ups (kills p.ios)) (vals a) w S1 β1 :=
      (r1.fin (g' := g.ups p.ups) (V' := vals a) (fun i hi => (r5 i hi).symm) (hc.dead.ups r9) (fun i hi => (r6 i (by omega)).symm)).kills
     have hfar : ∀ j s κ b, j < a.tmps.size → Was a.tmps.size (ioAt (E.cfg f).modes p.ios 0) j s κ → β1 κ = some b → w2.heap[b]? = w.heap[b]? := fun j s κ b hj hw hb => s2.old b (r1.sane.live _ _ hb) fun k hk => by
      cases k with
      | nil => simp [handβ] at hk
      | cons i s' =>
       have := r1.sane.inj _ _ _ hb hk
       rcases hw with ⟨_, rfl⟩ | ⟨m, hm', hst, rfl⟩
       ·simp only [List.cons.injEq] at this; omega
       ·simp only [List.cons.injEq] at this
        have hi : i = m.1 := by omega
        subst hi
        rw [hioks j m hm'] at this
        exact strip_none hst _ this.2
     have hβ : ∀ j s b, o.dst ≠ some j → (((g.ups p.ups).ups (kills p.ios)) j).sv ≠ .dead → β1 (j :: s) = some b → backβ a.tmps.size (Nat.beq (E.cfg f).nres 1) o.dst (ioAt (E.cfg f).modes p.ios 0) β1 β2 (j :: s) = some b ∧ w2.heap[b]? = w.heap[b]? := by
      intro j s b hj ha hb
      have hjN := hdead.lt ha
      have hio0 : ioAt (E.cfg f).modes p.ios 0 j = none := by
       cases hq : ioAt (E.cfg f).modes p.ios 0 j with
       | none => rfl
       | some m => exact absurd (kills_dead j (ioAt_mem hq)) ha
      refine ⟨?_, hfar j s _ b hjN (.inl ⟨hio0, rfl⟩) hb⟩
      simp only [backβ]
      rw [if_neg (by omega)]
      unfold nmOf
      rw [if_neg hj, hio0]
      simp only [Option.bind_none]
      rw [if_neg hj]; exact hb
     have hβio : ∀ j m, o.dst ≠ some j → ioAt (E.cfg f).modes p.ios 0 j = some m → (∀ s b, β2 ((2 * m.1 + 1) :: s) = some b → backβ a.tmps.size (Nat.beq (E.cfg f).nres 1) o.dst (ioAt (E.cfg f).modes p.ios 0) β1 β2 (j :: (m.2 ++ s)) = some b) ∧
       ∀ s b, ¬ m.2 <+: s → β1 ((a.tmps.size + m.1) :: s) = some b → backβ a.tmps.size (Nat.beq (E.cfg f).nres 1) o.dst (ioAt (E.cfg f).modes p.ios 0) β1 β2 (j :: s) = some b ∧ w2.heap[b]? = w.heap[b]? := by
      intro j m hj hm'
      have hjN : j < a.tmps.size := by
       obtain ⟨o', ho', e⟩ := List.mem_map.1 (ioAt_mem hm')
       rw [← e]; exact q3.lt o' ho'
      refine ⟨fun s b hb => ?_, fun s b hs hb => ?_⟩
      ·simp only [backβ]
       rw [if_neg (Nat.not_le.2 hjN)]
       unfold nmOf
       rw [if_neg hj, hm']
       simp only [Option.bind_some, strip_app, Option.map_some]
       exact hb
      ·have hst : strip m.2 s = none := by
        cases hq : strip m.2 s with
        | none => rfl
        | some s' => exact absurd ⟨s', (strip_some.1 hq).symm⟩ hs
       refine ⟨?_, hfar j s _ b hjN (.inr ⟨m, hm', hst, rfl⟩) hb⟩
       simp only [backβ]
       rw [if_neg (Nat.not_le.2 hjN)]
       unfold nmOf
       rw [if_neg hj, hm']
       simp only [Option.bind_some, hst, Option.map_none]
       rw [if_neg hj]; exact hb
     have hcl : (∀ b, S2 b → S'' b) ∨ closedIo (E.cfg f).modes = true := hS2.imp id (·.2)
     split at hk
     ·rename_i d hdst
      split at hk
      ·cases hk
      ·rename_i hany
       simp only [Option.some.injEq] at hk
       subst hk
       have hdN := opIn_dst hc.opIn hdst
       have hne : ∀ r ∈ p.ios.map Io.r, r ≠ d := fun r hr e => hany (by
        subst e
        obtain ⟨y, hy, e⟩ := List.mem_map.1 hr
        exact List.any_eq_true.2 ⟨y, hy, by rw [e]; exact Nat.beq_refl r⟩)
       refine hK _ _ _ _ put_size put_defers (fun r hr => by rw [hdst, vals_put hdN]; rw [hdst] at hr; unfold upd; rw [if_neg (fun e => hr (by rw [e]))]) ?_ stepA
       rw [hdst, vals_put hdN, ups_append, ups_append]
       show Rel H a.tmps.size ((((g.ups p.ups).ups (kills p.ios)).up (.put d rv)).ups usb) _ w2 S'' _
       have hβd : ∀ s b, (if Nat.beq (E.cfg f).nres 1 = true then some (0 :: s) else chainNm 0 s).bind β2 = some b → backβ a.tmps.size (Nat.beq (E.cfg f).nres 1) o.dst (ioAt (E.cfg f).modes p.ios 0) β1 β2 (d :: s) = some b := fun s b hb => by
        simp only [backβ]
        rw [if_neg (by omega)]
        unfold nmOf
        rw [if_pos hdst]
        obtain ⟨q, hq, hb⟩ := Option.bind_eq_some_iff.1 hb
        rw [hq]; exact hb
       have rel2 : Rel H a.tmps.size (((g.ups p.ups).ups (kills p.ios)).up (.put d rv)) (upd (vals a) d v) w2 S'' _ :=
        rel1.put sane2 hSame (fun j s b hj => hβ j s b (fun e => hj (by rw [hdst] at e; exact (Option.some.inj e).symm))) (fun j hj => by simp [upd, hj]) (by
         rw [s4]; exact resSV_sound hrv s3 hrf (hS2.imp id (·.1)) hβd)
       rw [hdst] at rel2 hβio
       refine backs_sound (i := 0) (V0 := vals a) hSame hbk s5 q3 hnd (fun r hr => ?_) (fun j m hj => hβio j m (fun e => ?_) hj) hcl rel2
       ·simp [upd, hne r hr]
       ·exact hne j (ioAt_mem hj) (Option.some.inj e).symm
     ·rename_i hdst
      simp only [Option.some.injEq] at hk
      subst hk
      refine hK _ _ _ _ put_size put_defers (fun r _ => by rw [hdst]; rfl) ?_ stepA
      rw [hdst, ups_append, ups_append]
      show Rel H a.tmps.size (((g.ups p.ups).ups (kills p.ios)).ups usb) (vals a) w2 S'' _
      have rel2 : Rel H a.tmps.size (((g.ups p.ups).ups (kills p.ios)).up (.put a.tmps.size .dead)) (vals a) w2 S'' _ :=
       rel1.put sane2 hSame (fun j s b _ => hβ j s b (by rw [hdst]; simp)) (fun _ _ => rfl) trivial
      have rel3 : Rel H a.tmps.size ((g.ups p.ups).ups (kills p.ios)) (vals a) w2 S'' _ := rel2.fin (fun i hi => (put_at (by omega)).symm) hdead (fun _ _ => rfl)
      rw [hdst] at rel3 hβio
      exact backs_sound (i := 0) (V0 := vals a) hSame hbk s5 q3 hnd (fun r hr => rfl) (fun j m hj => hβio j m (by simp) hj) hcl rel3
    ·cases hk
   ·cases hk
  ·cases hk
 ·cases hk
theorem callK_sound {R : Run E} {c : Call} {f : FuncId} (hR : RunOK E R) (hc : Ctx E.P H S β a w o g) (hs : Sub gv g) (hm : o.op = .call c) (hcal : c.callee = .value (.func f))
  (hk : callK E R gv o f c.args.toList some = some us) : OpSound E.P H S β a w o (g.ups us) := by
 unfold callK at hk
 rw [callK0_bind] at hk
 obtain ⟨us0, h0, h1⟩ := Option.bind_eq_some_iff.1 hk
 obtain rfl := Option.some.inj h1
 intro K Q hK
 exact callK0_sound hR hc hs hm hcal h0 K Q fun a' w' S' β' e1 e2 e3 e4 e5 => hK a' w' S' β' e1 e2 (hc.rel.softs hs e4 e3) e5
end
end Go.Rf

end
section
namespace Go.Rf
set_option linter.unusedSectionVars false
variable [T : Laid]
section
variable {P : Program} {H : Nat → Option (List Value)} {N : Nat} {g g' G σ : View} {V V' V0 : Nat → Option Value} {w w' w2 : World} {S S' S2 : Nat → Prop} {β β' β2 : Key → Option Nat} {a : Act} {o : Oper}
variable {E : Env} {gv : View} {us : List Up}
def RdAll (S : Nat → Prop) (w : World) : List Dyn → List (List Value) → Prop
 | [], [] => True
 | d :: ds, c :: cs => Rd S w d.t d.x c ∧ RdAll S w ds cs
 | _, _ => False
theorem ros_at : ∀ {ms : List Mode} {ds : List Dyn} {cs : List (List Value)} {i : Nat}, rosOK ms ds = true → RdAll S w ds cs → ArgsAt S β w ms ds cs i
 | [], [], [], _, _, _ => by simp [ArgsAt]
 | .ro t :: ms, d :: ds, c :: cs, i, h, k => by
  simp only [rosOK, Bool.and_eq_true, decide_eq_true_eq] at h
  simp only [RdAll] at k
  exact ⟨h.1, k.1, ros_at h.2 k.2⟩
 | [], [], _ :: _, _, _, k => by simp [RdAll] at k
 | [], _ :: _, _, _, h, _ => by simp [rosOK] at h
 | _ :: _, [], _, _, h, _ => by simp [rosOK] at h
 | _ :: _, _ :: _, [], _, _, k => by simp [RdAll] at k
 | .mv _ _ :: _, _ :: _, _, _, h, _ => by simp [rosOK] at h
 | .io _ _ _ _ _ :: _, _ :: _, _, _, h, _ => by simp [rosOK] at h
theorem RdAll_append : ∀ {ds ds' : List Dyn} {cs cs' : List (List Value)}, RdAll S w ds cs → RdAll S w ds' cs' → RdAll S w (ds ++ ds') (cs ++ cs') ∧ argVals (ds ++ ds') (cs ++ cs') = argVals ds cs ++ argVals ds' cs'
 | [], _, [], _, _, h => ⟨h, by simp [argVals]⟩
 | d :: ds, ds', c :: cs, cs', h, h' => by
  simp only [RdAll] at h
  obtain ⟨q1, q2⟩ := RdAll_append h.2 h'
  exact ⟨⟨h.1, q1⟩, by simp only [List.cons_append, argVals, q2]⟩
 | [], _, _ :: _, _, h, _ => by simp [RdAll] at h
 | _ :: _, _, [], _, h, _ => by simp [RdAll] at h
theorem caps_all : ∀ {cs : FCaps} {l : List Value}, CapsRd S w cs l → ∃ c, RdAll S w (capDyns cs) c ∧ argVals (capDyns cs) c = l
 | .nil, l, h => by simp only [CapsRd] at h; subst h; exact ⟨[], by simp [capDyns, RdAll], by simp [capDyns, argVals]⟩
 | .int k n r, l, h => by
  simp only [CapsRd] at h
  obtain ⟨b, l', rfl, h1, h2, h3⟩ := h
  obtain ⟨c, q1, q2⟩ := caps_all h3
  refine ⟨[.pointer (some ⟨b, 0, none⟩)] :: c, ⟨?_, q1⟩, by simp only [capDyns, argVals, q2]; rfl⟩
  simp only [Rd]
  exact ⟨b, _, rfl, h1, h2, rfl, rfl⟩
 | .fn v r, l, h => by
  simp only [CapsRd] at h
  obtain ⟨b, u, l', rfl, h1, h2, h3, h4⟩ := h
  obtain ⟨c, q1, q2⟩ := caps_all h4
  refine ⟨[.pointer (some ⟨b, 0, none⟩)] :: c, ⟨?_, q1⟩, by simp only [capDyns, argVals, q2]; rfl⟩
  simp only [Rd]
  exact ⟨b, _, rfl, h1, h2, rfl, u, rfl, h3⟩
theorem roArgs_sound : ∀ {ts : List (Option Ty)} {xs : List Operand} {ds : List Dyn}, Rel H N g V w S β → roArgs g ts xs = some ds → ∃ cs, RdAll (seenS S β) w ds cs ∧ xs.map (evl V ·) = (argVals ds cs).map some
 | [], [], ds, _, h => by simp only [roArgs, Option.some.injEq] at h; subst h; exact ⟨[], by simp [RdAll], by simp [argVals]⟩
 | some t :: ts, x :: xs, ds, hr, h => by
  simp only [roArgs] at h
  split at h
  ·rename_i d hd
   split at h
   ·obtain ⟨ds', h', rfl⟩ := Option.map_eq_some_iff.1 h
    obtain ⟨cs, q1, q2⟩ := roArgs_sound hr h'
    obtain ⟨c, e1, e2⟩ := dataOf_sound hr hd
    exact ⟨c :: cs, ⟨e2, q1⟩, by simp only [List.map_cons, argVals, q2, e1]⟩
   ·cases h
  ·cases h
 | [], _ :: _, _, _, h => by simp [roArgs] at h
 | none :: _, _, _, _, h => by simp [roArgs] at h
 | some _ :: _, [], _, _, h => by simp [roArgs] at h
theorem roArgs_mono (hs : Sub gv g) : ∀ {ts : List (Option Ty)} {xs : List Operand} {ds : List Dyn}, roArgs gv ts xs = some ds → roArgs g ts xs = some ds
 | [], [], ds, h => h
 | some t :: ts, x :: xs, ds, h => by
  simp only [roArgs] at h ⊢
  split at h
  ·rename_i d hd
   rw [dataOf_mono hs hd]
   simp only
   split at h
   ·rename_i hc
    rw [if_pos hc]
    obtain ⟨ds', h', rfl⟩ := Option.map_eq_some_iff.1 h
    rw [roArgs_mono hs h']; rfl
   ·cases h
  ·cases h
 | [], _ :: _, _, h => by simp [roArgs] at h
 | none :: _, _, _, h => by simp [roArgs] at h
 | some _ :: _, [], _, h => by simp [roArgs] at h
theorem exec_callV {ρ : Operand → Value} {c : Call} {s : Nat} {f : FuncId} {l : List Value} (ho : o.op = .call c) (hcal : c.callee = .value (.tmp s)) (hρ : ρ (.tmp s) = .func (.func f) #[] l.toArray) :
  execOp ρ o = callFunc f (c.args.map ρ ++ l.toArray) := by
 unfold execOp
 simp [ho, resolve, hcal, Deferred.ofValue, invoke, hρ]
theorem one_answer {τ t : Ty} (h : t = .pair τ .unit) {f : Fl} {x : t.D} {crs : List (List Value)} (hr : ResAt S β w 1 0 t f x crs) (hf : f.l.whole = true) (hc : closed τ .sh = true) :
  ∃ c, Rd S' w τ ((cast (congrArg Ty.D h) x : (Ty.pair τ .unit).D)).1 c ∧ retVal (resVals 1 t crs) = valOf τ c := by
 subst h
 match crs, hr with
 | [c], hr =>
  simp only [ResAt] at hr
  exact ⟨c, Rd_scal (closed_sh hc) (VRel_read (S' := fun _ => True) hf (fun _ _ => trivial) (fun _ _ _ => trivial) hr.1), rfl⟩
 | [], hr => simp [ResAt] at hr
 | _ :: _ :: _, hr => simp [ResAt] at hr
theorem callVK_sound {R : Run E} {c : Call} {s : Nat} {v : FnVal} {ff : Fl} (hR : RunOK E R) (hc : Ctx E.P H S β a w o g) (hs : Sub gv g) (hm : o.op = .call c) (hcal : c.callee = .value (.tmp s))
  (hd : dataOf gv (gv s).sv = some ⟨.fn, v, ff⟩) (hk : callVK E R gv o v c.args.toList c.argTypes.toList some = some us) : OpSound E.P H S β a w o (g.ups us) := by
 unfold callVK at hk
 split at hk
 ·rename_i ds τ h1 h2
  split at hk
  ·rename_i hcl
   obtain ⟨y, hy, hk⟩ := Option.bind_eq_some_iff.1 hk
   obtain ⟨d, hdst, rfl⟩ := outp_some hk
   have hdN := opIn_dst hc.opIn hdst
   unfold callV at hy
   split at hy
   ·cases hy
   ·rename_i f caps
    split at hy
    ·rename_i hrt
     split at hy
     ·rename_i hcond
      simp only [Bool.and_eq_true] at hcond
      obtain ⟨⟨hn, hros⟩, hwh⟩ := hcond
      obtain ⟨x, hx, rfl⟩ := Option.map_eq_some_iff.1 hy
      have hn1 : (E.cfg f).nres = 1 := Nat.eq_of_beq_eq_true hn
      obtain ⟨cf, hcf, hrd⟩ := dataOf_sound (x := .tmp s) hc.rel (dataOf_mono (x := .tmp s) hs hd)
      simp only [Rd] at hrd
      obtain ⟨u, rfl, hfn⟩ := hrd
      simp only [FnRd] at hfn
      obtain ⟨l, rfl, hcaps⟩ := hfn
      obtain ⟨cc, k1, k2⟩ := caps_all hcaps
      obtain ⟨cs, q1, q2⟩ := roArgs_sound hc.rel (roArgs_mono hs h1)
      obtain ⟨j1, j2⟩ := RdAll_append q1 k1
      have he := exec_callV (o := o) (l := l) hm hcal (evl_eval hcf)
      intro K Q hK
      refine wp_call he ?_
      have hargs : (argVals (ds ++ capDyns caps) (cs ++ cc)).toArray = c.args.map a.eval ++ l.toArray := by
       apply Array.toList_inj.1
       rw [j2, k2]
       have := args_eval q2
       simp [← this]
      rw [← hargs]
      have hseen : ∀ b, seenS S β b → b < w.heap.size := fun b hb => by
       rcases hb with hb | ⟨k, hb⟩
       ·exact hc.rel.sane.liveS b hb
       ·exact hc.rel.sane.live k b hb
      refine (hR f _ x hx w (seenS S β) (fun _ => none) _ ⟨fun _ _ _ h => by simp at h, fun _ _ h => by simp at h, fun _ _ h => by simp at h, hseen, hc.rel.sane.tabs fun b hb => ⟨.inl hb, rfl⟩⟩ (ros_at hros j1)).mono
       fun v w2 ⟨S2, β2, crs, s1, s2, s3, s4, s5⟩ => ?_
      have heap : ∀ b, b < w.heap.size → w2.heap[b]? = w.heap[b]? := fun b hb => s2.old b hb (fun k => by simp)
      have hsane : Sane w2 S β := ⟨hc.rel.sane.inj, hc.rel.sane.sep, fun k b h => Nat.lt_of_lt_of_le (hc.rel.sane.live k b h) s2.size, fun b h => Nat.lt_of_lt_of_le (hc.rel.sane.liveS b h) s2.size, hc.rel.sane.tabs fun b hb => ⟨hb, heap b (hc.rel.sane.liveS b hb)⟩⟩
      have hstep : Step w S β w2 S β := ⟨s2.size, fun b hb _ => heap b hb, fun k b h => .inl ⟨k, h⟩, fun _ h => h, fun _ h => .inl h, s2.out⟩
      refine hK _ _ _ _ put_size put_defers ?_ hstep
      rw [hdst, vals_put hdN]
      rw [hn1] at s3 s4
      obtain ⟨c, hrd, hval⟩ := one_answer (S' := S) hrt s3 hwh hcl
      exact hc.rel.put hsane (fun b hb => ⟨hb, heap b (hc.rel.sane.liveS b hb)⟩) (fun j s b _ _ hb => ⟨hb, heap b (hc.rel.sane.live _ _ hb)⟩) (fun j hj => by simp [upd, hj])
       (dat_free hrd (s4.trans hval))
     ·cases hy
    ·cases hy
  ·cases hk
 ·cases hk
theorem calls_ok {R : Run E} (hR : RunOK E R) : CallsOK E R := by
 intro H S β a w o g gv us hc hs
 exact ⟨fun c f hm hcal hk => callK_sound hR hc hs hm hcal hk, fun c s v f hm hcal hd hk => callVK_sound hR hc hs hm hcal hd hk⟩
end
end Go.Rf

end
section
namespace Go.Rf
set_option linter.unusedSectionVars false
variable [T : Laid]
section
variable {P : Program} {H : Nat → Option (List Value)} {N : Nat} {g g' G σ : View} {V V' V0 : Nat → Option Value} {w w' w2 : World} {S S' S2 : Nat → Prop} {β β' β2 : Key → Option Nat} {a : Act} {o : Oper}
variable {E : Env} {gv : View} {us : List Up}
structure Ent where
 m : Nat
 slot : Nat
 path : Key
 t : Ty
 f : Fl
def Ent.key (e : Ent) : Key := e.slot :: e.path
def PackP (L : List Ent) (β : Key → Option Nat) (k : Key) (b : Nat) : Prop := ∃ e ∈ L, ∃ s, k = e.m :: s ∧ ownsK e.t e.f s = true ∧ β (e.key ++ s) = some b
open Classical in
noncomputable def packβ (L : List Ent) (β : Key → Option Nat) (k : Key) : Option Nat := if h : ∃ b, PackP L β k b then some h.choose else none
def packS (L : List Ent) (S : Nat → Prop) (β : Key → Option Nat) : Nat → Prop := fun b => S b ∨ ((∃ k, β k = some b) ∧ ¬ ∃ k, packβ L β k = some b)
structure Apart (L : List Ent) : Prop where
 m : ∀ e ∈ L, ∀ e' ∈ L, e.m = e'.m → e = e'
 slot : ∀ e ∈ L, ∀ e' ∈ L, e.slot = e'.slot → e = e'
theorem packβ_some {L : List Ent} {k : Key} {b : Nat} (h : packβ L β k = some b) : PackP L β k b := by
 unfold packβ at h
 split at h
 ·rename_i hb
  simp only [Option.some.injEq] at h; rw [← h]; exact hb.choose_spec
 ·cases h
theorem packβ_eq {L : List Ent} (hL : Apart L) {e : Ent} (he : e ∈ L) {s : Key} {b : Nat} (ho : ownsK e.t e.f s = true) (hb : β (e.key ++ s) = some b) : packβ L β (e.m :: s) = some b := by
 have hx : ∃ b, PackP L β (e.m :: s) b := ⟨b, e, he, s, rfl, ho, hb⟩
 unfold packβ
 rw [dif_pos hx]
 obtain ⟨e', he', s', h1, h2, h3⟩ := hx.choose_spec
 simp only [List.cons.injEq] at h1
 have := hL.m e he e' he' h1.1
 subst this
 rw [← h1.2, hb] at h3
 exact h3.symm
theorem pack_ok {L : List Ent} (hL : Apart L) (hs : Sane w S β) : Sane w (packS L S β) (packβ L β) ∧ Step w S β w (packS L S β) (packβ L β) ∧
  ∀ e ∈ L, ∀ f0 (x : e.t.D) c, VRel S β H w e.key e.t f0 x c → Fl.le e.f f0 = true → VRel (packS L S β) (packβ L β) H w [e.m] e.t e.f x c := by
 refine ⟨⟨fun k k' b h h' => ?_, fun k b h hb => ?_, fun k b h => ?_, fun b hb => ?_, hs.tabs fun b hb => ⟨.inl hb, rfl⟩⟩, ⟨Nat.le_refl _, fun _ _ _ => rfl, fun k b h => ?_, fun b hb => .inl hb, fun b hb => ?_, .rfl'⟩, fun e he f0 x c hv hle => ?_⟩
 ·obtain ⟨e, he, s, rfl, _, h1⟩ := packβ_some h
  obtain ⟨e', he', s', rfl, _, h1'⟩ := packβ_some h'
  have := hs.inj _ _ _ h1 h1'
  simp only [Ent.key, List.cons_append, List.cons.injEq] at this
  have e2 := hL.slot e he e' he' this.1
  subst e2
  rw [List.append_cancel_left this.2]
 ·obtain ⟨e, he, s, rfl, _, h1⟩ := packβ_some h
  rcases hb with hb | ⟨_, hb⟩
  ·exact hs.sep _ _ h1 hb
  ·exact hb ⟨_, h⟩
 ·obtain ⟨e, he, s, rfl, _, h1⟩ := packβ_some h
  exact hs.live _ _ h1
 ·rcases hb with hb | ⟨⟨k, hb⟩, _⟩
  ·exact hs.liveS b hb
  ·exact hs.live _ _ hb
 ·obtain ⟨e, he, s, rfl, _, h1⟩ := packβ_some h
  exact .inl ⟨_, h1⟩
 ·rcases hb with hb | ⟨hb, _⟩
  ·exact .inl hb
  ·exact .inr (.inl hb)
 ·refine VRel_le (fun b hb => ⟨.inl hb, rfl⟩) hle (fun s b hb => ⟨rfl, fun ho => packβ_eq hL he ho hb, fun ho => ?_⟩) hv
  refine .inr ⟨⟨_, hb⟩, fun ⟨k, hk⟩ => ?_⟩
  obtain ⟨e', he', s', rfl, ho', h1⟩ := packβ_some hk
  have := hs.inj _ _ _ hb h1
  simp only [Ent.key, List.cons_append, List.cons.injEq] at this
  have e2 := hL.slot e he e' he' this.1
  subst e2
  rw [List.append_cancel_left this.2, ho'] at ho; cases ho
def resPath : ResultVar → Key
 | .tmp _ => []
 | .cell _ _ => [0]
def resEnts : List ResultVar → Nat → Ty → Fl → List Ent
 | r :: rs, k, .pair a b, f => ⟨2 * k, resSlot r, resPath r, a, f.l⟩ :: resEnts rs (k + 1) b f.r
 | _, _, _, _ => []
def ioEnts : List Mode → Nat → List Ent
 | .io t _ fo s p :: ms, i => ⟨2 * i + 1, s, keyP p, t, fo⟩ :: ioEnts ms (i + 1)
 | .ro _ :: ms, i => ioEnts ms (i + 1)
 | .mv _ _ :: ms, i => ioEnts ms (i + 1)
 | [], _ => []
theorem resEnts_m : ∀ {rs : List ResultVar} {k : Nat} {t : Ty} {f : Fl}, ∀ e ∈ resEnts rs k t f, ∃ j, e.m = 2 * j ∧ k ≤ j
 | r :: rs, k, .pair a b, f, e, he => by
  simp only [resEnts, List.mem_cons] at he
  rcases he with rfl | he
  ·exact ⟨k, rfl, Nat.le_refl _⟩
  ·obtain ⟨j, h1, h2⟩ := resEnts_m e he; exact ⟨j, h1, by omega⟩
 | [], _, _, _, _, he => by simp [resEnts] at he
 | _ :: _, _, .int _, _, _, he | _ :: _, _, .bool, _, _, he | _ :: _, _, .str, _, _, he | _ :: _, _, .fn, _, _, he | _ :: _, _, .unit, _, _, he
 | _ :: _, _, .sl _, _, _, he | _ :: _, _, .ptr _, _, _, he | _ :: _, _, .arr _ _, _, _, he => by simp [resEnts] at he
theorem resEnts_inj : ∀ {rs : List ResultVar} {k : Nat} {t : Ty} {f : Fl}, ∀ e ∈ resEnts rs k t f, ∀ e' ∈ resEnts rs k t f, e.m = e'.m → e = e'
 | r :: rs, k, .pair a b, f, e, he, e', he', h => by
  simp only [resEnts, List.mem_cons] at he he'
  rcases he with rfl | he <;> rcases he' with rfl | he'
  ·rfl
  ·obtain ⟨j, h1, h2⟩ := resEnts_m e' he'; simp only at h; omega
  ·obtain ⟨j, h1, h2⟩ := resEnts_m e he; simp only at h; omega
  ·exact resEnts_inj e he e' he' h
 | [], _, _, _, _, he, _, _, _ => by simp [resEnts] at he
 | _ :: _, _, .int _, _, _, he, _, _, _ | _ :: _, _, .bool, _, _, he, _, _, _ | _ :: _, _, .str, _, _, he, _, _, _ | _ :: _, _, .fn, _, _, he, _, _, _ | _ :: _, _, .unit, _, _, he, _, _, _
 | _ :: _, _, .sl _, _, _, he, _, _, _ | _ :: _, _, .ptr _, _, _, he, _, _, _ | _ :: _, _, .arr _ _, _, _, he, _, _, _ => by simp [resEnts] at he
theorem ioEnts_m : ∀ {ms : List Mode} {i : Nat}, ∀ e ∈ ioEnts ms i, ∃ j, e.m = 2 * j + 1 ∧ i ≤ j
 | .io t _ fo s p :: ms, i, e, he => by
  simp only [ioEnts, List.mem_cons] at he
  rcases he with rfl | he
  ·exact ⟨i, rfl, Nat.le_refl _⟩
  ·obtain ⟨j, h1, h2⟩ := ioEnts_m e he; exact ⟨j, h1, by omega⟩
 | .ro _ :: ms, i, e, he => by simp only [ioEnts] at he; obtain ⟨j, h1, h2⟩ := ioEnts_m e he; exact ⟨j, h1, by omega⟩
 | .mv _ _ :: ms, i, e, he => by simp only [ioEnts] at he; obtain ⟨j, h1, h2⟩ := ioEnts_m e he; exact ⟨j, h1, by omega⟩
 | [], _, _, he => by simp [ioEnts] at he
theorem ioEnts_inj : ∀ {ms : List Mode} {i : Nat}, ∀ e ∈ ioEnts ms i, ∀ e' ∈ ioEnts ms i, e.m = e'.m → e = e'
 | .io t _ fo s p :: ms, i, e, he, e', he', h => by
  simp only [ioEnts, List.mem_cons] at he he'
  rcases he with rfl | he <;> rcases he' with rfl | he'
  ·rfl
  ·obtain ⟨j, h1, h2⟩ := ioEnts_m e' he'; simp only at h; omega
  ·obtain ⟨j, h1, h2⟩ := ioEnts_m e he; simp only at h; omega
  ·exact ioEnts_inj e he e' he' h
 | .ro _ :: ms, i, e, he, e', he', h => by simp only [ioEnts] at he he'; exact ioEnts_inj e he e' he' h
 | .mv _ _ :: ms, i, e, he, e', he', h => by simp only [ioEnts] at he he'; exact ioEnts_inj e he e' he' h
 | [], _, _, he, _, _, _ => by simp [ioEnts] at he
theorem ioEnts_slots : ∀ {ms : List Mode} {i : Nat}, (ioEnts ms i).map Ent.slot = ioSlots ms
 | .io t _ fo s p :: ms, i => by simp only [ioEnts, ioSlots, List.map_cons, ioEnts_slots]
 | .ro _ :: ms, i => by simp only [ioEnts, ioSlots]; exact ioEnts_slots
 | .mv _ _ :: ms, i => by simp only [ioEnts, ioSlots]; exact ioEnts_slots
 | [], _ => rfl
theorem resEnts_slots : ∀ {rs : List ResultVar} {k : Nat} {t : Ty} {f : Fl}, ∀ s ∈ (resEnts rs k t f).map Ent.slot, s ∈ rs.map resSlot
 | r :: rs, k, .pair a b, f, s, hs => by
  simp only [resEnts, List.map_cons, List.mem_cons] at hs ⊢
  exact hs.imp id fun h => resEnts_slots s h
 | [], _, _, _, _, he => by simp [resEnts] at he
 | _ :: _, _, .int _, _, _, he | _ :: _, _, .bool, _, _, he | _ :: _, _, .str, _, _, he | _ :: _, _, .fn, _, _, he | _ :: _, _, .unit, _, _, he
 | _ :: _, _, .sl _, _, _, he | _ :: _, _, .ptr _, _, _, he | _ :: _, _, .arr _ _, _, _, he => by simp [resEnts] at he
theorem nodups_app {l l' : List Nat} (h : nodups (l ++ l') = true) : nodups l = true ∧ nodups l' = true ∧ ∀ x ∈ l, x ∉ l' := by
 induction l with
 | nil => exact ⟨rfl, h, by simp⟩
 | cons x l ih =>
  obtain ⟨h1, h2⟩ := nodups_cons (x := x) h
  obtain ⟨q1, q2, q3⟩ := ih h2
  refine ⟨?_, q2, fun y hy => ?_⟩
  ·simp only [nodups, Bool.and_eq_true, Bool.not_eq_true']
   refine ⟨?_, q1⟩
   cases hb : l.any (Nat.beq x ·) with
   | false => rfl
   | true =>
    obtain ⟨y, hy, e⟩ := List.any_eq_true.1 hb
    have := Nat.eq_of_beq_eq_true e
    subst this
    exact absurd (List.mem_append_left _ hy) h1
  ·rcases List.mem_cons.1 hy with rfl | hy
   ·exact fun hy' => h1 (List.mem_append_right _ hy')
   ·exact q3 y hy
theorem resEnts_slot_inj : ∀ {rs : List ResultVar} {k : Nat} {t : Ty} {f : Fl}, nodups (rs.map resSlot) = true → ∀ e ∈ resEnts rs k t f, ∀ e' ∈ resEnts rs k t f, e.slot = e'.slot → e = e'
 | r :: rs, k, .pair a b, f, hn, e, he, e', he', h => by
  simp only [List.map_cons] at hn
  obtain ⟨h1, h2⟩ := nodups_cons hn
  simp only [resEnts, List.mem_cons] at he he'
  rcases he with rfl | he <;> rcases he' with rfl | he'
  ·rfl
  ·simp only at h
   exact absurd (resEnts_slots _ (List.mem_map.2 ⟨e', he', h.symm⟩)) h1
  ·simp only at h
   exact absurd (resEnts_slots _ (List.mem_map.2 ⟨e, he, h⟩)) h1
  ·exact resEnts_slot_inj h2 e he e' he' h
 | [], _, _, _, _, _, he, _, _, _ => by simp [resEnts] at he
 | _ :: _, _, .int _, _, _, _, he, _, _, _ | _ :: _, _, .bool, _, _, _, he, _, _, _ | _ :: _, _, .str, _, _, _, he, _, _, _ | _ :: _, _, .fn, _, _, _, he, _, _, _ | _ :: _, _, .unit, _, _, _, he, _, _, _
 | _ :: _, _, .sl _, _, _, _, he, _, _, _ | _ :: _, _, .ptr _, _, _, _, he, _, _, _ | _ :: _, _, .arr _ _, _, _, _, he, _, _, _ => by simp [resEnts] at he
theorem ioEnts_slot_inj : ∀ {ms : List Mode} {i : Nat}, nodups (ioSlots ms) = true → ∀ e ∈ ioEnts ms i, ∀ e' ∈ ioEnts ms i, e.slot = e'.slot → e = e'
 | .io t _ fo s p :: ms, i, hn, e, he, e', he', h => by
  simp only [ioSlots] at hn
  obtain ⟨h1, h2⟩ := nodups_cons hn
  simp only [ioEnts, List.mem_cons] at he he'
  rcases he with rfl | he <;> rcases he' with rfl | he'
  ·rfl
  ·simp only at h
   exact absurd (by rw [← ioEnts_slots (i := i + 1)]; exact List.mem_map.2 ⟨e', he', h.symm⟩) h1
  ·simp only at h
   exact absurd (by rw [← ioEnts_slots (i := i + 1)]; exact List.mem_map.2 ⟨e, he, h⟩) h1
  ·exact ioEnts_slot_inj h2 e he e' he' h
 | .ro _ :: ms, i, hn, e, he, e', he', h => by simp only [ioEnts] at he he'; exact ioEnts_slot_inj (ms := ms) hn e he e' he' h
 | .mv _ _ :: ms, i, hn, e, he, e', he', h => by simp only [ioEnts] at he he'; exact ioEnts_slot_inj (ms := ms) hn e he e' he' h
 | [], _, _, _, he, _, _, _ => by simp [ioEnts] at he
theorem ents_apart {rs : List ResultVar} {ms : List Mode} {t : Ty} {f : Fl} (h : nodups (rs.map resSlot ++ ioSlots ms) = true) : Apart (resEnts rs 0 t f ++ ioEnts ms 0) := by
 obtain ⟨h1, h2, h3⟩ := nodups_app h
 refine ⟨fun e he e' he' hm => ?_, fun e he e' he' hm => ?_⟩
 ·rcases List.mem_append.1 he with he | he <;> rcases List.mem_append.1 he' with he' | he'
  ·exact resEnts_inj e he e' he' hm
  ·obtain ⟨j, q, _⟩ := resEnts_m e he; obtain ⟨j', q', _⟩ := ioEnts_m e' he'; omega
  ·obtain ⟨j, q, _⟩ := resEnts_m e' he'; obtain ⟨j', q', _⟩ := ioEnts_m e he; omega
  ·exact ioEnts_inj e he e' he' hm
 ·rcases List.mem_append.1 he with he | he <;> rcases List.mem_append.1 he' with he' | he'
  ·exact resEnts_slot_inj h1 e he e' he' hm
  ·have q := resEnts_slots _ (List.mem_map.2 ⟨e, he, rfl⟩)
   have q' : e'.slot ∈ ioSlots ms := by rw [← ioEnts_slots (i := 0)]; exact List.mem_map.2 ⟨e', he', rfl⟩
   rw [← hm] at q'; exact absurd q' (h3 _ q)
  ·have q := resEnts_slots _ (List.mem_map.2 ⟨e', he', rfl⟩)
   have q' : e.slot ∈ ioSlots ms := by rw [← ioEnts_slots (i := 0)]; exact List.mem_map.2 ⟨e, he, rfl⟩
   rw [hm] at q'; exact absurd q' (h3 _ q)
  ·exact ioEnts_slot_inj h2 e he e' he' hm
end
end Go.Rf

end
section
namespace Go.Rf
set_option linter.unusedSectionVars false
variable [T : Laid]
section
variable {P : Program} {H : Nat → Option (List Value)} {N : Nat} {g g' G : View} {V V' V0 : Nat → Option Value} {w w' w2 : World} {S S' S2 : Nat → Prop} {β β' β2 : Key → Option Nat} {a : Act} {o : Oper}
variable {E : Env} {gv : View} {us : List Up} {σ : List SV}
def res1 (tmps : Array Value) : ResultVar → Sem Value
 | .tmp t => pure (tmps.getD t undef)
 | .cell a t => do loadVar t (← asAddr (tmps.getD a undef))
theorem run_results {fn : Func} {tmps : Array Value} {vs : List Value} (h : (fn.results.toList.mapM (res1 tmps)).run P w = .ok vs w) : (results fn tmps).run P w = .ok (retVal vs) w := by
 have e : (fn.results.mapM (res1 tmps)).run P w = .ok vs.toArray w := by
  rw [Array.mapM_eq_mapM_toList]
  simp [h]
 have e2 : results fn tmps = (do let vs ← fn.results.mapM (res1 tmps); pure (if h : vs.size = 1 then vs[0] else .tuple vs)) := by
  unfold results
  congr
 rw [e2]
 simp only [Sem.run_bind, e, Result.andThen_ok]
 match vs with
 | [] => rfl
 | [v] => rfl
 | _ :: _ :: _ => rfl
theorem RelS.dat (h : RelS H σ a w S β) {i : Nat} {d : Dat} (hd : σ.getD i .dead = .dat d) : (at? (start σ) i).sv = .dat d ∧ ∃ c, VRel S β H w [i] d.t d.f d.x c ∧ vals a i = some (valOf d.t c) := by
 have hs : (at? (start σ) i).sv = .dat d := by
  rw [at_start]
  rw [List.getD] at hd
  cases he : σ[i]? with
  | none => rw [he] at hd; cases hd
  | some v => rw [he] at hd; exact hd
 exact ⟨hs, h.rel.dat hs⟩
theorem vals_getD {i : Nat} {v : Value} (h : vals a i = some v) : a.tmps.getD i undef = v := by
 simp only [vals] at h
 rw [Array.getD_eq_getD_getElem?, h]; rfl
def Mode.np : Mode → Bool
 | .io _ _ fo _ _ => fo.nopin
 | _ => true
def tailFl : Nat → Fl → Fl
 | 0, f => f
 | n + 1, f => tailFl n f.r
theorem castD_eq {s t : Ty} {x : s.D} {y : t.D} (h : castD s t x = some y) : ∃ e : s = t, e ▸ x = y := by
 unfold castD at h
 split at h
 ·rename_i e; exact ⟨e, Option.some.inj h⟩
 ·cases h
theorem res_one {r : ResultVar} {d : Dat} (h : RelS H σ a w S β) (hr : resVar E σ r = some d) :
  ∃ c, VRel S β H w (resSlot r :: resPath r) d.t d.f d.x c ∧ (res1 a.tmps r).run E.P w = .ok (valOf d.t c) w := by
 cases r with
 | tmp s =>
  simp only [resVar] at hr
  split at hr
  ·rename_i d' hd
   simp only [Option.some.injEq] at hr; subst hr
   obtain ⟨_, c, hv, hV⟩ := h.dat hd
   exact ⟨c, hv, by simp only [res1]; rw [vals_getD hV]; rfl⟩
  ·cases hr
 | cell s ty =>
  simp only [resVar] at hr
  split at hr
  ·rename_i t x f hd
   split at hr
   ·rename_i hc
    simp only [Option.some.injEq] at hr; subst hr
    simp only [Bool.and_eq_true, decide_eq_true_eq, Bool.not_eq_true'] at hc
    obtain ⟨_, c, hv, hV⟩ := h.dat hd
    have hg := isGone_base hc.2
    have key : ∃ b cs, c = [.pointer (some ⟨b, 0, none⟩)] ∧ Blk w b cs ∧ cs.size = t.size ∧ VRel S β H w [s, 0] t f.e x cs.toList := by
     rw [e_base]
     simp only [VRel] at hv
     have hv := hv.2
     cases hf : f.base with
     | own e =>
      rw [hf] at hv
      obtain ⟨b, cs, q1, q2, q3, q4, q5⟩ := hv
      exact ⟨b, cs, q1, q3.blk, q4, q5⟩
     | gone => exact absurd hf hg
     | sh =>
      rw [hf] at hv; simp only [Rd] at hv
      obtain ⟨b, cs, q1, q2, q3, q4, q5⟩ := hv
      exact ⟨b, cs, q1, q3, q4, VRel_sh.2 q5⟩
     | pr e1 e2 =>
      rw [hf] at hv; simp only [Rd] at hv
      obtain ⟨b, cs, q1, q2, q3, q4, q5⟩ := hv
      refine ⟨b, cs, q1, q3, q4, ?_⟩
      have hl := Rd_len q5
      cases t <;> simp only [Fl.e, VRel, Fl.base, Pins, Fl.pins] <;> exact ⟨by simp, hl⟩
     | ar e1 =>
      rw [hf] at hv; simp only [Rd] at hv
      obtain ⟨b, cs, q1, q2, q3, q4, q5⟩ := hv
      refine ⟨b, cs, q1, q3, q4, ?_⟩
      have hl := Rd_len q5
      cases t <;> simp only [Fl.e, VRel, Fl.base, Pins, Fl.pins] <;> exact ⟨by simp, hl⟩
     | pin k e => exact absurd hf base_ne_pin
    obtain ⟨b, cs, rfl, hB, hz, hv'⟩ := key
    refine ⟨cs.toList, hv', ?_⟩
    have hcell : cellsAt w t.size (.mem b 0) = some cs.toList := by
     obtain ⟨e, fz, hb⟩ := hB
     simp only [cellsAt, hb]
     rw [if_pos (by omega)]
     rw [show t.size = cs.toList.length by simp [hz], win_all]
    simp only [res1]
    rw [vals_getD hV]
    simp only [Sem.run_bind]
    rw [show (asAddr (valOf (.ptr t) [.pointer (some ⟨b, 0, none⟩)])).run E.P w = .ok ⟨b, 0, none⟩ w from rfl]
    simp only [Result.andThen_ok]
    exact run_loadVar' hc.1 hcell
   ·cases hr
  ·cases hr
theorem allSome_cons {α : Type} {o : Option α} {l : List (Option α)} {ds : List α} (h : allSome (o :: l) = some ds) : ∃ d ds', o = some d ∧ allSome l = some ds' ∧ ds = d :: ds' := by
 cases o with
 | none => simp [allSome] at h
 | some d =>
  simp only [allSome] at h
  obtain ⟨ds', h1, h2⟩ := Option.map_eq_some_iff.1 h
  exact ⟨d, ds', rfl, h1, h2.symm⟩
theorem collect_cons {d : Dat} {ds : List Dat} {t : Ty} {f : Fl} {x : t.D} (h : collect (d :: ds) t f = some x) :
  ∃ (a b : Ty) (e : t = .pair a b) (y : (Ty.pair a b).D), e ▸ x = y ∧ Fl.le f.l d.f = true ∧ castD d.t a d.x = some y.1 ∧ collect ds b f.r = some y.2 := by
 cases t with
 | pair a b =>
  simp only [collect] at h
  split at h
  ·rename_i hle
   obtain ⟨y, h1, h2⟩ := Option.bind_eq_some_iff.1 h
   obtain ⟨z, h3, h4⟩ := Option.map_eq_some_iff.1 h2
   exact ⟨a, b, rfl, x, rfl, hle, by rw [h1, ← h4], by rw [h3, ← h4]⟩
  ·cases h
 | _ => simp [collect] at h
theorem res_sound {L : List Ent} (hT : ∀ e ∈ L, ∀ f0 (x : e.t.D) c, VRel S β H w e.key e.t f0 x c → Fl.le e.f f0 = true → VRel S' β' H w [e.m] e.t e.f x c) (h : RelS H σ a w S β) :
  ∀ {rs : List ResultVar} {ds es : List Dat} {k : Nat} {t : Ty} {f : Fl} {x : t.D}, f.nopin = true → allSome (rs.map (resVar E σ)) = some ds → collect (ds ++ es) t f = some x → (∀ e ∈ resEnts rs k t f, e ∈ L) →
  ∃ crs, ResAt S' β' w rs.length k t f x crs ∧ (rs.mapM (res1 a.tmps)).run E.P w = .ok (resVals rs.length t crs) w ∧ collect es (tailTy rs.length t) (tailFl rs.length f) = some (tailD rs.length t x)
 | [], ds, es, k, t, f, x, hf, h1, h2, hL => by
  simp only [List.map_nil, allSome, Option.some.injEq] at h1
  subst h1
  exact ⟨[], by simp [ResAt], by simp [resVals], h2⟩
 | r :: rs, ds, es, k, t, f, x, hf, h1, h2, hL => by
  obtain ⟨d, ds', hr, h1', rfl⟩ := allSome_cons h1
  obtain ⟨ta, tb, rfl, y, rfl, hle, hc, hcol⟩ := collect_cons (ds := ds' ++ es) h2
  obtain ⟨e, hx⟩ := castD_eq hc
  obtain ⟨dt, dx, df⟩ := d
  simp only at e hx hle
  subst e
  simp only at hx
  obtain ⟨c, hv, hrun⟩ := res_one h hr
  simp only [resEnts, List.mem_cons, forall_eq_or_imp] at hL
  obtain ⟨crs, q1, q2, q3⟩ := res_sound hT h (k := k + 1) (nopin_r hf) h1' hcol hL.2
  have hv' := hT _ hL.1 df dx c hv hle
  refine ⟨c :: crs, ⟨VRel_H (nopin_l hf) (hx ▸ hv'), q1⟩, ?_, q3⟩
  simp only [List.mapM_cons, Sem.run_bind, hrun, Result.andThen_ok, q2, List.length_cons, resVals]
  rfl
theorem inB_noIx : ∀ {p : List PS} {t : Ty} {f : Fl} {x : t.D} {d : Dat}, noIx p = true → getP p t f x = some d → inB p t x
 | [], _, _, _, _, _, _ => by simp [inB]
 | .fst :: p, .pair a b, f, x, d, h, k => by simp only [getP] at k; simp only [inB]; exact inB_noIx (p := p) h k
 | .snd :: p, .pair a b, f, x, d, h, k => by simp only [getP] at k; simp only [inB]; exact inB_noIx (p := p) h k
 | .der :: p, .ptr t, f, x, d, h, k => by simp only [getP] at k; simp only [inB]; exact inB_noIx (p := p) h k
 | .idx _ :: _, _, _, _, _, h, _ => by simp [noIx] at h
 | .elm _ :: _, _, _, _, _, h, _ => by simp [noIx] at h
theorem io_sound {L : List Ent} {cs0 : List (List Value)} (hT : ∀ e ∈ L, ∀ f0 (x : e.t.D) c, VRel S β (fun i => cs0[i]?) w e.key e.t f0 x c → Fl.le e.f f0 = true → VRel S' β' (fun i => cs0[i]?) w [e.m] e.t e.f x c) (h : RelS (fun i => cs0[i]?) σ a w S β) :
  ∀ {ms : List Mode} {es : List Dat} {i : Nat} {cs : List (List Value)} {t : Ty} {f : Fl} {x : t.D}, ioDats σ ms i = some es → collect es t f = some x → (∀ e ∈ ioEnts ms i, e ∈ L) → cs.length = ms.length → (∀ j, cs[j]? = cs0[i + j]?) →
   (∀ m ∈ ms, m.np = true) → IoAt S' β' w ms cs i t x
 | [], es, i, cs, t, f, x, h1, h2, hL, hl, hc, hm => by
  match cs, hl with
  | [], _ => simp [IoAt]
 | .ro _ :: ms, es, i, cs, t, f, x, h1, h2, hL, hl, hc, hm => by
  match cs, hl with
  | c :: cs, hl =>
   simp only [ioDats] at h1; simp only [ioEnts] at hL
   simp only [IoAt]
   exact io_sound hT h h1 h2 hL (by simpa using hl) (fun j => by have := hc (j + 1); rw [show i + (j + 1) = i + 1 + j by omega] at this; simpa using this) (fun m hm' => hm m (by simp [hm']))
 | .mv _ _ :: ms, es, i, cs, t, f, x, h1, h2, hL, hl, hc, hm => by
  match cs, hl with
  | c :: cs, hl =>
   simp only [ioDats] at h1; simp only [ioEnts] at hL
   simp only [IoAt]
   exact io_sound hT h h1 h2 hL (by simpa using hl) (fun j => by have := hc (j + 1); rw [show i + (j + 1) = i + 1 + j by omega] at this; simpa using this) (fun m hm' => hm m (by simp [hm']))
 | .io tm fi fo s p :: ms, es, i, cs, t, f, x, h1, h2, hL, hl, hc, hm => by
  match cs, hl with
  | c :: cs, hl =>
   simp only [ioDats] at h1
   split at h1
   ·rename_i d hd
    split at h1
    ·rename_i e hg
     split at h1
     ·rename_i j f' hef
      split at h1
      ·rename_i hcond
       simp only [Bool.and_eq_true, decide_eq_true_eq, Bool.not_eq_true'] at hcond
       obtain ⟨⟨⟨⟨hij, hle⟩, het⟩, hng⟩, hix⟩ := hcond
       have hij := Nat.eq_of_beq_eq_true hij
       subst hij
       obtain ⟨es', h1', rfl⟩ := Option.map_eq_some_iff.1 h1
       obtain ⟨ta, tb, rfl, y, rfl, _, hcast, hcol⟩ := collect_cons h2
       obtain ⟨q, hx⟩ := castD_eq hcast
       obtain ⟨et, ex, ef⟩ := e
       simp only at het hef q hx
       subst q
       subst het
       subst hef
       simp only at hx
       obtain ⟨hsd, _⟩ := h.dat hd
       have hnb : (Fl.pin i f').base ≠ .gone := by
        simp only [Fl.base]; exact isGone_base hng
       obtain ⟨cr, Lc, c2, _, _, _, _, _, hv⟩ := SVRel.at (h.rel.dat hsd) hg (inB_noIx hix hg) hnb
       have hpin := VRel_pins hv i (by simp [Fl.pins])
       have hc2 : c2 = c := by
        have e0 := hc 0
        simp only [List.getElem?_cons_zero, Nat.add_zero] at e0
        have hpin : cs0[i]? = some c2 := hpin
        rw [← e0] at hpin
        exact (Option.some.inj hpin).symm
       subst hc2
       simp only [ioEnts, List.mem_cons, forall_eq_or_imp] at hL
       have hv' := hT _ hL.1 _ ex c2 hv hle
       have hfo : fo.nopin = true := hm (.io et fi fo s p) (by simp)
       refine ⟨rfl, VRel_H hfo (hx ▸ hv'), ?_⟩
       exact io_sound hT h h1' hcol hL.2 (by simpa using hl) (fun j => by have := hc (j + 1); rw [show i + (j + 1) = i + 1 + j by omega] at this; simpa using this) (fun m hm' => hm m (by simp [hm']))
      ·cases h1
     ·cases h1
    ·cases h1
   ·cases h1
end
end Go.Rf

end
section
namespace Go.Rf
set_option linter.unusedSectionVars false
variable [T : Laid]
section
variable {P : Program} {H : Nat → Option (List Value)} {N : Nat} {g g' G : View} {V V' V0 : Nat → Option Value} {w w' w2 : World} {S S' S2 : Nat → Prop} {β β' β2 : Key → Option Nat} {a : Act} {o : Oper}
variable {E : Env} {gv : View} {us : List Up} {σ : List SV}
theorem init_sound {cs0 : List (List Value)} : ∀ {ms : List Mode} {ds : List Dyn} {cs : List (List Value)} {i : Nat} {σ : List SV}, initSlots ms ds i = some σ → ArgsAt S β w ms ds cs i → (∀ j, cs[j]? = cs0[i + j]?) →
  σ.length = ms.length ∧ cs.length = ms.length ∧ (argVals ds cs).length = ms.length ∧ (∀ m ∈ ms, m.np = true) ∧
  ∀ j v, σ[j]? = some v → ∃ (d : Dat) (c : List Value), v = .dat d ∧ (argVals ds cs)[j]? = some (valOf d.t c) ∧ VRel S β (fun i => cs0[i]?) w [i + j] d.t d.f d.x c
 | [], [], [], i, σ, h, _, _ => by
  simp only [initSlots, Option.some.injEq] at h
  subst h
  simp [argVals]
 | m :: ms, d :: ds, c :: cs, i, σ, h, ha, hc => by
  have hc' : ∀ j, cs[j]? = cs0[i + 1 + j]? := fun j => by have := hc (j + 1); rw [show i + (j + 1) = i + 1 + j by omega] at this; simpa using this
  have hc0 : cs0[i]? = some c := by have := hc 0; simpa using this.symm
  have next : ∀ {t : Ty} {fl : Fl} {x : t.D} {σ' : List SV}, d.t = t → castD d.t t d.x = some x → initSlots ms ds (i + 1) = some σ' → σ = .dat ⟨t, x, fl⟩ :: σ' → ArgsAt S β w ms ds cs (i + 1) →
    VRel S β (fun i => cs0[i]?) w [i] d.t fl d.x c → m.np = true →
    σ.length = (m :: ms).length ∧ (c :: cs).length = (m :: ms).length ∧ (argVals (d :: ds) (c :: cs)).length = (m :: ms).length ∧ (∀ q ∈ m :: ms, q.np = true) ∧
    ∀ j v, σ[j]? = some v → ∃ (d' : Dat) (c' : List Value), v = .dat d' ∧ (argVals (d :: ds) (c :: cs))[j]? = some (valOf d'.t c') ∧ VRel S β (fun i => cs0[i]?) w [i + j] d'.t d'.f d'.x c' := by
   intro t fl x σ' ht hx hi hσ ha' hv hm
   subst ht
   unfold castD at hx
   rw [dif_pos rfl] at hx
   have hx := Option.some.inj hx
   simp only at hx
   obtain ⟨q1, q2, q3, q4, q5⟩ := init_sound hi ha' hc'
   subst hσ
   refine ⟨by simp [q1], by simp [q2], by simp [argVals, q3], fun m' hm' => ?_, fun j v hj => ?_⟩
   ·rcases List.mem_cons.1 hm' with rfl | hm'
    ·exact hm
    ·exact q4 m' hm'
   ·cases j with
    | zero =>
     simp only [List.getElem?_cons_zero, Option.some.injEq] at hj
     subst hj
     exact ⟨_, c, rfl, by simp [argVals], hx ▸ hv⟩
    | succ j =>
     obtain ⟨d', c', e1, e2, e3⟩ := q5 j v (by simpa using hj)
     exact ⟨d', c', e1, by simpa [argVals] using e2, by rw [show i + (j + 1) = i + 1 + j by omega]; exact e3⟩
  cases m with
  | ro t =>
   simp only [initSlots] at h
   obtain ⟨x, hx, h⟩ := Option.bind_eq_some_iff.1 h
   obtain ⟨σ', hi, hσ⟩ := Option.map_eq_some_iff.1 h
   simp only [ArgsAt] at ha
   exact next ha.1 hx hi hσ.symm ha.2.2 (VRel_sh.2 ha.2.1) rfl
  | mv t f =>
   simp only [initSlots] at h
   obtain ⟨x, hx, h⟩ := Option.bind_eq_some_iff.1 h
   obtain ⟨σ', hi, hσ⟩ := Option.map_eq_some_iff.1 h
   simp only [ArgsAt] at ha
   exact next ha.1 hx hi hσ.symm ha.2.2.2 (VRel_H ha.2.1 ha.2.2.1) rfl
  | io t f fo s p =>
   simp only [initSlots] at h
   obtain ⟨x, hx, h⟩ := Option.bind_eq_some_iff.1 h
   obtain ⟨σ', hi, hσ⟩ := Option.map_eq_some_iff.1 h
   simp only [ArgsAt] at ha
   refine next ha.1 hx hi hσ.symm ha.2.2.2 ?_ ha.2.1.2
   have hv : VRel S β (fun i => cs0[i]?) w [i] d.t f d.x c := VRel_H ha.2.1.1 ha.2.2.1
   have hp : Pins (fun i => cs0[i]?) (.pin i f) c := fun k hk => by
    simp only [Fl.pins, nopin_pins ha.2.1.1, List.mem_singleton] at hk
    subst hk; exact hc0
   exact VRel_wrap (f := .pin i f) hp hv
 | [], [], _ :: _, _, _, _, ha, _ => by simp [ArgsAt] at ha
 | [], _ :: _, _, _, _, h, _, _ => by simp [initSlots] at h
 | .ro _ :: _, [], _, _, _, h, _, _ => by simp [initSlots] at h
 | .mv _ _ :: _, [], _, _, _, h, _, _ => by simp [initSlots] at h
 | .io _ _ _ _ _ :: _, [], _, _, _, h, _, _ => by simp [initSlots] at h
 | .ro _ :: _, _ :: _, [], _, _, _, ha, _ => by simp [ArgsAt] at ha
 | .mv _ _ :: _, _ :: _, [], _, _, _, ha, _ => by simp [ArgsAt] at ha
 | .io _ _ _ _ _ :: _, _ :: _, [], _, _, _, ha, _ => by simp [ArgsAt] at ha
theorem finish_sound {f : FuncId} {fn : Func} {x : (E.cfg f).rt.D} {cs : List (List Value)} (h : RelS (fun i => cs[i]?) σ a w S β) (hx : finish E f fn σ = some x) (hl : cs.length = (E.cfg f).modes.length)
  (hm : ∀ m ∈ (E.cfg f).modes, m.np = true) : ∃ v, (results fn a.tmps).run E.P w = .ok v w ∧ Ret (E.cfg f) x cs w S β v w := by
 unfold finish at hx
 split at hx
 ·rename_i hc
  simp only [Bool.and_eq_true] at hc
  obtain ⟨⟨h1, h2⟩, h3⟩ := hc
  have h2 := Nat.eq_of_beq_eq_true h2
  split at hx
  ·rename_i ds es hds hes
   obtain ⟨sane, step, tr⟩ := pack_ok (H := fun i => cs[i]?) (ents_apart (t := (E.cfg f).rt) (f := (E.cfg f).rf) h1) h.rel.sane
   obtain ⟨crs, q1, q2, q3⟩ := res_sound (es := es) (k := 0) tr h h3 hds hx (fun e he => List.mem_append_left _ he)
   rw [show fn.results.toList.length = (E.cfg f).nres by simpa using h2] at q1 q2 q3
   refine ⟨_, run_results q2, _, _, crs, sane, step, q1, rfl, ?_⟩
   exact io_sound tr h hes q3 (fun e he => List.mem_append_right _ he) hl (fun j => by simp) hm
  ·cases hx
 ·cases hx
def NamesOK (P : Program) : Prop := ∀ (f : FuncId) (fn : Func), P.funcs[f]? = some fn → (fn.name == "runtime.NumGoroutine") = false
theorem body_ok {R : Run E} {L : Loops} (hR : CallsOK E R) (hD : DrawOK E R) (hL : LoopsOK E L) (hN : NamesOK E.P) {f : FuncId} {ds : List Dyn} {x : (E.cfg f).rt.D} (h : bodyK E R L f ds = some x) : FnOK E f ds x := by
 unfold bodyK at h
 split at h
 ·rename_i fn hfn
  split at h
  ·rename_i c σ hb hi
   split at h
   ·rename_i hcond
    simp only [Bool.and_eq_true] at hcond
    have hlen := Nat.le_of_ble_eq_true hcond.1
    intro w S β cs hs ha
    obtain ⟨q1, q2, q3, q4, q5⟩ := init_sound (cs0 := cs) hi ha (fun j => by simp)
    refine .inl ⟨fn, hfn, hN f fn hfn, by rw [hb]; rfl, calls_of_wp hfn hb ?_⟩
    have hsz : ((argVals ds cs).toArray ++ Array.replicate (fn.ntmps - (argVals ds cs).toArray.size) undef).size = fn.ntmps := by
     simp only [Array.size_append, List.size_toArray, Array.size_replicate]; omega
    have hrel : RelS (fun i => cs[i]?) (pad fn.ntmps σ) { tmps := (argVals ds cs).toArray ++ Array.replicate (fn.ntmps - (argVals ds cs).toArray.size) undef, defers := [] } w S β := by
     refine ⟨by rw [hsz]; simp [pad]; omega, hs, fun i => ?_⟩
     rw [at_start]
     by_cases hi : i < σ.length
     ·have hg : (pad fn.ntmps σ)[i]? = some σ[i] := by
       unfold pad
       rw [List.getElem?_append_left hi, List.getElem?_eq_getElem hi]
      rw [hg]
      obtain ⟨d, cc, e1, e2, e3⟩ := q5 i σ[i] (List.getElem?_eq_getElem hi)
      simp only [e1]
      refine ⟨cc, by simpa using e3, ?_⟩
      have hi' : i < (argVals ds cs).length := by omega
      simp only [vals]
      rw [Array.getElem?_append_left (by simpa using hi')]
      simpa using e2
     ·have hg : ∀ v, (pad fn.ntmps σ)[i]? = some v → v = .dead := fun v hv => by
       unfold pad at hv
       rw [List.getElem?_append_right (by omega), List.getElem?_replicate] at hv
       split at hv
       ·exact (Option.some.inj hv).symm
       ·cases hv
      cases hv : (pad fn.ntmps σ)[i]? with
      | none => trivial
      | some v => rw [hg v hv]; trivial
    refine evB_sound hR hD hL (by rw [show ({ tmps := (argVals ds cs).toArray ++ Array.replicate (fn.ntmps - (argVals ds cs).toArray.size) undef, defers := [] } : Act).tmps.size = fn.ntmps from hsz]; exact hcond.2) hrel h ?_
    intro o a' w' S' β' ho e1 e2 h' hst
    have fin : finish E f fn o.σ = some x → bodyPost E.P fn (fun e w' => match e, w' with | .returned v, w' => Ret (E.cfg f) x cs w S β v w' | _, _ => False) .normal a' w' := fun hx => by
     obtain ⟨v, r1, S2, β2, crs, r2, r3, r4, r5, r6⟩ := finish_sound h' hx q2 q4
     exact ⟨e2, v, r1, S2, β2, crs, r2, hst.trans r3, r4, r5, r6⟩
    obtain ⟨e, σ'⟩ := o
    cases e with
    | nm => exact fin ho
    | ret => exact fin ho
    | ex id => simp [retK] at ho
   ·cases h
  ·cases h
 ·cases h
theorem nextL_in {R : Run E} {L : Loops} (hR : CallsOK E R) (hD : DrawOK E R) (ih : LoopsIn E L) : LoopsIn E (nextL E R L) := by
 intro H f b σ o a w S β Q hd h hrel hQ
 simp only [nextL] at h
 refine LoopIn.round (evB_sound hR hD ih.ok hd hrel h fun o' a' w' S' β' ho e1 e2 h' hst => ?_)
 obtain ⟨e, σ'⟩ := o'
 cases e with
 | nm =>
  simp only at ho
  exact ih H f b _ o a' w' S' β' Q (by rw [e1]; exact hd) ho h'.killS fun a'' w'' S'' β'' f1 f2 h'' hst' => hQ a'' w'' S'' β'' (f1.trans e1) (f2.trans e2) h'' (hst.trans hst')
 | ex id =>
  simp only [Option.some.injEq] at ho; subst ho
  exact hQ a' w' S' β' e1 e2 h' hst
 | ret =>
  simp only [Option.some.injEq] at ho; subst ho
  exact hQ a' w' S' β' e1 e2 h' hst
theorem rounds_ok {X : (f : FuncId) → Option (List Dyn → Option (E.cfg f).rt.D)} (hX : ∀ f h, X f = some h → ∀ ds x, h ds = some x → FnOK E f ds x) (hm : E.P.follows .mixedOrders = true) (hN : NamesOK E.P) :
  ∀ k, RunOK E (rounds E X k).1 ∧ LoopsIn E (rounds E X k).2
 | 0 => ⟨fun f ds x h => by simp [rounds] at h, fun H f b σ o a w S β Q _ h _ _ => by simp [rounds] at h⟩
 | k + 1 => by
  obtain ⟨h1, h2⟩ := rounds_ok hX hm hN k
  have hR := calls_ok h1
  have hD : DrawOK E (rounds E X k).1 := draw_ok hR hm
  refine ⟨fun f ds x h => ?_, nextL_in hR hD h2⟩
  simp only [rounds, nextR] at h
  split at h
  ·rename_i h' hx; exact hX f h' hx ds x h
  ·exact body_ok hR hD h2.ok hN h
end
end Go.Rf

end
section
namespace Go.Rf
set_option linter.unusedSectionVars false
variable [T : Laid]
section
variable {E : Env} {ρ : Type}
def RLe (R R' : Run E) : Prop := ∀ f ds x, R f ds = some x → R' f ds = some x
def LLe (L L' : Loops) : Prop := ∀ f b σ o, L f b σ = some o → L' f b σ = some o
theorem callK0_fin {R : Run E} {g : View} {o : Oper} {f : FuncId} {xs : List Operand} {us : List Up} (h : callK0 E R g o f xs some = some us) :
  ∃ ds x, R f ds = some x ∧ ∀ R' : Run E, R' f ds = some x → callK0 E R' g o f xs some = some us := by
 unfold callK0 at h
 split at h
 ·rename_i p hp
  split at h
  ·rename_i ds lent hd
   split at h
   ·rename_i hc
    obtain ⟨x, hx, hk⟩ := Option.bind_eq_some_iff.1 h
    refine ⟨ds, x, hx, fun R' h' => ?_⟩
    unfold callK0
    rw [hp]; simp only [hd]
    rw [if_pos hc, h']
    exact hk
   ·cases h
  ·cases h
 ·cases h
theorem callK_fin {R : Run E} {g : View} {o : Oper} {f : FuncId} {xs : List Operand} {us : List Up} (h : callK E R g o f xs some = some us) :
  ∃ ds x, R f ds = some x ∧ ∀ R' : Run E, R' f ds = some x → callK E R' g o f xs some = some us := by
 unfold callK at h
 rw [callK0_bind] at h
 obtain ⟨us0, h0, h1⟩ := Option.bind_eq_some_iff.1 h
 obtain ⟨ds, x, hx, hR⟩ := callK0_fin h0
 refine ⟨ds, x, hx, fun R' h' => ?_⟩
 unfold callK
 rw [callK0_bind, hR R' h']
 exact h1
theorem callVK_fin {R : Run E} {g : View} {o : Oper} {v : FnVal} {xs : List Operand} {ts : List TypeId} {us : List Up} (h : callVK E R g o v xs ts some = some us) :
  ∃ f ds x, R f ds = some x ∧ ∀ R' : Run E, R' f ds = some x → callVK E R' g o v xs ts some = some us := by
 unfold callVK at h
 split at h
 ·rename_i ds τ h1 h2
  split at h
  ·rename_i hc
   obtain ⟨y, hy, hk⟩ := Option.bind_eq_some_iff.1 h
   unfold callV at hy
   split at hy
   ·cases hy
   ·rename_i f cs
    split at hy
    ·rename_i hrt
     split at hy
     ·rename_i hcond
      obtain ⟨x, hx, e⟩ := Option.map_eq_some_iff.1 hy
      refine ⟨f, _, x, hx, fun R' h' => ?_⟩
      unfold callVK
      rw [h1, h2]; simp only
      rw [if_pos hc]
      unfold callV
      simp only
      rw [dif_pos hrt, if_pos hcond, h']
      simp only [Option.map_some, e]
      exact hk
     ·cases hy
    ·cases hy
  ·cases h
 ·cases h
theorem opK_fin {R : Run E} {mv : Bool} {g : View} {o : Oper} {us : List Up} (h : opK E R mv g o some = some us) :
  (∀ R' : Run E, opK E R' mv g o some = some us) ∨ ∃ f ds x, R f ds = some x ∧ ∀ R' : Run E, R' f ds = some x → opK E R' mv g o some = some us := by
 unfold opK at h
 split at h
 case h_22 =>
  rename_i c hop
  split at h
  ·rename_i b hcal
   left; intro R'; unfold opK; rw [hop]; simp only; rw [hcal]; exact h
  ·rename_i f hcal
   obtain ⟨ds, x, h1, h2⟩ := callK_fin h
   right
   refine ⟨f, ds, x, h1, fun R' h' => ?_⟩
   unfold opK; rw [hop]; simp only; rw [hcal]; exact h2 R' h'
  ·rename_i s hcal
   split at h
   ·rename_i v f hd
    obtain ⟨f', ds, x, h1, h2⟩ := callVK_fin h
    right
    refine ⟨f', ds, x, h1, fun R' h' => ?_⟩
    unfold opK; rw [hop]; simp only; rw [hcal]; simp only; rw [hd]; exact h2 R' h'
   ·cases h
  ·cases h
 all_goals first
  | (left; intro R'; rename_i hop; unfold opK; rw [hop]; exact h)
  | cases h
structure Tower (E : Env) where
 R : Nat → Run E
 L : Nat → Loops
 Rw : Run E
 Lw : Loops
 upR : ∀ k, RLe (R k) (R (k + 1))
 upL : ∀ k, LLe (L k) (L (k + 1))
 limR : ∀ f ds x, Rw f ds = some x ↔ ∃ k, R k f ds = some x
 limL : ∀ f b σ o, Lw f b σ = some o ↔ ∃ k, L k f b σ = some o
theorem RLe.trans' {R R' R'' : Run E} (h : RLe R R') (h' : RLe R' R'') : RLe R R'' := fun f ds x k => h' f ds x (h f ds x k)
theorem Tower.leR (T : Tower E) {j k : Nat} (h : j ≤ k) : RLe (T.R j) (T.R k) := by
 induction k with
 | zero =>
  have : j = 0 := by omega
  subst this; exact fun _ _ _ h => h
 | succ k ih =>
  rcases Nat.lt_or_ge k j with h' | h'
  ·have : j = k + 1 := by omega
   subst this; exact fun _ _ _ h => h
  ·exact (ih h').trans' (T.upR k)
theorem Tower.leL (T : Tower E) {j k : Nat} (h : j ≤ k) : LLe (T.L j) (T.L k) := by
 induction k with
 | zero =>
  have : j = 0 := by omega
  subst this; exact fun _ _ _ _ h => h
 | succ k ih =>
  rcases Nat.lt_or_ge k j with h' | h'
  ·have : j = k + 1 := by omega
   subst this; exact fun _ _ _ _ h => h
  ·exact fun f b σ o q => T.upL k f b σ o (ih h' f b σ o q)
theorem opK_mono {R R' : Run E} (hle : RLe R R') {mv : Bool} {g : View} {o : Oper} {us : List Up} (h : opK E R mv g o some = some us) : opK E R' mv g o some = some us := by
 rcases opK_fin h with h' | ⟨f, ds, x, h1, h2⟩
 ·exact h' R'
 ·exact h2 R' (hle f ds x h1)
theorem opsK_mono {R R' : Run E} (hle : RLe R R') {mv : List Nat} {all : List Oper} {draw : Bool} {κ κ' : List Slot → Option ρ} (hκ : ∀ l r, κ l = some r → κ' l = some r) : ∀ {os : List Oper} {i : Nat} {l : List Slot} {acc : List Rec} {r : ρ},
  opsK E R mv all draw os i l acc κ = some r → opsK E R' mv all draw os i l acc κ' = some r
 | [], i, l, acc, r, h => by
  unfold opsK at h ⊢
  split at h
  ·rename_i hd
   rw [if_pos hd]
   split at h
   ·rename_i hc; rw [if_pos hc]; exact hκ _ _ h
   ·cases h
  ·rename_i hd; rw [if_neg hd]; exact hκ _ _ h
 | o :: os, i, l, acc, r, h => by
  have hgo : ∀ {gs : List Nat} {l : List Slot}, opK E R (mv.any (Nat.beq i ·)) (viewOf l (fpOf o l)) o (fun us => opsK E R mv all draw os (i + 1) (upsL l us) (acc ++ [recOf (mv.any (Nat.beq i ·)) gs l o us]) κ) = some r →
    opK E R' (mv.any (Nat.beq i ·)) (viewOf l (fpOf o l)) o (fun us => opsK E R' mv all draw os (i + 1) (upsL l us) (acc ++ [recOf (mv.any (Nat.beq i ·)) gs l o us]) κ') = some r := fun {gs l} h => by
   rw [opK_bind] at h ⊢
   obtain ⟨us, h1, h2⟩ := Option.bind_eq_some_iff.1 h
   rw [opK_mono hle h1]
   exact opsK_mono hle hκ h2
  have hskip : ∀ {gs : List Nat} {l : List Slot}, (match o.dst with
    | some d => opsK E R mv all draw os (i + 1) (upL l (.put d .und)) (acc ++ [⟨gs, [d], [], [d], [], [d]⟩]) κ
    | none => opsK E R mv all draw os (i + 1) l (acc ++ [⟨gs, [], [], [], [], []⟩]) κ) = some r →
    (match o.dst with
    | some d => opsK E R' mv all draw os (i + 1) (upL l (.put d .und)) (acc ++ [⟨gs, [d], [], [d], [], [d]⟩]) κ'
    | none => opsK E R' mv all draw os (i + 1) l (acc ++ [⟨gs, [], [], [], [], []⟩]) κ') = some r := fun {gs l} h => by
   cases hd : o.dst with
   | some d => rw [hd] at h; exact opsK_mono hle hκ h
   | none => rw [hd] at h; exact opsK_mono hle hκ h
  unfold opsK at h ⊢
  simp only at h ⊢
  split at h
  ·exact hgo h
  ·rename_i j want hg
   split at h
   ·cases h
   ·rename_i g hgd
    split at h
    ·rename_i t hv
     cases t with
     | true =>
      simp only [cond_true] at h ⊢
      split at h
      ·rename_i hw; rw [if_pos hw]; exact hgo h
      ·rename_i hw; rw [if_neg hw]; exact hskip h
     | false =>
      simp only [cond_false] at h ⊢
      split at h
      ·rename_i hw; rw [if_pos hw]; exact hskip h
      ·rename_i hw; rw [if_neg hw]; exact hgo h
    ·exact hskip h
    ·cases h
theorem opsK_fin (T : Tower E) {mv : List Nat} {all : List Oper} {draw : Bool} {κ : Nat → List Slot → Option ρ} {κw : List Slot → Option ρ} (hup : ∀ j k, j ≤ k → ∀ l r, κ j l = some r → κ k l = some r) (hκ : ∀ l r, κw l = some r → ∃ k, κ k l = some r) :
  ∀ {os : List Oper} {i : Nat} {l : List Slot} {acc : List Rec} {r : ρ}, opsK E T.Rw mv all draw os i l acc κw = some r → ∃ k, opsK E (T.R k) mv all draw os i l acc (κ k) = some r
 | [], i, l, acc, r, h => by
  unfold opsK at h ⊢
  split at h
  ·rename_i hd
   simp only [hd, if_true]
   split at h
   ·rename_i hc; simp only [hc, if_true]; exact hκ _ _ h
   ·cases h
  ·rename_i hd
   simp only [hd]; exact hκ _ _ h
 | o :: os, i, l, acc, r, h => by
  have hgo : ∀ {gs : List Nat} {l : List Slot}, opK E T.Rw (mv.any (Nat.beq i ·)) (viewOf l (fpOf o l)) o (fun us => opsK E T.Rw mv all draw os (i + 1) (upsL l us) (acc ++ [recOf (mv.any (Nat.beq i ·)) gs l o us]) κw) = some r →
    ∃ k, opK E (T.R k) (mv.any (Nat.beq i ·)) (viewOf l (fpOf o l)) o (fun us => opsK E (T.R k) mv all draw os (i + 1) (upsL l us) (acc ++ [recOf (mv.any (Nat.beq i ·)) gs l o us]) (κ k)) = some r := fun {gs l} h => by
   rw [opK_bind] at h
   obtain ⟨us, h1, h2⟩ := Option.bind_eq_some_iff.1 h
   obtain ⟨k2, h2⟩ := opsK_fin T hup hκ h2
   have h1' : ∃ k1, opK E (T.R k1) (mv.any (Nat.beq i ·)) (viewOf l (fpOf o l)) o some = some us := by
    rcases opK_fin h1 with h' | ⟨f, ds, x, q1, q2⟩
    ·exact ⟨0, h' _⟩
    ·obtain ⟨k1, q1⟩ := (T.limR f ds x).1 q1
     exact ⟨k1, q2 _ q1⟩
   obtain ⟨k1, h1'⟩ := h1'
   refine ⟨max k1 k2, ?_⟩
   rw [opK_bind, opK_mono (T.leR (Nat.le_max_left k1 k2)) h1']
   exact opsK_mono (T.leR (Nat.le_max_right k1 k2)) (hup _ _ (Nat.le_max_right k1 k2)) h2
  have hskip : ∀ {gs : List Nat} {l : List Slot}, (match o.dst with
    | some d => opsK E T.Rw mv all draw os (i + 1) (upL l (.put d .und)) (acc ++ [⟨gs, [d], [], [d], [], [d]⟩]) κw
    | none => opsK E T.Rw mv all draw os (i + 1) l (acc ++ [⟨gs, [], [], [], [], []⟩]) κw) = some r →
    ∃ k, (match o.dst with
    | some d => opsK E (T.R k) mv all draw os (i + 1) (upL l (.put d .und)) (acc ++ [⟨gs, [d], [], [d], [], [d]⟩]) (κ k)
    | none => opsK E (T.R k) mv all draw os (i + 1) l (acc ++ [⟨gs, [], [], [], [], []⟩]) (κ k)) = some r := fun {gs l} h => by
   cases hd : o.dst with
   | some d => rw [hd] at h; exact opsK_fin T hup hκ h
   | none => rw [hd] at h; exact opsK_fin T hup hκ h
  unfold opsK at h ⊢
  simp only at h ⊢
  split at h
  ·exact hgo h
  ·rename_i j want hg
   split at h
   ·cases h
   ·rename_i g hgd
    split at h
    ·rename_i t hv
     cases t with
     | true =>
      simp only [cond_true] at h ⊢
      split at h
      ·rename_i hw; simp only [hw, if_true]; exact hgo h
      ·rename_i hw; simp only [hw]; exact hskip h
     | false =>
      simp only [cond_false] at h ⊢
      split at h
      ·rename_i hw; simp only [hw, if_true]; exact hskip h
      ·rename_i hw; simp only [hw]; exact hgo h
    ·exact hskip h
    ·cases h
end
end Go.Rf

end
