/- An interpreter of the code over plain data, proved right against the machine: part 2. No condition. -/
import Derived.Test.YtpnhinlcggjjkaaGreatRfA
import Derived.Laws.StructEq
import Derived.Laws.Cover3
import Derived.Laws.AppendOwn
import Derived.Laws.Tables
import Derived.Great.BuildSlice
set_option linter.unusedVariables false
set_option linter.unusedSimpArgs false
section
namespace Go.Rf
set_option linter.unusedSectionVars false
variable [T : Laid]
section
variable {P : Program} {H : Nat → Option (List Value)} {N : Nat} {g g' σ : zY} {V V' : Nat → Option Value} {w w' : World} {S S' : Nat → Prop} {β β' : Key → Option Nat} {a : Act} {o : Oper}
variable {E : Env} {gv : zY} {us : List Up}
theorem BR6 (a b : Int) : (a == b) = eqI a b := by
 unfold eqI; rw [Bool.eq_iff_iff]; simp
theorem BL5 (a b : List UInt8) : (a == b) = eqS a b := by
 unfold eqS; rw [Bool.eq_iff_iff]; simp
theorem BC4 (a b : List UInt8) : (ByteArray.toList ⟨⟨a⟩⟩ == ByteArray.toList ⟨⟨b⟩⟩) = eqS a b := by
 rw [ByteArray.toList_mk, ByteArray.toList_mk]; exact BL5 a b
theorem A1a {k m d : Nat} (IH : ∀ (t : TypeId) (τ : Ty) (x y : τ.D) (cx cy : List Value), BQ7 P m t = true → tyN P k t = some τ → Rd S w τ x cx → Rd S w τ y cy → (Op.equalIn d t (zX τ cx) (zX τ cy)).run P w = .ok (eqD τ x y) w) {cx cy : List Value} :
  ∀ (fs : List Field) (off : Nat) (τ : Ty) (x y : τ.D), off ≤ cx.length → off ≤ cy.length → pW (tyN P k) fs off = some τ → (∀ f ∈ fs, f.name ≠ "_" ∧ BQ7 P m f.type = true) → Rd S w τ x (cx.drop off) → Rd S w τ y (cy.drop off) →
   (Op.eqFields d cx.toArray cy.toArray fs).run P w = .ok (eqD τ x y) w
 | [], off, τ, x, y, _, _, hc, hall, hx, hy => by
  simp only [pW, Option.some.injEq] at hc
  subst hc
  simp [Op.eqFields, eqD]
 | f :: fs, off, τ, x, y, ox, oy, hc, hall, hx, hy => by
  simp only [pW] at hc
  split at hc
  ·rename_i b hb
   split at hc
   ·rename_i ho
    have ho : f.offset = off := by simpa [Nat.beq_eq] using ho
    obtain ⟨r, hr, rfl⟩ := Option.map_eq_some_iff.1 hc
    obtain ⟨hn, hk⟩ := hall f (List.mem_cons_self ..)
    simp only [Rd] at hx hy
    have lx := tP hx.1
    have ly := tP hy.1
    have e1 : (cx.drop off).take b.size = win cx off b.size := rfl
    have e2 : (cy.drop off).take b.size = win cy off b.size := rfl
    rw [e1] at hx lx
    rw [e2] at hy ly
    have bx : off + b.size ≤ cx.length := by simp [win] at lx; omega
    have by' : off + b.size ≤ cy.length := by simp [win] at ly; omega
    obtain ⟨k', rfl⟩ : ∃ k', k = k' + 1 := by
     cases k with
     | zero => simp [tyN] at hb
     | succ k' => exact ⟨k', rfl⟩
    have px : (part f.type cx.toArray f.offset).run P w = .ok (zX b (win cx off b.size)) w := by
     rw [ho]; exact Ab6 hb bx
    have py : (part f.type cy.toArray f.offset).run P w = .ok (zX b (win cy off b.size)) w := by
     rw [ho]; exact Ab6 hb by'
    have hi := IH f.type b x.1 y.1 _ _ hk hb hx.1 hy.1
    have hrest := A1a IH fs (off + b.size) r x.2 y.2 bx by' hr (fun g hg => hall g (List.mem_cons_of_mem _ hg)) (by rw [← List.drop_drop]; exact hx.2) (by rw [← List.drop_drop]; exact hy.2)
    simp only [Op.eqFields, hn, ne_eq, not_false_eq_true, if_true, Sem.run_bind, px, py, hi, Result.andThen_ok]
    show _ = Result.ok (eqD b x.1 y.1 && eqD r x.2 y.2) w
    cases eqD b x.1 y.1 with
    | false => simp
    | true => simpa using hrest
   ·cases hc
  ·cases hc
theorem A1E : ∀ (m k d : Nat) (t : TypeId) (τ : Ty) (x y : τ.D) (cx cy : List Value), BQ7 P m t = true → tyN P k t = some τ → m ≤ d → Rd S w τ x cx → Rd S w τ y cy → (Op.equalIn d t (zX τ cx) (zX τ cy)).run P w = .ok (eqD τ x y) w
 | 0, _, _, _, _, _, _, _, _, h, _, _, _, _ => by simp [BQ7] at h
 | m + 1, 0, _, _, _, _, _, _, _, _, h, _, _, _ => by simp [tyN] at h
 | m + 1, k + 1, 0, _, _, _, _, _, _, _, _, h, _, _ => by omega
 | m + 1, k + 1, d + 1, t, τ, x, y, cx, cy, hok, ht, hd, hx, hy => by
  obtain ⟨i, u, h1, h2, h3, h4⟩ := oV ht
  unfold BQ7 at hok
  rw [h2] at hok
  unfold oK at h4
  cases u <;> simp only [reduceCtorEq, Bool.false_eq_true] at hok h4
  case int j =>
   subst h4
   simp only [Rd] at hx hy
   subst hx; subst hy
   show (Op.equalIn (d + 1) t (.int j x) (.int j y)).run P w = _
   rw [run_equalIn_int w d t j j x y h2]
   exact congrArg (fun z => Result.ok z w) (BR6 x y)
  case bool =>
   subst h4
   simp only [Rd] at hx hy
   subst hx; subst hy
   show (Op.equalIn (d + 1) t (.bool x) (.bool y)).run P w = _
   rw [run_equalIn_bool' w d t x y h2]
   cases x <;> cases y <;> rfl
  case string =>
   subst h4
   simp only [Rd] at hx hy
   subst hx; subst hy
   show (Op.equalIn (d + 1) t (.string ⟨⟨x⟩⟩) (.string ⟨⟨y⟩⟩)).run P w = _
   rw [run_equalIn_string w d t _ _ h2]
   exact congrArg (fun z => Result.ok z w) (BC4 x y)
  case struct fs =>
   simp only [Bool.and_eq_true, Bool.not_eq_true', List.all_eq_true, bne_iff_ne, ne_eq] at hok
   have hag : τ.agg = true := by rcases qX h4 with e | ⟨_, _, e⟩ <;> rw [e] <;> rfl
   have hf : P.fieldsOf t = fs := by unfold Program.fieldsOf; rw [h2]
   unfold zX
   rw [hag]
   show (Op.equalIn (d + 1) t (.agg cx.toArray) (.agg cy.toArray)).run P w = _
   rw [run_equalIn_struct w d t _ _ (by rw [hf]; exact h2) hok.1, hf]
   exact A1a (fun t τ x y cx cy e1 e2 e3 e4 => A1E m k d t τ x y cx cy e1 e2 (by omega) e3 e4) fs.toList 0 τ x y (Nat.zero_le _) (Nat.zero_le _) h4 (fun f hf => ⟨(hok.2 f hf).1, (hok.2 f hf).2⟩) hx hy
theorem A5N {op : BinOp} {t tq : TypeId} {x y : Operand} (hc : Ctx E.P H S β a w o g) (hs : Sub gv g) (ho : o.op = .binOp op t x y tq)
  (hk : BT4 E op t (sv gv x) (sv gv y) (fun d => qK o [] (.dat d) some) = some us) : yJ E.P H S β a w o (g.ups us) := by
 unfold BT4 at hk
 split at hk
 ·rename_i A B p A' B' q hx hy
  split at hk
  ·rename_i q' hq
   unfold mB at hq
   split at hq
   ·rename_i e
    have free : ∀ (z : Operand) (τ : Ty) (v : τ.D), sv gv z = .dat ⟨τ, v, .sh⟩ → ∃ c, Rd S w τ v c ∧ a.eval z = zX τ c := by
     intro z τ v hz
     rcases nI hc.rel (hs.sv hz (by simp)) with ⟨s, rfl, hs'⟩ | ⟨_, c, hcc, hr⟩
     ·obtain ⟨c, hv, hV⟩ := hc.rel.dat hs'
      rw [yM] at hv
      exact ⟨c, hv, zJ hV⟩
     ·exact ⟨c, hr, zJ hcc⟩
    obtain ⟨c1, r1, e1⟩ := free x _ p hx
    obtain ⟨c2, r2, e2⟩ := free y _ q hy
    cases e
    simp only [Option.some.injEq] at hq
    subst hq
    split at hk
    ·rename_i hcond
     obtain ⟨ht, hok, hg⟩ := hcond
     have hrun := A1E (P := E.P) (S := S) (w := w) 8 8 10000 t _ p q c1 c2 hok ht (by omega) r1 r2
     have hgd : (eqGuard op t x y (.agg c1.toArray) (.agg c2.toArray)).run E.P w = .ok () w := run_eqGuard_agg w op t x y _ _ hg
     have hrun : (Op.equalIn 10000 t (.agg c1.toArray) (.agg c2.toArray)).run E.P w = .ok (eqD (.pair A B) p q) w := hrun
     split at hk
     ·refine DV.bool.look hc.rel hc.dead hc.opIn hk (dD ⟨_, ho⟩ e1 e2 hgd ?_)
      show (binOp .eql t (.agg c1.toArray) (.agg c2.toArray)).run E.P w = _
      rw [run_eql_struct, hrun]; rfl
     ·refine DV.bool.look hc.rel hc.dead hc.opIn hk (dD ⟨_, ho⟩ e1 e2 hgd ?_)
      show (binOp .neq t (.agg c1.toArray) (.agg c2.toArray)).run E.P w = _
      rw [run_neq_struct, hrun]; rfl
     ·cases hk
    ·cases hk
   ·cases hq
  ·cases hk
 ·exact A5v hc hs ho hk
theorem A56 {op : BinOp} {t tq : TypeId} {x y : Operand} (hc : Ctx E.P H S β a w o g) (hs : Sub gv g) (ho : o.op = .binOp op t x y tq) (hy : A60 y = true)
  (hk : BS8 gv o op (E.ty t) x some = some us) : yJ E.P H S β a w o (g.ups us) := by
 have hyv : a.eval y = .slice none 0 0 := by
  unfold A60 at hy
  split at hy
  ·rfl
  ·cases hy
 have key : ∀ (τ τ' : Ty) (z : (Ty.sl τ').D) (f : Fl), E.ty t = some (.sl τ) → yR gv (sv gv x) = some ⟨.sl τ', z, f⟩ → ∃ ad l cap e, a.eval x = .slice ad l cap ∧ E.P.underlying t = some (.slice e) ∧ (Nat.beq (List.length z) 0 = false → ad.isNone = false) := by
  intro τ τ' z f h1 h2
  obtain ⟨c, hv, hr⟩ := sB hc.rel (uV hs h2)
  simp only [Rd] at hr
  obtain ⟨ad, cap, rfl, _, hz⟩ := hr
  obtain ⟨i, u, _, q2, _, q4⟩ := oV (P := E.P) h1
  unfold oK at q4
  cases u <;> simp only [reduceCtorEq, exists_false, and_false] at q4
  case slice e =>
   refine ⟨ad, _, cap, e, zJ hv, q2, fun hl => ?_⟩
   rcases hz with rfl | ⟨b, o, cs, rfl, _⟩
   ·cases hl
   ·rfl
  case struct fs =>
   exfalso
   rcases qX q4 with e | ⟨_, _, e⟩ <;> cases e
 unfold BS8 at hk
 have fin : ∀ b : Bool, (execOp a.eval o).run E.P w = .ok (.value (.bool b)) w → qK o [] .unk some = some us → yJ E.P H S β a w o (g.ups us) := by
  intro b hr hk
  obtain ⟨dd, hdst, rfl⟩ := yK hk
  have hd : dd < a.tmps.size := by
   have hi := hc.opIn
   unfold opIn at hi; rw [hdst] at hi
   simp only [Bool.and_eq_true] at hi
   simpa [Nat.blt_eq] using hi.1
  exact AV8 hc.rel hc.dead hdst hd hr (by simp only [qE]; exact ⟨b, by simp [upd]⟩)
 split at hk
 ·rename_i h1 h2
  obtain ⟨ad, l, cap, e, ex, hu, hn⟩ := key _ _ _ _ h1 h2
  have hr := dD (P := E.P) (w := w) (o := o) (ρ := a.eval) (val := .bool ad.isNone) ⟨_, ho⟩ ex hyv (by simp [eqGuard]) (by
   simp only [binOp]
   simp [run_equal_slice_nil w t e ad l cap hu])
  revert hk
  cases hb : Nat.beq _ 0 with
  | true => exact fun hk => fin _ hr hk
  | false => exact fun hk => DV.bool.look hc.rel hc.dead hc.opIn hk (by rw [← hn hb]; exact hr)
 ·rename_i h1 h2
  obtain ⟨ad, l, cap, e, ex, hu, hn⟩ := key _ _ _ _ h1 h2
  have hr := dD (P := E.P) (w := w) (o := o) (ρ := a.eval) (val := .bool (!ad.isNone)) ⟨_, ho⟩ ex hyv (by simp [eqGuard]) (by
   simp only [binOp]
   simp [run_equal_slice_nil w t e ad l cap hu])
  revert hk
  cases hb : Nat.beq _ 0 with
  | true => exact fun hk => fin _ hr hk
  | false => exact fun hk => DV.bool.look hc.rel hc.dead hc.opIn hk (by rw [show true = !ad.isNone by rw [hn hb]; rfl]; exact hr)
 ·cases hk
end
end Go.Rf

end
section
namespace Go.Rf
set_option linter.unusedSectionVars false
variable [T : Laid]
section
variable {P : Program} {H : Nat → Option (List Value)} {N : Nat} {g g' σ : zY} {V V' : Nat → Option Value} {w w' : World} {S S' : Nat → Prop} {β β' : Key → Option Nat} {a : Act} {o : Oper}
variable {E : Env} {gv : zY} {us : List Up}
theorem xO {n d : Nat} (h : opIn n o = true) (ho : o.dst = some d) : d < n := by
 unfold opIn at h; rw [ho] at h
 simp only [Bool.and_eq_true] at h
 simpa [Nat.blt_eq] using h.1
theorem Rel.land {g1 : zY} {V1 : Nat → Option Value} {n d : Nat} {e : Dat} {val : Value} (h : Rel H N g1 V1 w S β) (hn : (g1 n).sv = .dat e) (hN : N ≤ n) (hval : V1 n = some val)
  (hg : ∀ i, i < N → g1 i = g i) (hD : yH N g) (hV : ∀ i, i < N → V1 i = V i) (hd : d < N) : Rel H N (g.up (.put d (.dat e))) (upd V d val) w S (Rf.rekey β [n] [d]) := by
 obtain ⟨c, hv, hc⟩ := h.dat hn
 have h1 : Rel H N (g1.up (.put n .dead)) V1 w S β := h.kill fun _ _ => rfl
 refine h1.finish (V1 := V1) (fun i hi => ?_) hD hV hd (h1.sane.rekey _ _) (fun b hb => ⟨hb, rfl⟩) (fun j s b hj ha hb => ⟨?_, rfl⟩) ⟨c, pG hv, ?_⟩
 ·rw [rP (by omega)]; exact hg i hi
 ·have hjn : j ≠ n := fun e' => by subst e'; exact ha (by rw [vR])
  rw [wS (yD hj) (yD hjn)]; exact hb
 ·rw [hval] at hc
  simp only [upd, if_true, Option.some.injEq] at hc ⊢
  exact hc
theorem gB {n i : Nat} {d : Dat} (h : i ≠ n) : upN g n d i = g i := rP h
theorem gL {n : Nat} {d : Dat} : (upN g n d n).sv = .dat d := by rw [upN, vR]
theorem fB {mv : Bool} {t : Option Ty} {x : Operand} {d : Dat} {us : List Up} (ht : take g mv t x (sv g x) = some (d, us)) : ∀ u ∈ us, (g u.slot).sv ≠ .dead := by
 cases hv : sv g x with
 | dead => rw [hv] at ht; simp [take] at ht
 | und => rw [hv] at ht; simp [take] at ht
 | unk => rw [hv] at ht; simp [take] at ht
 | tup d => rw [hv] at ht; simp [take] at ht
 | adr _ _ _ _ => rw [hv] at ht; simp [take] at ht
 | nils =>
  rw [hv] at ht
  simp only [take] at ht
  split at ht
  ·simp only [Option.some.injEq, Prod.mk.injEq] at ht; rw [← ht.2]; simp
  ·cases ht
 | clo f rs =>
  rw [hv] at ht
  cases rs with
  | nil => simp only [take, Option.some.injEq, Prod.mk.injEq] at ht; rw [← ht.2]; simp
  | cons a rs => simp [take] at ht
 | dat e =>
  rw [hv] at ht
  simp only [take] at ht
  split at ht
  ·simp only [Option.some.injEq, Prod.mk.injEq] at ht; rw [← ht.2]; simp
  ·split at ht
   ·split at ht
    ·rename_i s
     simp only [Option.some.injEq, Prod.mk.injEq] at ht; rw [← ht.2]
     have : (g s).sv = .dat e := hv
     simp [Up.slot, this]
    ·cases ht
   ·cases ht
 | als r p c s =>
  rw [hv] at ht
  simp only [take] at ht
  split at ht
  ·split at ht
   ·rename_i e he
    split at ht
    ·split at ht
     ·simp only [Option.some.injEq, Prod.mk.injEq] at ht; rw [← ht.2]; simp
     ·split at ht
      ·split at ht <;> simp only [Option.some.injEq, Prod.mk.injEq] at ht <;> rw [← ht.2] <;> simp [Up.slot, he]
      ·cases ht
    ·cases ht
   ·cases ht
  ·cases ht
 | pend r p c s u e =>
  rw [hv] at ht
  simp only [take] at ht
  split at ht
  ·rename_i j
   split at ht
   ·split at ht
    ·rename_i e' he
     simp only [Option.some.injEq, Prod.mk.injEq] at ht; rw [← ht.2]
     have : (g j).sv = _ := hv
     simp [Up.slot, he, this]
    ·cases ht
   ·cases ht
  ·cases ht
theorem BK8 {mv : Bool} {t : Option Ty} {x : Operand} {d : Dat} {dd : Nat} (hc : Ctx P H S β a w o g) (hs : Sub gv g) (ht : take gv mv t x (sv gv x) = some (d, us)) (ho : o.dst = some dd)
  (hr : ∀ v, a.eval x = v → (execOp a.eval o).run P w = .ok (.value v) w) : yJ P H S β a w o (g.ups (us ++ [.put dd (.dat d)])) := by
 obtain ⟨ht', _⟩ := dP hs ht
 obtain ⟨S1, β1, c, h1, h2, h3, h4⟩ := gZ hc.rel ht' (n := a.tmps.size) (hc.dead _ (Nat.le_refl _)) (Nat.le_refl _)
 intro K Q hK
 have hd := xO hc.opIn ho
 have hD : yH a.tmps.size (g.ups us) := hc.dead.ups fun u hu => hc.dead.lt (fB ht' u hu)
 refine tD (hr _ (zJ h3)) (hK _ _ S1 (rekey β1 [a.tmps.size] [dd]) wW yS ?_ (h2.trans (.rekey _ _)))
 rw [ho, vS hd, yW]
 exact h1.land gL (Nat.le_refl _) (by simp [upd]) (fun i hi => gB (by omega)) hD (fun i hi => by simp only [upd]; rw [if_neg (by omega)]) hd
theorem A81 {d r c s : Nat} {p : List PS} {v : SV} {val : Value} (h0 : r < N) (h1 : c ≤ (g r).c) (h2 : s ≤ (g r).s) (h : okA g r c s = true → Bd2 g V w r p (some val)) :
  qE H N (g.up (.put d v)) (upd V d val) w S β d (.als r p c s) := by
 refine ⟨h0, ?_⟩
 by_cases e : r = d
 ·subst e
  refine ⟨by rw [vR]; simp; omega, by rw [vR]; simp; omega, fun ok => ?_⟩
  have := (aI.1 ok).2
  rw [vR] at this; simp at this; omega
 ·refine ⟨by rw [rP e]; exact h1, by rw [rP e]; exact h2, fun ok dr hdr => ?_⟩
  rw [rP e] at hdr
  rw [Sub.okA (rP e)] at ok
  obtain ⟨cr, d', L, c', k1, k⟩ := h ok dr hdr
  refine ⟨cr, d', L, c', by simp only [upd]; rw [if_neg e]; exact k1, ?_⟩
  simpa [upd] using k
theorem A33 {d r c s : Nat} {p : List PS} {v : SV} {val : Value} (h0 : r < N) (h1 : c ≤ (g r).c) (h2 : s ≤ (g r).s) (h : okB g r p c s = true → Bc8 g V w r p (some val)) :
  qE H N (g.up (.put d v)) (upd V d val) w S β d (.adr r p c s) := by
 refine ⟨h0, ?_⟩
 by_cases e : r = d
 ·subst e
  refine ⟨by rw [vR]; simp; omega, by rw [vR]; simp; omega, fun ok => ?_⟩
  have := (eE.1 ok).1
  rw [vR] at this; simp at this; omega
 ·refine ⟨by rw [rP e]; exact h1, by rw [rP e]; exact h2, fun ok dr hdr => ?_⟩
  rw [rP e] at hdr
  rw [Sub.okB (rP e)] at ok
  obtain ⟨cr, t, b, o, k1, k⟩ := h ok dr hdr
  refine ⟨cr, t, b, o, by simp only [upd]; rw [if_neg e]; exact k1, ?_⟩
  simpa [upd] using k
theorem A3g {d : Nat} {f : FuncId} {rs : List (Nat × Nat)} {v : SV} {val : Value} (h1 : ∀ x ∈ rs, x.1 < N ∧ x.2 ≤ (g x.1).s) (h : (∀ x ∈ rs, (g x.1).s = x.2) → Bh5 V f rs (some val)) :
  qE H N (g.up (.put d v)) (upd V d val) w S β d (.clo f rs) := by
 have hmem : ∀ x ∈ rs, x.2 ≤ ((g.up (.put d v)) x.1).s ∧ (((g.up (.put d v)) x.1).s = x.2 → x.1 ≠ d ∧ (g x.1).s = x.2) := fun x hx => by
  have := (h1 x hx).2
  by_cases e : x.1 = d
  ·rw [e, vR]
   rw [e] at this
   simp only
   exact ⟨by omega, fun h => by omega⟩
  ·rw [rP e]; exact ⟨this, fun h => ⟨e, h⟩⟩
 refine ⟨fun x hx => ⟨(h1 x hx).1, (hmem x hx).1⟩, fun hall vs hvs => ?_⟩
 have : (upd V d val) d = some val := by simp [upd]
 rw [this]
 refine h (fun x hx => ((hmem x hx).2 (hall x hx)).2) vs ?_
 rw [← hvs]
 refine List.map_congr_left fun x hx => ?_
 simp only [upd]; rw [if_neg ((hmem x hx).2 (hall x hx)).1]
theorem yH.root (hD : yH N g) {r : Nat} {e : Dat} (he : (g r).sv = .dat e) : r < N := hD.lt (by rw [he]; simp)
theorem A1g {d r : Nat} {p : List PS} {v : SV} {val : Value} {e dd : Dat} {cr c : List Value} {L : Loc} (hr : r < N) (he : (g r).sv = .dat e) (hg : yO p e.t e.f e.x = some dd) (hn : dd.f.base ≠ .gone) (hb : inB p e.t e.x)
  (hV : V r = some (zX e.t cr)) (hl : cr.length = e.t.size) (hw : vT w e.t (.reg cr) p = some (dd.t, L)) (hc : zF w dd.t.size L = some c) (hv : val = zX dd.t c) :
  qE H N (g.up (.put d v)) (upd V d val) w S β d (AR3 g (r, p)) := by
 refine A81 hr (Nat.le_refl _) (Nat.le_refl _) fun _ dr hdr => ?_
 rw [he] at hdr
 simp only [SV.dat.injEq] at hdr
 subst hdr
 exact ⟨cr, dd, L, c, hV, hl, hg, hn, hb, hw, hc, by rw [hv]⟩
theorem AR8 {k : Key} {t : Ty} {f : Fl} {y : (Ty.ptr t).D} {c : List Value} (hf : f.base ≠ .gone) (h : zP S β H w k (.ptr t) f y c) : ∃ b, c = [.pointer (some ⟨b, 0, none⟩)] := by
 simp only [zP] at h
 replace h := h.2
 cases hb : f.base with
 | own e => rw [hb] at h; obtain ⟨b, cs, rfl, _⟩ := h; exact ⟨b, rfl⟩
 | gone => exact absurd hb hf
 | _ => rw [hb] at h; simp only [Rd] at h; obtain ⟨b, cs, rfl, _⟩ := h; exact ⟨b, rfl⟩
theorem Af9 {x : Operand} {ad : Addr} (ho : o.op = .nilCheck x) (hx : a.eval x = .pointer (some ad)) : (execOp a.eval o).run P w = .ok (.value (.pointer (some ad))) w := by
 simp [execOp, ho, hx]
theorem A4i {x : Operand} (ho : o.op = .move x ∨ o.op = .assign x) : (execOp a.eval o).run P w = .ok (.value (a.eval x)) w := by
 rcases ho with ho | ho <;> simp [execOp, ho]
theorem A4n {i r c s d : Nat} {p : List PS} {val : Value} (hc : Ctx P H S β a w o g) (hi : (g i).sv = .als r p c s) (hv : qR a i = some val) (ho : o.dst = some d)
  (hr : (execOp a.eval o).run P w = .ok (.value val) w) : yJ P H S β a w o (g.ups [.put d (.als r p c s)]) := by
 have hss := hc.rel.slots i
 rw [hi] at hss
 obtain ⟨h0, h1, h2, h3⟩ := hss
 exact AV8 hc.rel hc.dead ho (xO hc.opIn ho) hr (A81 h0 h1 h2 (by rw [hv] at h3; exact h3))
theorem Ax4 {i r c s d : Nat} {p : List PS} {val : Value} (hc : Ctx P H S β a w o g) (hi : (g i).sv = .adr r p c s) (hv : qR a i = some val) (ho : o.dst = some d)
  (hr : (execOp a.eval o).run P w = .ok (.value val) w) : yJ P H S β a w o (g.ups [.put d (.adr r p c s)]) := by
 have hss := hc.rel.slots i
 rw [hi] at hss
 obtain ⟨h0, h1, h2, h3⟩ := hss
 exact AV8 hc.rel hc.dead ho (xO hc.opIn ho) hr (A33 h0 h1 h2 (by rw [hv] at h3; exact h3))
theorem mH {s : Nat} (hs : s < a.tmps.size) : qR a s = some (a.eval (.tmp s)) := by
 simp [qR, Act.eval, hs]
theorem Aq5 {s d : Nat} {e : Dat} {val : Value} (hc : Ctx P H S β a w o g) (hs : (g s).sv = .dat e) (hn : e.f.base ≠ .gone) (hv : qR a s = some val) (ho : o.dst = some d)
  (hr : (execOp a.eval o).run P w = .ok (.value val) w) : yJ P H S β a w o (g.ups [.put d (AR3 g (s, []))]) := by
 obtain ⟨c, hvr, hV⟩ := hc.rel.dat hs
 have hl := zS hvr
 refine AV8 hc.rel hc.dead ho (xO hc.opIn ho) hr ?_
 rw [hv] at hV
 exact A1g (hc.dead.root hs) hs rfl hn (by simp [inB]) (hv.trans hV) hl rfl (by simp [zF, hl]) (Option.some.inj hV)
theorem A9V {s d : Nat} {t : Ty} {y : t.D} {f : Fl} {val : Value} (hc : Ctx P H S β a w o g) (hs : (g s).sv = .dat ⟨.ptr t, y, .own f⟩) (hv : qR a s = some val) (ho : o.dst = some d)
  (hr : (execOp a.eval o).run P w = .ok (.value val) w) : yJ P H S β a w o (g.ups [.put d (.adr s [.der] 0 (g s).s)]) := by
 obtain ⟨c, hvr, hV⟩ := hc.rel.dat hs
 refine AV8 hc.rel hc.dead ho (xO hc.opIn ho) hr (A33 (hc.dead.root hs) (Nat.zero_le _) (Nat.le_refl _) fun _ dr hdr => ?_)
 rw [hs] at hdr
 cases hdr
 have hvr' := hvr
 simp only [zP, Fl.base] at hvr'
 obtain ⟨_, b, cs, rfl, _⟩ := hvr'
 rw [hv] at hV
 exact ⟨_, t, b, 0, hv.trans hV, zS hvr, by simp [vT, xT, zF], hV, by simp [inB], fun h => by simp [gK, jumps] at h⟩
theorem A3w {mv : Bool} {t : Option Ty} {x : Operand} (hc : Ctx P H S β a w o g) (hs : Sub gv g) (hm : o.op = .move x)
  (hk : A3d gv mv o t x some = some us) : yJ P H S β a w o (g.ups us) := by
 have hr := A4i (P := P) (w := w) (a := a) (.inl hm)
 unfold A3d at hk
 split at hk
 ·rename_i s hs1
  obtain ⟨dd, ho, rfl⟩ := yK hk
  unfold AL1 at hs1
  split at hs1
  ·rename_i s'
   split at hs1
   ·rename_i hp
    cases hs1
    simp only [Bool.and_eq_true] at hp
    obtain ⟨t', ht'⟩ := Option.isSome_iff_exists.1 hp.2
    unfold Ap9 at ht'
    split at ht'
    ·rename_i t1 y f hx
     have hsub : g s = gv s := hs.get hx (by simp)
     have hs' : (g s).sv = .dat ⟨.ptr t1, y, .own f⟩ := by rw [hsub]; exact hx
     rw [← hsub]
     exact A9V hc hs' (mH (hc.dead.root hs')) ho hr
    ·cases ht'
   ·cases hs1
  ·cases hs1
 rename_i hnn; clear hnn
 split at hk
 ·rename_i d hx
  have hx' := hs.sv hx (by simp)
  split at hk
  ·rename_i hf
   have hf := vQ hf
   rcases nI hc.rel hx' with ⟨s, rfl, hs'⟩ | ⟨_, c, hcc, hrd⟩
   ·obtain ⟨c, hv, hV⟩ := hc.rel.dat hs'
    rw [hf, yM] at hv
    exact DV.look ⟨hf, c, hv, zJ (x := .tmp s) hV⟩ hc.rel hc.dead hc.opIn hk hr
   ·exact DV.look ⟨hf, c, hrd, zJ hcc⟩ hc.rel hc.dead hc.opIn hk hr
  ·split at hk
   ·cases hk
   ·rename_i hg
    split at hk
    ·rename_i s
     obtain ⟨dd, ho, rfl⟩ := yK hk
     have hsub : g s = gv s := hs.get hx (by simp)
     have hs' : (g s).sv = .dat d := by rw [hsub]; exact hx
     have := Aq5 hc hs' (uT (by simpa using hg)) (mH (hc.dead.root hs')) ho hr
     have e : AR3 gv (s, []) = AR3 g (s, []) := by simp [AR3, hsub]
     rw [e]; exact this
    ·cases hk
 ·rename_i r p c s hx
  obtain ⟨dd, ho, rfl⟩ := yK hk
  obtain ⟨i, rfl, hi⟩ := uP (hs.sv hx (by simp)) (by simp) (by simp) (by simp)
  exact A4n hc hi (mH (hc.dead.lt (by rw [hi]; simp))) ho hr
 ·rename_i r p c s hx
  obtain ⟨dd, ho, rfl⟩ := yK hk
  obtain ⟨i, rfl, hi⟩ := uP (hs.sv hx (by simp)) (by simp) (by simp) (by simp)
  exact Ax4 hc hi (mH (hc.dead.lt (by rw [hi]; simp))) ho hr
 ·rename_i f rs hx
  obtain ⟨dd, ho, rfl⟩ := yK hk
  obtain ⟨i, rfl, hi⟩ := uP (hs.sv hx (by simp)) (by simp) (by simp) (by simp)
  have hss := hc.rel.slots i
  rw [hi] at hss
  obtain ⟨h1, h2⟩ := hss
  refine AV8 hc.rel hc.dead ho (xO hc.opIn ho) hr (A3g h1 ?_)
  rw [mH (hc.dead.lt (by rw [hi]; simp))] at h2
  exact h2
 ·rename_i r p c s u d hx
  split at hk
  ·rename_i j e ho
   split at hk
   ·cases hk
   ·rename_i hje
    simp only [Nat.beq_eq] at hje
    simp only [Option.some.injEq] at hk; subst hk
    have hj : (g j).sv = .pend r p c s u d := by
     have := hs.sv hx (by simp)
     exact this
    have hjN := hc.dead.lt (show (g j).sv ≠ .dead by rw [hj]; simp)
    have hd := xO hc.opIn ho
    have hss := hc.rel.slots j
    rw [hj] at hss
    obtain ⟨h0, h1, h2, h3, h4⟩ := hss
    intro K Q hK
    refine tD hr (hK _ _ S (rekey β [j] [e]) wW yS ?_ (.rekey _ _))
    rw [ho, vS hd]
    have hk1 : Rel H a.tmps.size (g.up (.put j .dead)) (qR a) w S β := hc.rel.kill fun _ _ => rfl
    refine hk1.finish (fun _ _ => rfl) (hc.dead.up hjN) (fun _ _ => rfl) hd (hc.rel.sane.rekey _ _) (fun b hb => ⟨hb, rfl⟩) (fun i s b hi ha hb => ⟨?_, rfl⟩) ?_
    ·have hij : i ≠ j := fun e' => by subst e'; exact ha (by rw [vR])
     rw [wS (yD hi) (yD hij)]; exact hb
    ·have hrj : ∀ dr, (g r).sv = .dat dr → r ≠ j := fun dr hdr e' => by rw [e', hj] at hdr; cases hdr
     refine ⟨h0, ?_⟩
     by_cases hre : r = e
     ·subst hre
      rw [vR]
      have hh : (g.up (.put j .dead)) r = g r := rP (fun e' => hje e'.symm)
      rw [hh]
      refine ⟨by simp; omega, by simp; omega, by simp; omega, fun ok => ?_⟩
      have := (AT4.1 ok).2
      rw [vR, hh] at this; simp at this; omega
     ·rw [rP hre]
      by_cases hrj' : r = j
      ·subst hrj'
       rw [vR]
       refine ⟨by simp; omega, by simp; omega, by simp; omega, fun ok => ?_⟩
       intro dr hdr
       rw [rP hre, vR] at hdr; simp at hdr
      ·have hh : (g.up (.put j .dead)) r = g r := rP hrj'
       rw [hh]
       refine ⟨h1, h2, h3, fun ok dr hdr => ?_⟩
       have hh2 : ((g.up (.put j .dead)).up (.put e (.pend r p c s u d))) r = g r := by rw [rP hre, hh]
       rw [Sub.okU hh2] at ok
       rw [hh2] at hdr
       obtain ⟨k1, β2, cc, k2, k3, k4⟩ := h4 ok dr hdr
       rw [mH hjN] at k4
       refine ⟨k1, ?_⟩
       have e4 : (upd (qR a) e (a.eval (.tmp j))) e = some (zX d.t cc) := by simp only [upd, if_true]; exact k4
       have hother : ∀ s b, β (r :: s) = some b → rekey β [j] [e] (r :: s) = some b := fun s b hb => by
        rw [wS (yD hre) (yD hrj')]; exact hb
       rcases k2 with rfl | ⟨b, hb, rfl⟩
       ·exact ⟨_, cc, .inl rfl, zL (fun b hb => ⟨hb, rfl⟩) (fun s b hb => ⟨hother _ _ (by simpa using hb), rfl⟩) k3, e4⟩
       ·refine ⟨_, cc, .inr ⟨b, ?_, rfl⟩, zL (fun b hb => ⟨hb, rfl⟩) (fun s b2 hb2 => ⟨?_, rfl⟩) k3, e4⟩
        ·have := Ag0 (β := β) (src := [j]) (dst := [e]) (s := [])
         simp only [List.append_nil] at this
         rw [this]; exact hb
        ·unfold repl at hb2 ⊢
         split at hb2
         ·rename_i e5; rw [if_pos e5]; exact hb2
         ·rename_i e5
          rw [if_neg e5, if_neg (by simp [hre])]
          split at hb2
          ·cases hb2
          ·exact hother _ _ (by simpa using hb2)
  ·cases hk
 ·rename_i hx
  split at hk
  ·rename_i τ
   obtain ⟨dd, ho, rfl⟩ := yK hk
   have hxv : a.eval x = .slice none 0 0 := by
    rcases dU (hs.sv hx (by simp)) with ⟨s, rfl, h⟩ | rfl
    ·have := hc.rel.slots s
     rw [h] at this; exact this.elim
    ·rfl
   rw [hxv] at hr
   refine AV8 hc.rel hc.dead ho (xO hc.opIn ho) hr ⟨[.slice none 0 0], ?_, by simp [upd, zX, Ty.agg]⟩
   simp only [zP, Fl.base, pX, Fl.pins]
   exact ⟨by simp, none, 0, rfl, by simp, .inl rfl⟩
  ·cases hk
 ·rename_i d hx
  split at hk
  ·rename_i j e ho
   split at hk
   ·cases hk
   ·rename_i hje
    simp only [Nat.beq_eq] at hje
    simp only [Option.some.injEq] at hk; subst hk
    have hj : (g j).sv = .tup d := hs.sv hx (by simp)
    have hjN := hc.dead.lt (show (g j).sv ≠ .dead by rw [hj]; simp)
    have hd := xO hc.opIn ho
    have hss := hc.rel.slots j
    rw [hj] at hss
    obtain ⟨c, hv, hV⟩ := hss
    intro K Q hK
    refine tD hr (hK _ _ S (rekey β [j] [e]) wW yS ?_ (.rekey _ _))
    rw [ho, vS hd]
    have hk1 : Rel H a.tmps.size (g.up (.put j .dead)) (qR a) w S β := hc.rel.kill fun _ _ => rfl
    refine hk1.finish (fun _ _ => rfl) (hc.dead.up hjN) (fun _ _ => rfl) hd (hc.rel.sane.rekey _ _) (fun b hb => ⟨hb, rfl⟩) (fun i s b hi ha hb => ⟨?_, rfl⟩) ?_
    ·have hij : i ≠ j := fun e' => by subst e'; exact ha (by rw [vR])
     rw [wS (yD hi) (yD hij)]; exact hb
    ·refine ⟨c, pG hv, ?_⟩
     simp only [upd, if_true]
     rw [mH hjN] at hV; exact hV
  ·cases hk
 ·cases hk
theorem A6T {x : Operand} (hc : Ctx P H S β a w o g) (hs : Sub gv g) (hm : o.op = .nilCheck x)
  (hk : BS4 gv o x some = some us) : yJ P H S β a w o (g.ups us) := by
 unfold BS4 at hk
 split at hk
 ·rename_i r p c s hx
  split at hk
  ·rename_i hok
   simp only [Bool.and_eq_true] at hok
   obtain ⟨dd, ho, rfl⟩ := yK hk
   obtain ⟨i, rfl, hi⟩ := uP (hs.sv hx (by simp)) (by simp) (by simp) (by simp)
   have hss := hc.rel.slots i
   rw [hi] at hss
   obtain ⟨h0, h1, h2, h3⟩ := hss
   obtain ⟨hok, hdat⟩ := hok
   unfold A9c at hdat
   split at hdat
   ·rename_i dr hdr
    have hr := hs.get hdr (by simp)
    obtain ⟨cr, t, b, oo, k1, k2, k3, k4, _⟩ := h3 (by rw [Sub.okB hr]; exact hok) dr (by rw [hr]; exact hdr)
    exact Ax4 hc hi k4 ho (Af9 hm (zJ (x := .tmp i) k4))
   ·cases hdat
  ·cases hk
 ·rename_i r p c s hx
  split at hk
  ·rename_i hok
   split at hk
   ·rename_i t y f hat
    obtain ⟨dd, ho, rfl⟩ := yK hk
    obtain ⟨i, rfl, hi⟩ := uP (hs.sv hx (by simp)) (by simp) (by simp) (by simp)
    obtain ⟨hat', hr⟩ := hs.atP hat
    obtain ⟨e, he, hg⟩ := iB hat'
    obtain ⟨_, _, hn, cr, L, c', _, _, _, _, _, k6, k7⟩ := hc.rel.als hi (by rw [Sub.okA hr]; exact hok) he hg
    obtain ⟨b, rfl⟩ := AR8 hn k6
    exact A4n hc hi k7 ho (Af9 hm (zJ (x := .tmp i) k7))
   ·cases hk
  ·cases hk
 ·rename_i t y f hx
  have hx' := hs.sv hx (by simp)
  split at hk
  ·rename_i hf
   have hf := vQ hf
   subst hf
   rcases nI hc.rel hx' with ⟨s, rfl, hs'⟩ | ⟨_, c, hcc, hrd⟩
   ·obtain ⟨c, hv, hV⟩ := hc.rel.dat hs'
    have hv0 := hv
    rw [yM] at hv
    obtain ⟨b, rfl⟩ := AR8 iT hv0
    exact DV.look (d := ⟨.ptr t, y, .sh⟩) ⟨rfl, _, hv, rfl⟩ hc.rel hc.dead hc.opIn hk (Af9 hm (zJ (x := .tmp s) hV))
   ·obtain ⟨b, rfl⟩ := AR8 (H := H) (β := β) (k := []) iT (yM.2 hrd)
    exact DV.look (d := ⟨.ptr t, y, .sh⟩) ⟨rfl, _, hrd, rfl⟩ hc.rel hc.dead hc.opIn hk (Af9 hm (zJ hcc))
  ·split at hk
   ·cases hk
   ·rename_i hg
    split at hk
    ·rename_i s
     obtain ⟨dd, ho, rfl⟩ := yK hk
     have hsub : g s = gv s := hs.get hx (by simp)
     have hs' : (g s).sv = .dat ⟨.ptr t, y, f⟩ := by rw [hsub]; exact hx
     obtain ⟨c, hv, hV⟩ := hc.rel.dat hs'
     obtain ⟨b, rfl⟩ := AR8 (uT (by simpa using hg)) hv
     have := Aq5 hc hs' (uT (by simpa using hg)) hV ho (Af9 hm (zJ (x := .tmp s) hV))
     have e : AR3 gv (s, []) = AR3 g (s, []) := by simp [AR3, hsub]
     rw [e]; exact this
    ·cases hk
 ·cases hk
end
end Go.Rf

end
section
namespace Go.Rf
set_option linter.unusedSectionVars false
variable [T : Laid]
section
variable {P : Program} {H : Nat → Option (List Value)} {N : Nat} {g g' σ : zY} {V V' : Nat → Option Value} {w w' : World} {S S' : Nat → Prop} {β β' : Key → Option Nat} {a : Act} {o : Oper}
variable {E : Env} {gv : zY} {us : List Up}
theorem A31 {t : TypeId} {x : Operand} (hc : Ctx E.P H S β a w o g) (hs : Sub gv g) (hm : o.op = .load t x)
  (hk : A58 gv o (E.ty t) x some = some us) : yJ E.P H S β a w o (g.ups us) := by
 unfold A58 at hk
 split at hk
 ·rename_i q hq
  split at hk
  ·rename_i d hat
   split at hk
   ·rename_i hcond
    simp only [Bool.and_eq_true, decide_eq_true_eq, Bool.not_eq_true'] at hcond
    obtain ⟨hty, hgn⟩ := hcond
    have hn := uT hgn
    obtain ⟨hq', hat', hr⟩ := fX hs hq hat
    obtain ⟨e, cr, b, oo, he, hg, hb, hV, hl, hw, hx, _⟩ := iM hc.rel hq' hat'
    obtain ⟨cr', L, c, k1, k2, k3, k4, k5, k6⟩ := hc.rel.place he hg hb hn
    have := uR (Option.some.inj (k1.symm.trans hV)) k2 hl
    subst this
    rw [hw] at k4
    simp only [Option.some.injEq, Prod.mk.injEq, true_and] at k4
    subst k4
    have hrun : (execOp a.eval o).run E.P w = .ok (.value (zX d.t c)) w := by
     simp only [execOp, hm, zJ hx, Instr.loadAt, Instr.sureAddr, Sem.run_bind, Sem.run_pure, Result.andThen_ok, AY4 hty k5]
    split at hk
    ·rename_i hf
     have hf := vQ hf
     rw [hf, yM] at k6
     exact DV.look ⟨hf, c, k6, rfl⟩ hc.rel hc.dead hc.opIn hk hrun
    ·obtain ⟨dd, ho, rfl⟩ := yK hk
     have ea : AR3 gv q = AR3 g q := by simp [AR3, hr]
     rw [ea]
     exact AV8 hc.rel hc.dead ho (xO hc.opIn ho) hrun (A1g (hc.dead.root he) he hg hn hb hV hl hw k5 rfl)
   ·cases hk
  ·cases hk
 ·cases hk
theorem Ad7 {r : Nat} {p : List PS} {e d : Dat} {cr : List Value} {b oo dd : Nat} (hc : Ctx P H S β a w o g) (he : (g r).sv = .dat e) (hV : qR a r = some (zX e.t cr)) (hl : cr.length = e.t.size)
  (hw : vT w e.t (.reg cr) p = some (d.t, .mem b oo)) (hb : inB p e.t e.x) (hg : yO p e.t e.f e.x = some d) (hn : gK p = true ∨ d.f.base ≠ .gone) (ho : o.dst = some dd)
  (hr : (execOp a.eval o).run P w = .ok (.value (.pointer (some ⟨b, oo, none⟩))) w) : yJ P H S β a w o (g.ups [.put dd (A5O g (r, p))]) := by
 refine AV8 hc.rel hc.dead ho (xO hc.opIn ho) hr ?_
 refine A33 (hc.dead.root he) (Nat.le_refl _) (Nat.le_refl _) fun _ dr hdr => ?_
 rw [he] at hdr
 simp only [SV.dat.injEq] at hdr
 subst hdr
 exact ⟨cr, _, b, oo, hV, hl, hw, rfl, hb, fun hbx => ⟨d, hg, hn.resolve_left (by rw [hbx]; simp)⟩⟩
theorem Ap6 {ty : TypeId → Option Ty} : ∀ {i : Nat} {fs : List Field} {off : Nat} {τ : Ty} {f : Fl} {x : τ.D} {d : Dat} {b o : Nat}, pW ty fs off = some τ → yO (zI i) τ f x = some d →
  ∃ fl, fs[i]? = some fl ∧ ty fl.type = some d.t ∧ off ≤ fl.offset ∧ vT w τ (.mem b o) (zI i) = some (d.t, .mem b (o + (fl.offset - off))) ∧ inB (zI i) τ x
 | i, [], off, τ, f, x, d, b, o, h, hg => by
  simp only [pW, Option.some.injEq] at h; subst h
  cases i <;> simp [zI, yO] at hg
 | i, fl :: fs, off, τ, f, x, d, b, o, h, hg => by
  simp only [pW] at h
  split at h
  ·rename_i a ha
   split at h
   ·rename_i ho
    simp only [Nat.beq_eq] at ho
    simp only [Option.map_eq_some_iff] at h
    obtain ⟨τ', h, rfl⟩ := h
    cases i with
    | zero =>
     simp only [zI, yO, Option.some.injEq] at hg
     subst hg
     exact ⟨fl, rfl, ha, by omega, by simp [zI, vT, xT, aF, ho], by simp [zI, inB]⟩
    | succ i =>
     simp only [zI, yO] at hg
     obtain ⟨fl', h1, h2, h3, h4, h5⟩ := Ap6 (b := b) (o := o + a.size) h hg
     refine ⟨fl', by simpa using h1, h2, by omega, ?_, by simpa [zI, inB] using h5⟩
     simp only [zI, vT, xT, aF]
     rw [h4]
     congr 3
     omega
   ·cases h
  ·cases h
theorem Af6 : ∀ {i : Nat}, jumps (zI i) = false
 | 0 => rfl
 | i + 1 => by simp only [zI, jumps, PS.jumps, Bool.false_or]; exact Af6
theorem A4e {d : Nat} {t : TypeId} {x y : Ty} (h : tyN P (d + 1) t = some (.pair x y)) : ∃ fs, P.underlying t = some (.struct fs) ∧ pW (tyN P d) fs.toList 0 = some (.pair x y) := by
 obtain ⟨i, u, _, h2, _, h4⟩ := oV h
 unfold oK at h4
 cases u <;> simp only [reduceCtorEq] at h4 <;> first
  | exact ⟨_, h2, h4⟩
  | (obtain ⟨a, _, h⟩ := h4; cases h)
theorem A3t {s : TypeId} {fs : Array Field} {fl : Field} {i b oo d : Nat} {τ : Ty} (hs : P.underlying s = some (.struct fs)) (hf : fs.toList[i]? = some fl) (ht : tyN P (d + 1) fl.type = some τ) (hz : τ.size ≠ 0) :
  (Instr.fieldAt s (.pointer (some ⟨b, oo, none⟩)) i).run P w = .ok (.pointer (some ⟨b, oo + fl.offset, none⟩)) w := by
 have hf' : fs[i]? = some fl := by simpa using hf
 simp only [Instr.fieldAt, Sem.run_bind, zC hs, Result.andThen_ok, hf', Instr.sureAddr, Sem.run_pure, fieldPlace, uW ht]
 rw [if_neg hz]
 simp only [Sem.run_pure, Result.andThen_ok, kH]
theorem Aa7 {t : TypeId} {x : Operand} {i : Nat} (hc : Ctx E.P H S β a w o g) (hs : Sub gv g) (hm : o.op = .fieldAddr t x i)
  (hk : fC gv o (E.ty t) x i some = some us) : yJ E.P H S β a w o (g.ups us) := by
 unfold fC at hk
 split at hk
 ·rename_i q hq
  split at hk
  ·rename_i hta
   split at hk
   ·rename_i d hat
    split at hk
    ·rename_i hcond
     simp only [Bool.and_eq_true, Bool.not_eq_true', Bool.or_eq_true] at hcond
     obtain ⟨hgn, hz⟩ := hcond
     obtain ⟨dd, ho, rfl⟩ := yK hk
     unfold A1I at hta
     cases hp : atP gv q.1 q.2 with
     | none =>
      rw [hp] at hta
      have hnot := hs.atP hat
      obtain ⟨e, he, hg⟩ := iB hat
      rw [Option.map_none] at hta
      exfalso
      have hpar : ∀ (p : List PS) (t : Ty) (f : Fl) (x : t.D) (j : Nat) (d : Dat), yO (p ++ zI j) t f x = some d → yO p t f x ≠ none := by
       intro p
       induction p with
       | nil => intro t f x j d _; simp [yO]
       | cons s p ih =>
        intro t f x j d h
        cases s <;> cases t <;> simp only [List.cons_append, yO, reduceCtorEq] at h ⊢ <;> exact ih _ _ _ _ _ h
      unfold atP at hp
      rw [he] at hp
      exact hpar _ _ _ _ _ _ hg hp
     | some d0 =>
      rw [hp] at hta
      simp only [Option.map_some] at hta
      obtain ⟨hq', hat', hr⟩ := fX hs hq hp
      obtain ⟨e, cr, b, oo, he, hg, hb, hV, hl, hw, hx, hsol⟩ := iM hc.rel hq' hat'
      obtain ⟨hat2, _⟩ := hs.atP hat
      obtain ⟨e', he', hg'⟩ := iB hat2
      rw [he] at he'
      simp only [SV.dat.injEq] at he'
      subst he'
      rw [rM hg] at hg'
      have hpair : ∃ x y, d0.t = .pair x y := by
       obtain ⟨t0, x0, f0⟩ := d0
       cases t0 <;> cases i <;> simp only [zI, yO, reduceCtorEq] at hg' <;> exact ⟨_, _, rfl⟩
      obtain ⟨tx, ty, hpair⟩ := hpair
      rw [hpair] at hta
      obtain ⟨fs, hfs, hch⟩ := A4e (hta.symm : tyN E.P (7 + 1) t = _)
      rw [← hpair] at hch
      obtain ⟨fl, h1, h2, h3, h4, h5⟩ := Ap6 (w := w) (b := b) (o := oo) hch hg'
      have ea : A5O gv (q.1, q.2 ++ zI i) = A5O g (q.1, q.2 ++ zI i) := by simp [A5O, hr]
      rw [ea]
      have hz' : d.t.size ≠ 0 := fun e => by rw [e] at hz; cases hz
      refine Ad7 (d := d) hc he hV hl (by rw [jB hw, h4]) (nC hg hb h5) (by rw [rM hg]; exact hg') ?_ ho ?_
      ·rcases hgn with h | h
       ·exact .inl (AY3 h Af6)
       ·exact .inr (uT h)
      ·simp only [execOp, hm, zJ hx, Sem.run_bind, A3t hfs h1 (d := 6) h2 hz', Result.andThen_ok, Sem.run_pure]
       simp
    ·cases hk
   ·cases hk
  ·cases hk
 ·cases hk
theorem Al5 {t e : TypeId} {d : Nat} {τ : Ty} {k : IntKind} {n : Int} {b oo len cap : Nat} (he : P.underlying t = some (.slice e)) (ht : tyN P (d + 1) e = some τ) (h1 : zA n = true) (h2 : n.toNat < len) :
  (Instr.indexAt t (.slice (some ⟨b, oo, none⟩) len cap) (.int k n)).run P w = .ok (.pointer (some ⟨b, oo + n.toNat * τ.size, none⟩)) w := by
 simp only [zA, decide_eq_true_eq] at h1
 simp only [Instr.indexAt, asIntOf, Sem.run_bind, Sem.run_pure, Result.andThen_ok, zC he]
 rw [if_pos ⟨h1, by omega⟩]
 simp only [Sem.run_bind, uW ht, Result.andThen_ok, Sem.run_pure, kH]
theorem Aj8 {t e : TypeId} {d : Nat} {τ : Ty} {k : IntKind} {n : Int} {b oo len : Nat} (he : P.underlying t = some (.array len e)) (ht : tyN P (d + 1) e = some τ) (h1 : zA n = true) (h2 : n.toNat < len) :
  (Instr.indexAt t (.pointer (some ⟨b, oo, none⟩)) (.int k n)).run P w = .ok (.pointer (some ⟨b, oo + n.toNat * τ.size, none⟩)) w := by
 simp only [zA, decide_eq_true_eq] at h1
 simp only [Instr.indexAt, asIntOf, Sem.run_bind, Sem.run_pure, Result.andThen_ok, zC he, Instr.sureAddr]
 rw [if_pos ⟨h1, by omega⟩]
 simp only [Sem.run_bind, uW ht, Result.andThen_ok, Sem.run_pure, kH]
theorem AH6 {ρ : Operand → Value} {t : TypeId} {x i : Operand} {val : Value} (ho : o.op = .indexAddr t x i) (hr : (Instr.indexAt t (ρ x) (ρ i)).run P w = .ok val w) : (execOp ρ o).run P w = .ok (.value val) w := by
 simp only [execOp, ho, Sem.run_bind, hr, Result.andThen_ok, Sem.run_pure]
theorem A4y {f : Fl} (h : f.whole = true) : f.base ≠ .gone := dQ h
theorem Aa1 {t : TypeId} {x i : Operand} (hc : Ctx E.P H S β a w o g) (hs : Sub gv g) (hm : o.op = .indexAddr t x i)
  (hk : gU gv o (E.ty t) x i some = some us) : yJ E.P H S β a w o (g.ups us) := by
 unfold gU at hk
 split at hk
 ·rename_i τ k n ht hi
  have ei := zJ (eM hc.rel (hs.sv hi (by simp)) iT)
  split at hk
  ·rename_i q hq
   split at hk
   ·rename_i τ' xs f hat
    split at hk
    ·rename_i hcond
     simp only [Bool.and_eq_true, decide_eq_true_eq, Bool.not_eq_true'] at hcond
     obtain ⟨⟨rfl, hew⟩, hgn⟩ := hcond
     simp only [Bool.cond_eq_ite] at hk
     split at hk
     ·rename_i h1
      split at hk
      ·rename_i h2
       obtain ⟨dd, ho, rfl⟩ := yK hk
       simp only [Nat.blt_eq] at h2
       obtain ⟨hq', hat', hr⟩ := AC5 hs hq hat
       obtain ⟨e, cr, L, c, he, hg, hb, hV, hl, hvr, hw, hcc, hvp, hx⟩ := aL hc.rel hq' hat' (uT hgn)
       obtain ⟨el, hel, htl⟩ := AS1 ht
       obtain ⟨b, oo, cs, m, cap, rfl, him, hsb, hB, hz, hv⟩ := Ay9 (A4y hew) hvp (rD (z := τ'.dflt) h2)
       have ea : A5O gv (q.1, q.2 ++ [.elm (Int.toNat n)]) = A5O g (q.1, q.2 ++ [.elm (Int.toNat n)]) := by simp [A5O, hr]
       rw [ea]
       have hlen : m = List.length xs := by
        have h3 := hvp
        simp only [zP] at h3
        replace h3 := h3.2
        cases hfb : Fl.base f with
        | own e2 => rw [hfb] at h3; obtain ⟨ad, cap', e5, _⟩ := h3; simp only [List.cons.injEq, Value.slice.injEq, and_true] at e5; exact e5.2.1
        | gone => exact absurd hfb (uT hgn)
        | _ => rw [hfb] at h3; simp only [Rd] at h3; obtain ⟨ad, cap', e5, _⟩ := h3; simp only [List.cons.injEq, Value.slice.injEq, and_true] at e5; exact e5.2.1
       have hg2 : yO (q.2 ++ [.elm (Int.toNat n)]) e.t e.f e.x = some ⟨τ', List.getD xs (Int.toNat n) τ'.dflt, f.e⟩ := by rw [rM hg]; rfl
       refine Ad7 (d := ⟨τ', List.getD xs (Int.toNat n) τ'.dflt, f.e⟩) (b := b) (oo := oo + Int.toNat n * τ'.size) hc he hV hl ?_ (nC hg hb (by simp only [inB]; exact ⟨h2, trivial⟩)) hg2 (.inr (A4y hew)) ho (AH6 hm ?_)
       ·rw [jB hw]
        simp only [Ty.size] at hcc
        simp only [vT, xT, hcc, him, if_true]
       ·rw [zJ hx, ei]
        exact Al5 hel htl h1 (by omega)
      ·cases hk
     ·cases hk
    ·cases hk
   ·cases hk
  ·cases hk
 ·rename_i m τ k n ht hi
  have ei := zJ (eM hc.rel (hs.sv hi (by simp)) iT)
  split at hk
  ·rename_i q hq
   split at hk
   ·rename_i n' τ' xs f hat
    split at hk
    ·rename_i hcond
     simp only [Bool.and_eq_true, decide_eq_true_eq, Bool.not_eq_true', Bool.or_eq_true] at hcond
     obtain ⟨⟨rfl, rfl⟩, hgn⟩ := hcond
     simp only [Bool.cond_eq_ite] at hk
     split at hk
     ·rename_i h1
      split at hk
      ·rename_i h2
       obtain ⟨dd, ho, rfl⟩ := yK hk
       simp only [Nat.blt_eq] at h2
       obtain ⟨hq', hat', hr⟩ := fX hs hq hat
       obtain ⟨e, cr, b, oo, he, hg, hb, hV, hl, hw, hx, hsol⟩ := iM hc.rel hq' hat'
       obtain ⟨el, hel, htl⟩ := Ag7 ht
       have ea : A5O gv (q.1, q.2 ++ [.idx (Int.toNat n)]) = A5O g (q.1, q.2 ++ [.idx (Int.toNat n)]) := by simp [A5O, hr]
       rw [ea]
       have hg2 : yO (q.2 ++ [.idx (Int.toNat n)]) e.t e.f e.x = some ⟨τ', List.getD xs (Int.toNat n) τ'.dflt, f.a⟩ := by rw [rM hg]; rfl
       refine Ad7 (d := ⟨τ', List.getD xs (Int.toNat n) τ'.dflt, f.a⟩) (b := b) (oo := oo + Int.toNat n * τ'.size) hc he hV hl ?_ (nC hg hb (by simp only [inB]; exact ⟨h2, trivial⟩)) hg2 ?_ ho (AH6 hm ?_)
       ·rw [jB hw]
        simp only [vT, xT, h2, if_true, aF]
       ·rcases hgn with h | h
        ·exact .inl (AY3 h rfl)
        ·exact .inr (uT h)
       ·rw [zJ hx, ei]
        exact Aj8 hel htl h1 h2
      ·cases hk
     ·cases hk
    ·cases hk
   ·cases hk
  ·cases hk
 ·cases hk
end
end Go.Rf

end
section
namespace Go.Rf
set_option linter.unusedSectionVars false
variable [T : Laid]
section
variable {P : Program} {H : Nat → Option (List Value)} {N : Nat} {g g' σ : zY} {V V' : Nat → Option Value} {w w' : World} {S S' : Nat → Prop} {β β' : Key → Option Nat} {a : Act} {o : Oper}
variable {E : Env} {gv : zY} {us : List Up}
theorem cV : ∀ {p : List PS} {t : Ty} {f : Fl} {x : t.D} {d : Dat} {y : Fl × t.D} {k ko : Key} {L : Loc} {c : List Value} {t' : Ty} {b o : Nat},
  nY p t f x d = some y → inB p t x → zF w t.size L = some c → zP S β H w k t f x c → vT w t L p = some (t', .mem b o) →
  (∀ b' o', L = .mem b' o' → β ko = some b' ∧ ∃ q cs, AA4 q w b' cs) →
  β (xB k ko p) = some b ∧ ∃ q cs, AA4 q w b cs ∧ o + t'.size ≤ cs.size
 | [], t, f, x, d, y, k, ko, L, c, t', b, o, _, _, hc, _, hw, hL => by
  simp only [vT, Option.some.injEq, Prod.mk.injEq] at hw
  obtain ⟨rfl, rfl⟩ := hw
  obtain ⟨h1, q0, cs, h2⟩ := hL _ _ rfl
  exact ⟨h1, q0, cs, h2, (jJ hc h2.blk).2⟩
 | .fst :: p, .pair s u, f, x, d, y, k, ko, L, c, t', b, o, hm, hi, hc, hv, hw, hL => by
  simp only [nY] at hm
  cases hm' : nY p s f.l x.1 d with
  | none => simp [hm'] at hm
  | some z =>
   have h' := (wX hv).1
   rw [pP] at h'
   simp only [vT, xT] at hw
   simp only [xB]
   refine cV hm' (by simpa [inB] using hi) (zW (i := 0) (m := s.size) hc (by simp [Ty.size])) h' hw (fun b' o' e => ?_)
   cases L with
   | reg _ => simp [aF] at e
   | mem b2 o2 => simp only [aF, Loc.mem.injEq] at e; rw [← e.1]; exact hL _ _ rfl
 | .snd :: p, .pair s u, f, x, d, y, k, ko, L, c, t', b, o, hm, hi, hc, hv, hw, hL => by
  simp only [nY] at hm
  cases hm' : nY p u f.r x.2 d with
  | none => simp [hm'] at hm
  | some z =>
   have h' := (wX hv).2
   have hl := zS hv
   rw [pO (by simpa [Ty.size] using hl)] at h'
   simp only [vT, xT] at hw
   simp only [xB]
   refine cV hm' (by simpa [inB] using hi) (zW (i := s.size) (m := u.size) hc (by simp [Ty.size])) h' hw (fun b' o' e => ?_)
   cases L with
   | reg _ => simp [aF] at e
   | mem b2 o2 => simp only [aF, Loc.mem.injEq] at e; rw [← e.1]; exact hL _ _ rfl
 | .idx i :: p, .arr n t, f, x, d, y, k, ko, L, c, t', b, o, hm, hi, hc, hv, hw, hL => by
  simp only [nY] at hm
  cases hm' : nY p t f.a (List.getD x i t.dflt) d with
  | none => simp [hm'] at hm
  | some z =>
   simp only [hm', Option.bind_some] at hm
   split at hm
   ·rename_i hcond
    simp only [inB] at hi
    simp only [Bool.and_eq_true] at hcond
    obtain ⟨hx, hcl, h'⟩ := jL (dQ hcond.1) hv
    have hlt : (i + 1) * t.size ≤ n * t.size := Nat.mul_le_mul_right _ hi.1
    rw [Nat.add_mul] at hlt
    simp only [vT, xT, hi.1, if_true] at hw
    simp only [xB]
    refine cV hm' hi.2 (zW (i := i * t.size) (m := t.size) hc (by simp only [Ty.size]; omega)) (h' i _ (rD (by omega))) hw (fun b' o' e => ?_)
    cases L with
    | reg _ => simp [aF] at e
    | mem b2 o2 => simp only [aF, Loc.mem.injEq] at e; rw [← e.1]; exact hL _ _ rfl
   ·cases hm
 | .der :: p, .ptr t, f, x, d, y, k, ko, L, c, t', b, o, hm, hi, hc, hv, hw, hL => by
  have main : ∀ e, f.base = .own e → nY p t e x d ≠ none → β (xB (k ++ [0]) k p) = some b ∧ ∃ q cs, AA4 q w b cs ∧ o + t'.size ≤ cs.size := by
   intro e hf hm'
   cases hm'' : nY p t e x d with
   | none => exact absurd hm'' hm'
   | some z =>
    simp only [zP] at hv
    replace hv := hv.2
    rw [hf] at hv
    obtain ⟨b1, cs, rfl, hk, ho, hz, hv⟩ := hv
    simp only [Ty.size] at hc
    simp only [vT, xT, hc] at hw
    have hc' := zM (o := 0) (n := t.size) ho.blk (by omega)
    have : win cs.toList 0 t.size = cs.toList := by rw [← hz, ← Array.length_toList]; exact dI _
    rw [this] at hc'
    exact cV hm'' (by simpa [inB] using hi) hc' hv hw (fun b' o' e => by simp only [Loc.mem.injEq] at e; rw [← e.1]; exact ⟨hk, _, cs, ho⟩)
  simp only [xB]
  cases f with
  | own e => exact main e rfl (fun e => by simp [nY, e] at hm)
  | pin j g => cases g with
   | own e => exact main e rfl (fun e => by simp [nY, e] at hm)
   | _ => simp [nY] at hm
  | _ => simp [nY] at hm
 | .elm i :: p, .sl t, f, x, d, y, k, ko, L, c, t', b, o, hm, hi, hc, hv, hw, hL => by
  simp only [inB] at hi
  have main : ∀ e, f.base = .own e → nY p t e (List.getD x i t.dflt) d ≠ none → β (xB (k ++ [i]) k p) = some b ∧ ∃ q cs, AA4 q w b cs ∧ o + t'.size ≤ cs.size := by
   intro e hf hm'
   cases hm'' : nY p t e (List.getD x i t.dflt) d with
   | none => exact absurd hm'' hm'
   | some z =>
    simp only [zP] at hv
    replace hv := hv.2
    rw [hf] at hv
    obtain ⟨ad, cap, rfl, hlc, hv⟩ := hv
    rcases hv with hv | ⟨b1, o1, cs, rfl, hk, ho, hz, hv⟩
    ·have := hi.1; omega
    ·simp only [Ty.size] at hc
     simp only [vT, xT, hc, hi.1, if_true] at hw
     have hlt : (i + 1) * t.size ≤ cap * t.size := Nat.mul_le_mul_right _ (by have := hi.1; omega)
     rw [Nat.add_mul] at hlt
     have hc' := zM (o := o1 + i * t.size) (n := t.size) ho.blk (by omega)
     exact cV hm'' hi.2 hc' (hv i _ (rD hi.1)) hw (fun b' o' e => by simp only [Loc.mem.injEq] at e; rw [← e.1]; exact ⟨hk, _, cs, ho⟩)
  simp only [xB]
  cases f with
  | own e => exact main e rfl (fun e => by simp [nY, e] at hm)
  | pin j g => cases g with
   | own e => exact main e rfl (fun e => by simp [nY, e] at hm)
   | _ => simp [nY] at hm
  | _ => simp [nY] at hm
theorem fD : ∀ {p : List PS} {k ko : Key}, ko.length < k.length → (xB k ko p).length < (k ++ xK p).length
 | [], k, ko, h => by simpa [xB, xK] using h
 | .fst :: p, k, ko, h => by
  have := fD (p := p) (k := k ++ [0]) (ko := ko) (by simp; omega)
  simpa [xB, xK] using this
 | .snd :: p, k, ko, h => by
  have := fD (p := p) (k := k ++ [1]) (ko := ko) (by simp; omega)
  simpa [xB, xK] using this
 | .idx i :: p, k, ko, h => by
  have := fD (p := p) (k := k ++ [i]) (ko := ko) (by simp; omega)
  simpa [xB, xK] using this
 | .der :: p, k, ko, h => by
  have := fD (p := p) (k := k ++ [0]) (ko := k) (by simp)
  simpa [xB, xK] using this
 | .elm i :: p, k, ko, h => by
  have := fD (p := p) (k := k ++ [i]) (ko := k) (by simp)
  simpa [xB, xK] using this
theorem Au6 {p : List PS} {t t' : Ty} {c : List Value} {b o : Nat} (h : vT w t (.reg c) p = some (t', .mem b o)) : jumps p = true := by
 cases hj : jumps p with
 | true => rfl
 | false => have := oC hj h; simp at this
open Classical in
theorem Rel.store {r : Nat} {p : List PS} {e d : Dat} {f2 : Fl} {x2 : e.t.D} {cr cd : List Value} {t' : Ty} {b₀ o₀ : Nat} (h : Rel H N g V w S β) (he : (g r).sv = .dat e) (hm : nY p e.t e.f e.x d = some (f2, x2)) (hb : inB p e.t e.x)
  (hV : V r = some (zX e.t cr)) (hl : cr.length = e.t.size) (hw : vT w e.t (.reg cr) p = some (t', .mem b₀ o₀)) (ht : t'.size = d.t.size)
  (hs : Sane w S' β') (hSS : ∀ b, S b → S' b) (hβ1 : ∀ j s b, j ≠ r → (g j).sv ≠ .dead → β (j :: s) = some b → β' (j :: s) = some b) (hβ2 : ∀ s b, ¬ xK p <+: s → β (r :: s) = some b → β' (r :: s) = some b)
  (hd : zP S' β' H w (r :: xK p) d.t d.f d.x cd) (hchg : Chg w w' b₀ o₀ cd) (hsz : w'.heap.size = w.heap.size) :
  Rel H N (g.up (.mod r (.dat ⟨e.t, x2, f2⟩))) V w' S' β' := by
 have hj := Au6 hw
 obtain ⟨c, hv, hV2⟩ := h.dat he
 have := uR (Option.some.inj (hV2.symm.trans hV)) (zS hv) hl
 subst this
 have hcells : zF w e.t.size (.reg c) = some c := by simp [zF, hl]
 obtain ⟨hown, cs, hB, _⟩ := cV (k := [r]) (ko := []) hm hb hcells hv hw (by simp)
 have hlen := fD (p := p) (k := [r]) (ko := []) (by simp)
 obtain ⟨s0, hs0⟩ := rK (p := p) (k := [r]) (ko := []) hj
 have hnp : ¬ (r :: xK p) <+: xB [r] [] p := fun hp => by have := hp.length_le; simp at this hlen; omega
 have hown' : β' (xB [r] [] p) = some b₀ := by
  rw [hs0] at hown hnp ⊢
  simp only [List.cons_append, List.nil_append] at hown hnp ⊢
  exact hβ2 s0 b₀ (fun hp => hnp ((List.prefix_cons_inj r).2 hp)) hown
 have hSb : ¬ S' b₀ := hs.sep _ _ hown'
 let β0 : Key → Option Nat := fun key => if (r :: xK p) <+: key then β key else β' key
 have hv0 : zP S' β0 H w [r] e.t e.f e.x c := zL (fun b hb => ⟨hSS b hb, rfl⟩) (fun s b hb => ⟨by
  simp only [List.cons_append, List.nil_append] at hb ⊢
  show (if _ then _ else _) = _
  split
  ·exact hb
  ·rename_i hnp'; exact hβ2 s b (fun hp => hnp' ((List.prefix_cons_inj r).2 hp)) hb, rfl⟩) hv
 obtain ⟨c2, g1, g2, g3⟩ := AG4 (S := S') (β := β0) (β' := β') (H := H) (k := [r]) (ko := []) (cd := cd) hm hb hcells hv0 hw ht (by simp) (by simp)
  (fun key hk => by show _ = (if _ then _ else _); rw [if_neg (by simpa using hk)])
  (fun key hk => by
   have hk : (if (r :: xK p) <+: key then β key else β' key) = some b₀ := hk
   split at hk
   ·exact h.sane.inj _ _ _ hk hown
   ·exact hs.inj _ _ _ hk hown')
  (fun key hk => hs.inj _ _ _ hk hown') hSb hchg (by simpa using hd)
 have := g2 hj
 subst this
 have hne : ∀ b, S b → b ≠ b₀ := fun b hb e => hSb (e ▸ hSS b hb)
 refine h.mod he rfl ⟨hs.inj, hs.sep, fun k b hk => by rw [hsz]; exact hs.live k b hk, fun b hk => by rw [hsz]; exact hs.liveS b hk, hs.tabs fun b hb => ⟨hb, hchg.other b (fun e => hSb (e ▸ hb))⟩⟩ (fun b hb => ⟨hSS b hb, hchg.other b (hne b hb)⟩)
  (fun j s b hjr ha hb => ⟨hβ1 j s b hjr ha hb, hchg.other b (fun e => ?_)⟩) ⟨c2, g3, hV⟩
 subst e
 have := h.sane.inj _ _ _ hb hown
 rw [hs0] at this
 simp at this
 exact hjr this.1
theorem Step.store {b₀ o₀ : Nat} {cd : List Value} {key : Key} (hk : β key = some b₀) (hchg : Chg w w' b₀ o₀ cd) (hsz : w'.heap.size = w.heap.size) : Step w S β w' S β where
 size := by omega
 old b hb hnot := hchg.other b (fun e => hnot key (e ▸ hk))
 new k b hb := .inl ⟨k, hb⟩
 keepS _ hb := hb
 newS _ hb := .inl hb
 out := hchg.out
def Bd4 (S : Nat → Prop) (β : Key → Option Nat) (k : Key) : Nat → Prop := fun b => S b ∨ ∃ s, β (k ++ s) = some b
def BH9 (β : Key → Option Nat) (k : Key) : Key → Option Nat := fun k' => match sQ k k' with | some _ => none | none => β k'
theorem cD {k k' : Key} {b : Nat} (h : BH9 β k k' = some b) : sQ k k' = none ∧ β k' = some b := by
 unfold BH9 at h; split at h
 ·cases h
 ·rename_i e; exact ⟨e, h⟩
theorem Sane.cut (h : Sane w S β) (k : Key) : Sane w (Bd4 S β k) (BH9 β k) where
 tab := h.tabs fun b hb => ⟨.inl hb, rfl⟩
 inj k1 k2 b h1 h2 := h.inj _ _ _ (cD h1).2 (cD h2).2
 sep k1 b h1 h2 := by
  obtain ⟨e, h1⟩ := cD h1
  rcases h2 with h2 | ⟨s, h2⟩
  ·exact h.sep _ _ h1 h2
  ·exact fE e s (h.inj _ _ _ h1 h2)
 live k1 b h1 := h.live _ _ (cD h1).2
 liveS b hb := hb.elim (h.liveS b) fun ⟨s, h'⟩ => h.live _ _ h'
theorem Step.cut (k : Key) : Step w S β w (Bd4 S β k) (BH9 β k) where
 size := Nat.le_refl _
 old _ _ _ := rfl
 new _ _ hb := .inl ⟨_, (cD hb).2⟩
 keepS _ hb := .inl hb
 newS _ hb := hb.elim .inl fun ⟨s, h⟩ => .inr (.inl ⟨_, h⟩)
 out := .rfl'
theorem BD2 {k : Key} {t : Ty} {f : Fl} {x : t.D} {c : List Value} (hw : f.whole = true) (h : zP S β H w k t f x c) : zP (Bd4 S β k) (BH9 β k) H w k t .sh x c :=
 yM.2 (vN hw (fun _ => .inl) (fun s _ hb => .inr ⟨s, hb⟩) h)
theorem cS : ∀ {p : List PS} {t : Ty} {f : Fl} {x : t.D} {d d0 : Dat} {y : Fl × t.D}, nY p t f x d = some y → yO p t f x = some d0 → d0.t = d.t
 | [], t, f, x, d, d0, y, hm, hg => by
  simp only [yO, Option.some.injEq] at hg; subst hg
  simp only [nY, Option.map_eq_some_iff] at hm
  obtain ⟨z, hz, _⟩ := hm
  exact (vP hz).1.symm
 | .fst :: p, .pair a b, f, x, d, d0, y, hm, hg => by
  simp only [nY, Option.map_eq_some_iff] at hm; obtain ⟨z, hz, _⟩ := hm
  simp only [yO] at hg; exact cS hz hg
 | .snd :: p, .pair a b, f, x, d, d0, y, hm, hg => by
  simp only [nY, Option.map_eq_some_iff] at hm; obtain ⟨z, hz, _⟩ := hm
  simp only [yO] at hg; exact cS hz hg
 | .idx i :: p, .arr n t, f, x, d, d0, y, hm, hg => by
  simp only [nY, Option.bind_eq_some_iff] at hm; obtain ⟨z, hz, _⟩ := hm
  simp only [yO] at hg; exact cS hz hg
 | .der :: p, .ptr t, f, x, d, d0, y, hm, hg => by
  simp only [yO] at hg
  cases f with
  | own e => simp only [nY, Option.map_eq_some_iff] at hm; obtain ⟨z, hz, _⟩ := hm; exact cS hz hg
  | pin j g => cases g with
   | own e => simp only [nY, Option.map_eq_some_iff] at hm; obtain ⟨z, hz, _⟩ := hm; exact cS hz hg
   | _ => simp [nY] at hm
  | _ => simp [nY] at hm
 | .elm i :: p, .sl t, f, x, d, d0, y, hm, hg => by
  simp only [yO] at hg
  cases f with
  | own e => simp only [nY, Option.bind_eq_some_iff] at hm; obtain ⟨z, hz, _⟩ := hm; exact cS hz hg
  | pin j g => cases g with
   | own e => simp only [nY, Option.bind_eq_some_iff] at hm; obtain ⟨z, hz, _⟩ := hm; exact cS hz hg
   | _ => simp [nY] at hm
  | _ => simp [nY] at hm
theorem A5R {mv : Bool} {t : Option Ty} {x : Operand} {d : Dat} {us : List Up} {r : Nat} {e : Dat} (ht : take g mv t x (sv g x) = some (d, us)) (he : (g r).sv = .dat e) :
  ((g.ups us) r).sv = .dead ∨ ∃ f, ((g.ups us) r).sv = .dat ⟨e.t, e.x, f⟩ := by
 have same : ((g.ups []) r).sv = .dead ∨ ∃ f, ((g.ups []) r).sv = .dat ⟨e.t, e.x, f⟩ := .inr ⟨e.f, he⟩
 have dead : ∀ {g1 : zY} {s : Nat}, ((g1 r).sv = .dead ∨ ∃ f, (g1 r).sv = .dat ⟨e.t, e.x, f⟩) → ((g1.up (.put s .dead)) r).sv = .dead ∨ ∃ f, ((g1.up (.put s .dead)) r).sv = .dat ⟨e.t, e.x, f⟩ := by
  intro g1 s h
  by_cases hr : r = s
  ·subst hr; left; rw [vR]
  ·rw [rP hr]; exact h
 have modc : ∀ {q : Nat} {e' : Dat} {f : Fl}, (g q).sv = .dat e' → ((g.up (.mod q (.dat ⟨e'.t, e'.x, f⟩))) r).sv = .dead ∨ ∃ f', ((g.up (.mod q (.dat ⟨e'.t, e'.x, f⟩))) r).sv = .dat ⟨e.t, e.x, f'⟩ := by
  intro q e' f hq
  by_cases hr : r = q
  ·subst hr
   rw [he] at hq
   simp only [SV.dat.injEq] at hq
   subst hq
   right
   exact ⟨f, by rw [show g.up (.mod r (.dat ⟨e.t, e.x, f⟩)) r = _ from oH (u := .mod r _)]; rfl⟩
  ·rw [rI (u := .mod q _) hr]; exact same
 have pubc : ∀ {q : Nat} {e' : Dat} {f : Fl}, (g q).sv = .dat e' → ((g.up (.pub q (.dat ⟨e'.t, e'.x, f⟩))) r).sv = .dead ∨ ∃ f', ((g.up (.pub q (.dat ⟨e'.t, e'.x, f⟩))) r).sv = .dat ⟨e.t, e.x, f'⟩ := by
  intro q e' f hq
  by_cases hr : r = q
  ·subst hr
   rw [he] at hq
   simp only [SV.dat.injEq] at hq
   subst hq
   right
   exact ⟨f, by rw [show g.up (.pub r (.dat ⟨e.t, e.x, f⟩)) r = _ from oH (u := .pub r _)]; rfl⟩
  ·rw [rI (u := .pub q _) hr]; exact same
 cases hv : sv g x with
 | dead => rw [hv] at ht; simp [take] at ht
 | und => rw [hv] at ht; simp [take] at ht
 | unk => rw [hv] at ht; simp [take] at ht
 | tup d => rw [hv] at ht; simp [take] at ht
 | adr _ _ _ _ => rw [hv] at ht; simp [take] at ht
 | nils =>
  rw [hv] at ht
  simp only [take] at ht
  split at ht
  ·simp only [Option.some.injEq, Prod.mk.injEq] at ht; rw [← ht.2]; exact same
  ·cases ht
 | clo f rs =>
  rw [hv] at ht
  cases rs with
  | nil => simp only [take, Option.some.injEq, Prod.mk.injEq] at ht; rw [← ht.2]; exact same
  | cons a rs => simp [take] at ht
 | dat e =>
  rw [hv] at ht
  simp only [take] at ht
  split at ht
  ·simp only [Option.some.injEq, Prod.mk.injEq] at ht; rw [← ht.2]; exact same
  ·split at ht
   ·split at ht
    ·simp only [Option.some.injEq, Prod.mk.injEq] at ht; rw [← ht.2]
     exact dead same
    ·cases ht
   ·cases ht
 | als r p c s =>
  rw [hv] at ht
  simp only [take] at ht
  split at ht
  ·split at ht
   ·rename_i e he
    split at ht
    ·split at ht
     ·simp only [Option.some.injEq, Prod.mk.injEq] at ht; rw [← ht.2]; exact same
     ·split at ht
      ·split at ht <;> simp only [Option.some.injEq, Prod.mk.injEq] at ht <;> rw [← ht.2]
       ·exact modc he
       ·exact pubc he
      ·cases ht
    ·cases ht
   ·cases ht
  ·cases ht
 | pend r p c s u e =>
  rw [hv] at ht
  simp only [take] at ht
  split at ht
  ·rename_i j
   split at ht
   ·split at ht
    ·rename_i e' he
     simp only [Option.some.injEq, Prod.mk.injEq] at ht; rw [← ht.2]
     exact dead (modc he)
    ·cases ht
   ·cases ht
  ·cases ht
end
end Go.Rf

end
section
namespace Go.Rf
set_option linter.unusedSectionVars false
variable [T : Laid]
section
variable {P : Program} {H : Nat → Option (List Value)} {N : Nat} {g g' σ : zY} {V V' : Nat → Option Value} {w w' : World} {S S' : Nat → Prop} {β β' : Key → Option Nat} {a : Act} {o : Oper}
variable {E : Env} {gv : zY} {us : List Up}
theorem Step.at (h : Step w S β w S' β') (hz : w'.heap.size = w.heap.size) : Step w' S β w' S' β' where
 size := Nat.le_refl _
 old _ _ _ := rfl
 new k b hb := by rw [hz]; exact h.new k b hb
 keepS := h.keepS
 newS b hb := by rw [hz]; exact h.newS b hb
 out := .rfl'
theorem A2E {q : Pl} {d : Dat} {u : Up} (h : A5X g q d = some u) : ∃ e d' y, (g q.1).sv = .dat e ∧ nY q.2 e.t e.f e.x d' = some y ∧ u = .mod q.1 (.dat ⟨e.t, y.2, y.1⟩) ∧ (d' = d ∨ (d.f.whole = true ∧ d' = ⟨d.t, d.x, .sh⟩)) := by
 unfold A5X at h
 split at h
 ·rename_i e he
  split at h
  ·rename_i y hy
   simp only [Option.some.injEq] at h
   exact ⟨e, d, y, he, hy, h.symm, .inl rfl⟩
  ·split at h
   ·rename_i hw
    simp only [Option.map_eq_some_iff] at h
    obtain ⟨y, hy, rfl⟩ := h
    exact ⟨e, _, y, he, hy, rfl, .inr ⟨hw, rfl⟩⟩
   ·cases h
 ·cases h
theorem AV0 {r : Nat} {p s : Key} (h : ¬ p <+: s) : sQ (r :: p) (r :: s) = none := by
 cases hst : sQ (r :: p) (r :: s) with
 | none => rfl
 | some s' =>
  have := nF.1 hst
  simp only [List.cons_append, List.cons.injEq, true_and] at this
  exact absurd ⟨s', this.symm⟩ h
theorem An3 {t : TypeId} {r : Nat} {p : List PS} {e d d' : Dat} {y : Fl × e.t.D} {cr c : List Value} {t' : Ty} {b₀ o₀ : Nat} {β1 : Key → Option Nat}
  (h : Rel H N g V w S β) (he : (g r).sv = .dat e) (hm : nY p e.t e.f e.x d' = some y) (hd' : d' = d ∨ (d.f.whole = true ∧ d' = ⟨d.t, d.x, .sh⟩)) (hwh : d.f.whole = true) (hb : inB p e.t e.x)
  (hV : V r = some (zX e.t cr)) (hl : cr.length = e.t.size) (hw : vT w e.t (.reg cr) p = some (t', .mem b₀ o₀)) (ht : t' = d.t) (hty : tyN P 8 t = some d.t)
  (hs : Sane w S β1) (hst : Step w S β w S β1) (hβ1 : ∀ j s b, j ≠ r → (g j).sv ≠ .dead → β (j :: s) = some b → β1 (j :: s) = some b) (hβ2 : ∀ s b, ¬ xK p <+: s → β (r :: s) = some b → β1 (r :: s) = some b)
  (hd : zP S β1 H w (r :: xK p) d.t d.f d.x c) :
  ∃ w' S2 β2, (storeVar t ⟨b₀, o₀, none⟩ (zX d.t c)).run P w = .ok () w' ∧ Rel H N (g.up (.mod r (.dat ⟨e.t, y.2, y.1⟩))) V w' S2 β2 ∧ Step w S β w' S2 β2 := by
 obtain ⟨c1, hv, hV2⟩ := h.dat he
 have := uR (Option.some.inj (hV2.symm.trans hV)) (zS hv) hl
 subst this
 have hcells : zF w e.t.size (.reg c1) = some c1 := by simp [zF, hl]
 obtain ⟨hown, q0, cs, hB, hz⟩ := cV (k := [r]) (ko := []) hm hb hcells hv hw (by simp)
 subst ht
 have hlen := zS hd
 obtain ⟨w', hrun, hchg, hsz⟩ := Au8 (P := P) hty hB hz hlen (Au1 hwh hd)
 rcases hd' with rfl | ⟨_, rfl⟩
 ·exact ⟨w', S, β1, hrun, h.store he hm hb hV hl hw rfl hs (fun _ h => h) hβ1 hβ2 hd hchg hsz, (Step.store hown hchg hsz).trans (hst.at hsz)⟩
 ·refine ⟨w', Bd4 S β1 (r :: xK p), BH9 β1 (r :: xK p), hrun, h.store he hm hb hV hl hw rfl (hs.cut _) (fun _ h => .inl h) (fun j s b hj ha hb => ?_) (fun s b hs hb => ?_) (BD2 hwh hd) hchg hsz,
   (Step.store hown hchg hsz).trans ((hst.trans (.cut _)).at hsz)⟩
  ·have := hβ1 j s b hj ha hb
   unfold BH9; rw [yD hj]; exact this
  ·have := hβ2 s b hs hb
   unfold BH9; rw [AV0 hs]; exact this
theorem As0 {ρ : Operand → Value} {t : TypeId} {x y : Operand} {ad : Addr} {v : Value} (ho : o.op = .store t x y) (hx : ρ x = .pointer (some ad)) (hy : ρ y = v) (hr : (storeVar t ad v).run P w = .ok () w') : (execOp ρ o).run P w = .ok .skip w' := by
 simp only [execOp, ho, hx, hy, Instr.storeAt, Instr.sureAddr, Sem.run_bind, Sem.run_pure, Result.andThen_ok, hr]
theorem A2O : ∀ {p q : List PS} {cs : List Bool}, Aq6 p q = some cs → (∀ c ∈ cs, c = true) → p = q
 | [], [], _, _, _ => rfl
 | [], _ :: _, _, h, _ => by simp [Aq6] at h
 | _ :: _, [], _, h, _ => by simp [Aq6] at h
 | a :: p, b :: q, cs, h, hc => by
  simp only [Aq6] at h
  split at h
  ·rename_i l m hl hm
   simp only [Option.some.injEq] at h; subst h
   have ih := A2O hm (fun c h => hc c (by simp [h]))
   subst ih
   have : a = b := by
    cases a <;> cases b <;> simp only [PS.eqc, reduceCtorEq, Option.some.injEq] at hl <;> first
     | rfl
     | (subst hl; have := hc _ (List.mem_append_left _ (List.mem_singleton.2 rfl)); simp only [decide_eq_true_eq] at this; rw [this])
   rw [this]
  ·cases h
theorem Ap8 {ρ : Type} {k : Option ρ} {v : ρ} : ∀ {cs : List Bool}, A3S cs k = some v → (∀ c ∈ cs, c = true) ∧ k = some v
 | [], h => ⟨by simp, h⟩
 | true :: l, h => by
  obtain ⟨h1, h2⟩ := Ap8 (cs := l) h
  exact ⟨by intro c hc; rcases List.mem_cons.1 hc with rfl | hc; rfl; exact h1 c hc, h2⟩
 | false :: l, h => by simp [A3S] at h
theorem A97 {mv : Bool} {t : Ty} : (Fl.ne mv t).whole = true := by
 unfold Fl.ne; split
 ·assumption
 ·rfl
theorem AU7 {mv : Bool} {t : Option Ty} {x : Operand} {d : Dat} {us : List Up} (ht : take g mv t x (sv g x) = some (d, us)) : d.f.whole = true := by
 cases hv : sv g x with
 | dead => rw [hv] at ht; simp [take] at ht
 | und => rw [hv] at ht; simp [take] at ht
 | unk => rw [hv] at ht; simp [take] at ht
 | tup d => rw [hv] at ht; simp [take] at ht
 | adr _ _ _ _ => rw [hv] at ht; simp [take] at ht
 | nils =>
  rw [hv] at ht
  simp only [take] at ht
  split at ht
  ·simp only [Option.some.injEq, Prod.mk.injEq] at ht; rw [← ht.1]
   exact A97
  ·cases ht
 | clo f rs =>
  rw [hv] at ht
  cases rs with
  | nil => simp only [take, Option.some.injEq, Prod.mk.injEq] at ht; rw [← ht.1]; rfl
  | cons a rs => simp [take] at ht
 | dat e =>
  rw [hv] at ht
  simp only [take] at ht
  split at ht
  ·rename_i hf
   simp only [Option.some.injEq, Prod.mk.injEq] at ht; rw [← ht.1, vQ hf]; rfl
  ·split at ht
   ·rename_i hw
    split at ht
    ·simp only [Option.some.injEq, Prod.mk.injEq] at ht; rw [← ht.1]; exact hw
    ·cases ht
   ·cases ht
 | als r p c s =>
  rw [hv] at ht
  simp only [take] at ht
  split at ht
  ·split at ht
   ·split at ht
    ·split at ht
     ·rename_i hf
      simp only [Option.some.injEq, Prod.mk.injEq] at ht; rw [← ht.1, vQ hf]; rfl
     ·split at ht
      ·rename_i hw
       split at ht <;> simp only [Option.some.injEq, Prod.mk.injEq] at ht <;> rw [← ht.1]
       ·exact hw
       ·rfl
      ·cases ht
    ·cases ht
   ·cases ht
  ·cases ht
 | pend r p c s u e =>
  rw [hv] at ht
  simp only [take] at ht
  split at ht
  ·split at ht
   ·rename_i hok
    split at ht
    ·simp only [Option.some.injEq, Prod.mk.injEq] at ht; rw [← ht.1]
     simp only [Bool.and_eq_true] at hok
     exact hok.1.2
    ·cases ht
   ·cases ht
  ·cases ht
theorem A4I : a.put none undef = a := rfl
theorem At3 {mv : Bool} {t : TypeId} {x y : Operand} {q : Pl} {d d0 : Dat} {us : List Up} {u : Up} (hc : Ctx E.P H S β a w o g) (hs : Sub gv g) (ho : o.op = .store t x y) (hdst : o.dst = none)
  (hq : fR gv x (sv gv x) = some q) (hat : atP gv q.1 q.2 = some d0) (hty : E.ty t = some d0.t) {tt : Option Ty} (ht : take gv mv tt y (sv gv y) = some (d, us)) (hu : A5X (gv.ups us) q d = some u) : yJ E.P H S β a w o (g.ups (us ++ [u])) := by
 obtain ⟨ht', hs'⟩ := dP hs ht
 obtain ⟨hq', hat', hr⟩ := fX hs hq hat
 obtain ⟨e, cr, b, oo, he, hg, hb, hV, hl, hw, hx, _⟩ := iM hc.rel hq' hat'
 obtain ⟨S1, β1, c, h1, h2, h3, h4⟩ := gZ hc.rel ht' (n := a.tmps.size) (hc.dead _ (Nat.le_refl _)) (Nat.le_refl _)
 obtain ⟨e1, d', yy, he1, hm, rfl, hd'⟩ := A2E hu
 have hq1 : q.1 < a.tmps.size := hc.dead.root he
 have he1' : ((g.ups us) q.1).sv = .dat e1 := by rw [hs'.get he1 (by simp)]; exact he1
 have hee : ∃ f, e1 = ⟨e.t, e.x, f⟩ := by
  rcases A5R ht' he with h | ⟨f, h⟩
  ·rw [he1'] at h; cases h
  ·rw [he1'] at h; simp only [SV.dat.injEq] at h; exact ⟨f, h⟩
 obtain ⟨f, rfl⟩ := hee
 have hwh := AU7 ht'
 obtain ⟨f1, hg1⟩ := nK (g := f) hg
 have htyd : d0.t = d'.t := cS (d0 := ⟨d0.t, d0.x, f1⟩) hm hg1
 have htyd2 : d0.t = d.t := by
  rcases hd' with rfl | ⟨_, rfl⟩ <;> exact htyd
 let g1 : zY := (upN (g.ups us) a.tmps.size d).up (.put a.tmps.size .dead)
 have hk : Rel H a.tmps.size g1 (upd (qR a) a.tmps.size (zX d.t c)) w S1 β1 := h1.kill fun _ _ => rfl
 obtain ⟨cc, hvr, hVn⟩ := h1.dat gL
 have hcc : cc = c := by
  simp only [upd, if_true] at hVn
  exact (uR (Option.some.inj hVn) h4 (zS hvr)).symm
 subst hcc
 have hg1r : (g1 q.1).sv = .dat ⟨e.t, e.x, f⟩ := by
  show (((upN (g.ups us) a.tmps.size d).up (.put a.tmps.size .dead)) q.1).sv = _
  rw [rP (by omega), gB (by omega)]; exact he1'
 have hV1 : (upd (qR a) a.tmps.size (zX d.t cc)) q.1 = some (zX e.t cr) := by
  simp only [upd]; rw [if_neg (by omega)]; exact hV
 have hn1 : ∀ j, (g1 j).sv ≠ .dead → j ≠ a.tmps.size := fun j hj e' => by
  subst e'; exact hj (by show (((upN (g.ups us) a.tmps.size d).up (.put a.tmps.size .dead)) a.tmps.size).sv = _; rw [vR])
 obtain ⟨w', S2, β2, hrun, hrel, hstep⟩ := An3 (P := E.P) (t := t) hk hg1r hm hd' hwh hb hV1 hl hw htyd2 (by rw [← htyd2]; exact hty) (hk.sane.rekey [a.tmps.size] (q.1 :: xK q.2)) (.rekey _ _)
  (fun j s b hj ha hbb => by rw [wS (yD hj) (yD (hn1 j ha))]; exact hbb)
  (fun s b hsp hbb => by rw [wS (AV0 hsp) (yD (by omega))]; exact hbb) (pG hvr)
 intro K Q hK
 have hy : a.eval y = zX d.t cc := zJ h3
 refine A4S (As0 ho (zJ hx) hy hrun) ?_
 rw [hdst, A4I]
 refine hK a w' S2 β2 rfl rfl ?_ (h2.trans hstep)
 rw [yW]
 have hD : yH a.tmps.size (g.ups us) := hc.dead.ups fun u hu => hc.dead.lt (fB ht' u hu)
 refine hrel.fin (fun i hi => ?_) (hD.up hq1) (fun i hi => ?_)
 ·show ((g.ups us).up _) i = (g1.up _) i
  have hgi : g1 i = (g.ups us) i := by
   show ((upN (g.ups us) a.tmps.size d).up (.put a.tmps.size .dead)) i = _
   rw [rP (by omega), gB (by omega)]
  by_cases e' : i = q.1
  ·subst e'
   rw [show (g.ups us).up (.mod q.1 _) q.1 = _ from oH (u := .mod q.1 _), show g1.up (.mod q.1 _) q.1 = _ from oH (u := .mod q.1 _)]
   show Up.on _ ((g.ups us) q.1) = Up.on _ (g1 q.1)
   rw [hgi]
  ·rw [rI (u := .mod q.1 _) e', rI (u := .mod q.1 _) e', hgi]
 ·simp only [upd]; rw [if_neg (by omega)]
theorem A2s {q : Pl} {t : Ty} (h : A1I g q = some t) : ∃ d, atP g q.1 q.2 = some d ∧ d.t = t := by
 unfold A1I at h
 simp only [Option.map_eq_some_iff] at h
 exact h
theorem A0j {mv : Bool} {t : TypeId} {x y : Operand} (hc : Ctx E.P H S β a w o g) (hs : Sub gv g) (hm : o.op = .store t x y)
  (hk : An2 gv mv o (E.ty t) x y some = some us) : yJ E.P H S β a w o (g.ups us) := by
 unfold An2 at hk
 split at hk
 ·rename_i q hdst hq
  split at hk
  ·rename_i hta
   simp only [Bool.and_eq_true, decide_eq_true_eq] at hta
   obtain ⟨hta, hsome⟩ := hta
   obtain ⟨τ, hτ⟩ := Option.isSome_iff_exists.1 hsome
   rw [hτ] at hta
   obtain ⟨d0, hat, rfl⟩ := A2s hta
   split at hk
   ·rename_i j r p c s u d hy
    split at hk
    ·rename_i cs hcs
     split at hcs
     ·rename_i hcond
      simp only [Bool.and_eq_true, Bool.not_eq_true', Nat.beq_eq] at hcond
      obtain ⟨⟨⟨hrq, hok⟩, hwh⟩, hjq⟩ := hcond
      split at hk
      ·rename_i uu hu
       obtain ⟨hall, hk⟩ := Ap8 hk
       simp only [Option.some.injEq] at hk; subst hk
       have hpq := A2O hcs hall
       have hjq : j ≠ q.1 := fun e => by rw [e] at hjq; simp at hjq
       obtain ⟨hq', hat', hr⟩ := fX hs hq hat
       obtain ⟨e, cr, b, oo, he, hg, hb, hV, hl, hw, hx, _⟩ := iM hc.rel hq' hat'
       obtain ⟨e1, d', yy, he1, hmm, rfl, hd'⟩ := A2E hu
       have : e1 = e := by rw [← hr, he] at he1; simp only [SV.dat.injEq] at he1; exact he1.symm
       subst this
       have htyd : d0.t = d'.t := cS hmm hg
       have htyd2 : d0.t = d.t := by rcases hd' with rfl | ⟨_, rfl⟩ <;> exact htyd
       have hj : (g j).sv = .pend r p c s u d := hs.sv hy (by simp)
       have hss := hc.rel.slots j
       rw [hj] at hss
       obtain ⟨h0, _, _, _, h4⟩ := hss
       subst hrq
       subst hpq
       obtain ⟨_, β2, cc, hβ2, hvr, hVj⟩ := h4 (by rw [Sub.okU hr]; exact hok) e1 he
       have hk1 : Rel H a.tmps.size (g.up (.put j .dead)) (qR a) w S β := hc.rel.kill fun _ _ => rfl
       have hd1 : ((g.up (.put j .dead)) j).sv = .dead := by rw [vR]
       have hd2 : ((g.up (.put j .dead)) q.1).sv = .dat e1 := by rw [rP (Ne.symm hjq)]; exact he
       obtain ⟨hsane, hkeep⟩ := hk1.repl hβ2 hd1 hd2
       obtain ⟨w', S2, β3, hrun, hrel, hstep⟩ := An3 (P := E.P) (t := t) hk1 hd2 hmm hd' hwh hb hV hl hw htyd2 (by rw [← htyd2]; exact hτ) hsane (A6L.repl_or hβ2 hc.rel.sane).2 hkeep
        (fun s b hsp hbb => by
         rcases hβ2 with rfl | ⟨b2, hb2, rfl⟩
         ·exact hbb
         ·unfold repl
          rw [if_neg (fun e3 => hsp (by simp only [List.cons.injEq, true_and] at e3; rw [e3]; exact List.prefix_rfl)), if_neg (by simp [Ne.symm hjq])]; exact hbb) hvr
       intro K Q hK
       have hjN := hc.dead.lt (show (g j).sv ≠ .dead by rw [hj]; simp)
       have hyv : a.eval (.tmp j) = zX d.t cc := zJ (x := .tmp j) hVj
       refine A4S (As0 hm (zJ hx) hyv hrun) ?_
       rw [hdst, A4I]
       exact hK a w' S2 β3 rfl rfl hrel hstep
      ·cases hk
     ·cases hcs
    ·rename_i hnone
     split at hk
     ·rename_i d' us' ht
      split at hk
      ·rename_i u' hu
       simp only [Option.some.injEq] at hk; subst hk
       rw [← hy] at ht
       exact At3 hc hs hm hdst hq hat hτ ht hu
      ·cases hk
     ·cases hk
   ·split at hk
    ·rename_i d' us' ht
     split at hk
     ·rename_i u' hu
      simp only [Option.some.injEq] at hk; subst hk
      exact At3 hc hs hm hdst hq hat hτ ht hu
     ·cases hk
    ·cases hk
  ·cases hk
 ·cases hk
theorem Az6 {mv : Bool} {t : Option Ty} {x : Operand} (hc : Ctx P H S β a w o g) (hs : Sub gv g) (hm : o.op = .assign x)
  (hk : AT1 gv mv o t x some = some us) : yJ P H S β a w o (g.ups us) := by
 have hr := A4i (P := P) (w := w) (a := a) (.inr hm)
 have tk : ∀ {d us dd}, take gv mv t x (sv gv x) = some (d, us) → o.dst = some dd → yJ P H S β a w o (g.ups (us ++ [.put dd (.dat d)])) := fun ht ho =>
  BK8 hc hs ht ho (fun v hv => by rw [← hv]; exact hr)
 unfold AT1 at hk
 split at hk
 ·obtain ⟨dd, ho, rfl⟩ := yK hk
  exact AV8 hc.rel hc.dead ho (xO hc.opIn ho) hr trivial
 rename_i hnn; clear hnn
 split at hk
 ·rename_i r p c s hx
  obtain ⟨dd, ho, rfl⟩ := yK hk
  obtain ⟨i, rfl, hi⟩ := uP (hs.sv hx (by simp)) (by simp) (by simp) (by simp)
  exact Ax4 hc hi (mH (hc.dead.lt (by rw [hi]; simp))) ho hr
 ·rename_i f rs hx
  obtain ⟨dd, ho, rfl⟩ := yK hk
  obtain ⟨i, rfl, hi⟩ := uP (hs.sv hx (by simp)) (by simp) (by simp) (by simp)
  have hss := hc.rel.slots i
  rw [hi] at hss
  obtain ⟨h1, h2⟩ := hss
  refine AV8 hc.rel hc.dead ho (xO hc.opIn ho) hr (A3g h1 ?_)
  rw [mH (hc.dead.lt (by rw [hi]; simp))] at h2
  exact h2
 ·rename_i r p c s u d hx
  split at hk
  ·rename_i j e ho
   split at hk
   ·rename_i hcond
    simp only [Bool.and_eq_true, Bool.not_eq_true', Nat.beq_eq] at hcond
    obtain ⟨⟨⟨⟨hre, hp⟩, hok⟩, hdat⟩, hje⟩ := hcond
    simp only [Option.some.injEq] at hk; subst hk
    subst hre
    have hp : p = [] := by simpa using hp
    subst hp
    have hje : j ≠ r := fun e => by rw [e] at hje; simp at hje
    have hj : (g j).sv = .pend r [] c s u d := hs.sv hx (by simp)
    have hss := hc.rel.slots j
    rw [hj] at hss
    obtain ⟨h0, _, _, _, h4⟩ := hss
    have hd := xO hc.opIn ho
    intro K Q hK
    have hk1 : Rel H a.tmps.size (g.up (.put j .dead)) (qR a) w S β := hc.rel.kill fun _ _ => rfl
    have hjN := hc.dead.lt (show (g j).sv ≠ .dead by rw [hj]; simp)
    unfold A9c at hdat
    split at hdat
    ·rename_i dr hdr
     have hrr := hs.get hdr (by simp)
     have hdr' : (g r).sv = .dat dr := by rw [hrr]; exact hdr
     obtain ⟨_, β2, cc, hβ2, hvr, hVj⟩ := h4 (by rw [Sub.okU hrr]; exact hok) dr hdr'
     have hd1 : ((g.up (.put j .dead)) j).sv = .dead := by rw [vR]
     have hd2 : ((g.up (.put j .dead)) r).sv = .dat dr := by rw [rP (Ne.symm hje)]; exact hdr'
     obtain ⟨hsane, hkeep⟩ := hk1.repl hβ2 hd1 hd2
     refine tD hr (hK _ _ S β2 wW yS ?_ (A6L.repl_or hβ2 hc.rel.sane).2)
     rw [ho, vS hd, zJ (x := .tmp j) hVj]
     exact hk1.finish (fun _ _ => rfl) (hc.dead.up hjN) (fun _ _ => rfl) hd hsane (fun b hb => ⟨hb, rfl⟩) (fun i s b hi ha hb => ⟨hkeep i s b hi ha hb, rfl⟩) ⟨cc, by simpa [xK] using hvr, by simp [upd]⟩
    ·cases hdat
   ·split at hk
    ·rename_i d' us' ht
     simp only [Option.some.injEq] at hk; subst hk
     rw [← hx] at ht
     exact tk ht ho
    ·cases hk
  ·cases hk
 ·split at hk
  ·rename_i d' us' ht
   obtain ⟨dd, ho, rfl⟩ := yK hk
   exact tk ht ho
  ·cases hk
end
end Go.Rf

end
section
namespace Go.Rf
set_option linter.unusedSectionVars false
variable [T : Laid]
section
variable {P : Program} {H : Nat → Option (List Value)} {N : Nat} {g g' σ : zY} {V V' : Nat → Option Value} {w w' : World} {S S' : Nat → Prop} {β β' : Key → Option Nat} {a : Act} {o : Oper}
variable {E : Env} {gv : zY} {us : List Up}
theorem Au2 {k : Nat} {z : List Value → Bool} (hz : ∀ c, z c = true → c.length = k) : ∀ {n : Nat} {c : List Value}, pU.zarr k z n c = true → c.length = n * k ∧ ∀ i, i < n → z (win c (i * k) k) = true
 | 0, c, h => by
  simp only [pU.zarr, List.isEmpty_iff] at h; subst h
  exact ⟨by simp, fun i hi => by omega⟩
 | n + 1, c, h => by
  simp only [pU.zarr, Bool.and_eq_true] at h
  obtain ⟨h1, h2⟩ := h
  obtain ⟨h3, h4⟩ := Au2 hz h2
  have h5 := hz _ h1
  simp only [List.length_take, List.length_drop] at h3 h5
  have hlen : c.length = (n + 1) * k := by rw [Nat.add_mul]; omega
  refine ⟨hlen, fun i hi => ?_⟩
  cases i with
  | zero => simpa [win] using h1
  | succ i =>
   have := h4 i (by omega)
   unfold win at this ⊢
   rw [List.drop_drop] at this
   rw [Nat.add_mul, Nat.one_mul, Nat.add_comm (i * k) k]; exact this
theorem gS {t : Ty} {c : List Value} (ht : t.agg = false) (h : pU t c = true) : ∃ v, c = [v] ∧ A9O t v = true := by
 cases t <;> simp [Ty.agg] at ht <;> (cases c with
  | nil => simp [pU] at h
  | cons v l => cases l with
   | nil => exact ⟨v, rfl, by simpa [pU] using h⟩
   | cons _ _ => simp [pU] at h)
theorem rX (deep : Bool) : ∀ {τ : Ty} {c : List Value} {k : Key}, pU τ c = true → zP S β H w k τ (Fl.nw deep τ) τ.dflt c
 | .int i, c, k, h => by
  obtain ⟨v, hv0, hz⟩ := gS rfl h
  replace h := hz; clear hz; subst hv0
  cases v <;> first | (exfalso; simp [A9O] at h; done) | skip
  simp only [A9O, Bool.and_eq_true, decide_eq_true_eq] at h
  obtain ⟨rfl, rfl⟩ := h
  cases deep <;> simp [zP, Fl.nw, Fl.full, Fl.half, Fl.base, pX, Fl.pins, Rd, Ty.dflt]
 | .bool, c, k, h => by
  obtain ⟨v, hv0, hz⟩ := gS rfl h
  replace h := hz; clear hz; subst hv0
  cases v <;> first | (exfalso; simp [A9O] at h; done) | skip
  simp only [A9O, Bool.not_eq_true'] at h
  subst h
  cases deep <;> simp [zP, Fl.nw, Fl.full, Fl.half, Fl.base, pX, Fl.pins, Rd, Ty.dflt]
 | .str, c, k, h => by
  obtain ⟨v, hv0, hz⟩ := gS rfl h
  replace h := hz; clear hz; subst hv0
  cases v <;> first | (exfalso; simp [A9O] at h; done) | skip
  simp only [A9O, List.isEmpty_iff] at h
  rename_i s
  have : s = ⟨⟨[]⟩⟩ := by apply ByteArray.ext; apply Array.toList_inj.1; rw [h]
  subst this
  cases deep <;> simp [zP, Fl.nw, Fl.full, Fl.half, Fl.base, pX, Fl.pins, Rd, Ty.dflt]
 | .fn, c, k, h => by
  obtain ⟨v, hv0, hz⟩ := gS rfl h
  replace h := hz; clear hz; subst hv0
  cases v <;> first | (exfalso; simp [A9O] at h; done) | skip
  cases deep <;> simp [zP, Fl.nw, Fl.full, Fl.half, Fl.base, pX, Fl.pins, Rd, Ty.dflt, A1i]
 | .unit, c, k, h => by
  simp only [pU, List.isEmpty_iff] at h; subst h
  cases deep <;> simp [zP, Fl.nw, Fl.full, Fl.half, Fl.base, pX, Fl.pins, Rd]
 | .sl t, c, k, h => by
  obtain ⟨v, hv0, hz⟩ := gS rfl h
  replace h := hz; clear hz; subst hv0
  have : v = .slice none 0 0 := by
   unfold A9O at h
   split at h <;> first | rfl | (rename_i e _; cases e) | (rename_i e; cases e) | (cases h) | skip
   all_goals simp_all
  subst this
  cases deep <;> (simp only [zP, Fl.nw, Fl.full, Fl.half, Fl.base, pX, Fl.pins, Ty.dflt]; exact ⟨by simp, none, 0, rfl, by simp, .inl rfl⟩)
 | .ptr t, c, k, h => by
  obtain ⟨v, hv0, hz⟩ := gS rfl h
  replace h := hz; clear hz; subst hv0
  cases deep <;> simp [zP, Fl.nw, Fl.full, Fl.half, Fl.base, pX, Fl.pins]
 | .arr n t, c, k, h => by
  simp only [pU] at h
  obtain ⟨h1, h2⟩ := Au2 (fun c hc => zS (rX deep (k := []) hc)) h
  have : Fl.nw deep (.arr n t) = .mkar (Fl.nw deep t) := by cases deep <;> rfl
  rw [this, AC2]
  refine ⟨by simp [Ty.dflt], h1, fun i y hy => ?_⟩
  have hy' : (List.replicate n t.dflt)[i]? = some y := hy
  rw [List.getElem?_replicate] at hy'
  split at hy'
  ·rename_i hi
   simp only [Option.some.injEq] at hy'; subst hy'
   exact rX deep (h2 i hi)
  ·cases hy'
 | .pair s u, c, k, h => by
  simp only [pU, Bool.and_eq_true] at h
  have : Fl.nw deep (.pair s u) = .mkpr (Fl.nw deep s) (Fl.nw deep u) := by cases deep <;> rfl
  rw [this, rF]
  exact ⟨rX deep h.1, rX deep h.2⟩
structure Pushed (w w' : World) (ob : Obj) : Prop where
 heap : w'.heap = w.heap.push ob
 out : SameOut w w'
def AT5 (β : Key → Option Nat) (k : Key) (b : Nat) : Key → Option Nat := fun k' => if k' = k then some b else β k'
theorem tR {ob : Obj} (hw : Pushed w w' ob) {b : Nat} (hb : b < w.heap.size) : w'.heap[b]? = w.heap[b]? := by
 rw [hw.heap, Array.getElem?_push, if_neg (by omega)]
theorem BW5 {ob : Obj} (hw : Pushed w w' ob) : w'.heap[w.heap.size]? = some ob := by rw [hw.heap]; simp
theorem Ad4 {ob : Obj} (hw : Pushed w w' ob) : w'.heap.size = w.heap.size + 1 := by rw [hw.heap]; simp
theorem Sane.new {ob : Obj} (h : Sane w S β) (hw : Pushed w w' ob) (k : Key) : Sane w' S (AT5 β k w.heap.size) where
 tab := h.tabs fun b hb => ⟨hb, tR hw (h.liveS b hb)⟩
 inj k1 k2 b h1 h2 := by
  unfold AT5 at h1 h2
  split at h1 <;> split at h2
  ·rename_i e1 e2; rw [e1, e2]
  ·cases h1; have := h.live _ _ h2; omega
  ·cases h2; have := h.live _ _ h1; omega
  ·exact h.inj _ _ _ h1 h2
 sep k1 b h1 h2 := by
  unfold AT5 at h1
  split at h1
  ·cases h1; have := h.liveS _ h2; omega
  ·exact h.sep _ _ h1 h2
 live k1 b h1 := by
  rw [Ad4 hw]
  unfold AT5 at h1
  split at h1
  ·cases h1; omega
  ·have := h.live _ _ h1; omega
 liveS b hb := by rw [Ad4 hw]; have := h.liveS b hb; omega
theorem Step.newB {ob : Obj} (hw : Pushed w w' ob) (k : Key) : Step w S β w' S (AT5 β k w.heap.size) where
 size := by rw [Ad4 hw]; omega
 old b hb _ := tR hw hb
 new k1 b h1 := by
  unfold AT5 at h1
  split at h1
  ·cases h1; exact .inr (Nat.le_refl _)
  ·exact .inl ⟨_, h1⟩
 keepS _ hb := hb
 newS _ hb := .inl hb
 out := hw.out
theorem AA4.new {q : Bool} {cs : Array Value} {e : TypeId} {fz : Nat × Nat} (hw : Pushed w w' (.cells cs e fz)) (hf : fz = (0, 0) ∨ (q = true ∧ cs.size ≤ fz.1)) : AA4 q w' w.heap.size cs := by
 refine ⟨e, fz, BW5 hw, fun o ho h => ?_, hf.elim .inr fun h => .inl h.1⟩
 rcases hf with rfl | hf
 ·exact absurd h.2 (Nat.not_lt_zero _)
 ·exact absurd h.1 (by omega)
theorem A7E {d : Nat} {v : SV} {val : Value} {ob : Obj} (hc : Ctx P H S β a w o g) (ho : o.dst = some d) (hr : (execOp a.eval o).run P w = .ok (.value val) w') (hw : Pushed w w' ob)
  (hn : qE H a.tmps.size (g.up (.put d v)) (upd (qR a) d val) w' S (AT5 β [d] w.heap.size) d v) : yJ P H S β a w o (g.ups [.put d v]) := by
 intro K Q hK
 have hd := xO hc.opIn ho
 refine tD hr (hK _ _ S _ wW yS ?_ (Step.newB hw [d]))
 rw [ho, vS hd]
 exact hc.rel.finish (fun _ _ => rfl) hc.dead (fun _ _ => rfl) hd (hc.rel.sane.new hw [d]) (fun b hb => ⟨hb, tR hw (hc.rel.sane.liveS b hb)⟩)
  (fun j s b hj _ hb => ⟨by unfold AT5; rw [if_neg (by simp [hj])]; exact hb, tR hw (hc.rel.sane.live _ b hb)⟩) hn
theorem A8f {t : TypeId} {τ : Ty} (h : E.tz t = some τ) : E.ty t = some τ ∧ ∃ z, (∀ w, (zeroValue t).run E.P w = .ok z w) ∧ pU τ z.cells.toList = true := by
 unfold Env.tz at h
 split at h
 ·rename_i τ' ht
  split at h
  ·rename_i hz
   simp only [Option.some.injEq] at h; subst h
   refine ⟨ht, ?_⟩
   unfold Env.zok at hz
   split at hz
   ·rename_i i hi
    split at hz
    ·rename_i v hv
     exact ⟨v, fun w => by unfold zeroValue; simp [vY hi, hv], hz⟩
    ·cases hz
   ·cases hz
  ·cases h
 ·cases h
theorem A2F {mv : Bool} {t : TypeId} (hc : Ctx E.P H S β a w o g) (hm : o.op = .alloc t)
  (hk : Ao4 E mv o t some = some us) : yJ E.P H S β a w o (g.ups us) := by
 unfold Ao4 at hk
 split at hk
 ·rename_i τ ht
  obtain ⟨d, ho, rfl⟩ := yK hk
  obtain ⟨hty, z, hz, hzc⟩ := A8f ht
  have hlen := zS (rX (S := S) (β := β) (H := H) (w := w) mv (k := []) hzc)
  refine A7E (w' := { w with heap := w.heap.push (.cells z.cells t) }) (val := .pointer (some ⟨w.heap.size, 0, none⟩)) hc ho ?_ ⟨rfl, rfl, rfl, rfl⟩ ?_
  ·simp [execOp, hm, Instr.alloc, hz, newVar, newRow]
  ·refine ⟨[.pointer (some ⟨w.heap.size, 0, none⟩)], ?_, by simp [upd, zX, Ty.agg]⟩
   simp only [zP, Fl.base]
   exact ⟨by simp [pX, Fl.pins], w.heap.size, z.cells, rfl, by simp [AT5], AA4.new ⟨rfl, rfl, rfl, rfl⟩ (.inl rfl), by simpa using hlen, rX mv hzc⟩
 ·cases hk
theorem A6D {mv : Bool} {t : TypeId} {x : Operand} (hc : Ctx E.P H S β a w o g) (hs : Sub gv g) (hm : o.op = .box t x)
  (hk : BT1 E gv mv o t x some = some us) : yJ E.P H S β a w o (g.ups us) := by
 unfold BT1 at hk
 split at hk
 ·rename_i τ d us' ht hti
  split at hk
  ·rename_i hty
   subst hty
   obtain ⟨dd, ho, rfl⟩ := yK hk
   obtain ⟨ht', _⟩ := dP hs hti
   obtain ⟨S1, β1, c, h1, h2, h3, h4⟩ := gZ hc.rel ht' (n := a.tmps.size) (hc.dead _ (Nat.le_refl _)) (Nat.le_refl _)
   have hwh := AU7 ht'
   have hd := xO hc.opIn ho
   have hD : yH a.tmps.size (g.ups us') := hc.dead.ups fun u hu => hc.dead.lt (fB ht' u hu)
   obtain ⟨cc, hvr, hVn⟩ := h1.dat gL
   have hcc : cc = c := by
    simp only [upd, if_true] at hVn
    exact (uR (Option.some.inj hVn) h4 (zS hvr)).symm
   subst hcc
   have hone := Au1 hwh hvr
   let w' : World := { w with heap := w.heap.push (.cells (zX d.t cc).cells t) }
   have hw' : Pushed w w' (.cells (zX d.t cc).cells t) := ⟨rfl, rfl, rfl, rfl⟩
   have hr : (execOp a.eval o).run E.P w = .ok (.value (.pointer (some ⟨w.heap.size, 0, none⟩))) w' := by
    simp [execOp, hm, Instr.box, zJ h3, newVar, newRow, w']
   intro K Q hK
   have hk1 : Rel H a.tmps.size ((upN (g.ups us') a.tmps.size d).up (.put a.tmps.size .dead)) (upd (qR a) a.tmps.size (zX d.t cc)) w S1 β1 := h1.kill fun _ _ => rfl
   have hsane := (hk1.sane.rekey [a.tmps.size] [dd, 0]).new hw' [dd]
   refine tD hr (hK _ _ S1 _ wW yS ?_ (h2.trans ((Step.rekey [a.tmps.size] [dd, 0]).trans (Step.newB hw' [dd]))))
   rw [ho, vS hd, yW]
   refine hk1.finish (fun i hi => by rw [rP (by omega), gB (by omega)]) hD (fun i hi => by simp only [upd]; rw [if_neg (by omega)]) hd hsane (fun b hb => ⟨hb, tR hw' (hk1.sane.liveS b hb)⟩)
    (fun j s b hj ha hb => ⟨?_, tR hw' (hk1.sane.live _ b hb)⟩) ?_
   ·have hjn : j ≠ a.tmps.size := fun e' => by subst e'; exact ha (by rw [vR])
    unfold AT5
    rw [if_neg (by simp [hj]), wS (by simp [sQ, Ne.symm hj]) (yD hjn)]; exact hb
   ·refine ⟨[.pointer (some ⟨w.heap.size, 0, none⟩)], ?_, by simp [upd, zX, Ty.agg]⟩
    simp only [zP, Fl.base]
    refine ⟨by simp [pX, Fl.pins], w.heap.size, (zX d.t cc).cells, rfl, by simp [AT5], AA4.new hw' (.inl rfl), ?_, ?_⟩
    ·rw [aK h4 hone]; simp [h4]
    ·rw [aK h4 hone]
     refine zL (fun b hb => ⟨hb, tR hw' (hk1.sane.liveS b hb)⟩) (fun s b hb => ⟨?_, tR hw' (hk1.sane.live _ b hb)⟩) hvr
     have : AT5 (rekey β1 [a.tmps.size] [dd, 0]) [dd] w.heap.size ([dd] ++ [0] ++ s) = rekey β1 [a.tmps.size] [dd, 0] ([dd, 0] ++ s) := by
      unfold AT5; rw [if_neg (by simp)]; rfl
     rw [this, Ag0]; exact hb
  ·cases hk
 ·cases hk
end
end Go.Rf

end
section
namespace Go.Rf
set_option linter.unusedSectionVars false
variable [T : Laid]
section
variable {P : Program} {H : Nat → Option (List Value)} {N : Nat} {g g' σ : zY} {V V' : Nat → Option Value} {w w' : World} {S S' : Nat → Prop} {β β' : Key → Option Nat} {a : Act} {o : Oper}
variable {E : Env} {gv : zY} {us : List Up}
theorem eQ {x : Operand} (hs : Sub gv g) (h : publish gv x (sv gv x) = some us) : publish g x (sv g x) = some us ∧ Sub (gv.ups us) (g.ups us) ∧ ∀ u ∈ us, (g u.slot).sv ≠ .dead := by
 cases hv : sv gv x with
 | dat e =>
  rw [hs.sv hv (by simp)]; rw [hv] at h
  refine ⟨h, ?_⟩
  simp only [publish] at h
  split at h
  ·simp only [Option.some.injEq] at h; subst h; exact ⟨hs, by simp⟩
  ·split at h
   ·split at h
    ·rename_i s
     simp only [Option.some.injEq] at h; subst h
     have he : (gv s).sv = .dat e := hv
     exact ⟨hs.up (u := .pub s _) (by simp [Up.slot, he]), by simp [Up.slot, hs.get he (by simp), he]⟩
    ·cases h
   ·cases h
 | als r p c s =>
  rw [hs.sv hv (by simp)]; rw [hv] at h
  simp only [publish] at h ⊢
  split at h
  ·rename_i hok
   split at h
   ·rename_i e he
    have hr := hs.get he (by simp)
    rw [Sub.okA hr, hok, hr, he]
    refine ⟨h, ?_⟩
    split at h
    ·split at h
     ·simp only [Option.some.injEq] at h; subst h; exact ⟨hs, by simp⟩
     ·split at h
      ·simp only [Option.some.injEq] at h; subst h
       exact ⟨hs.up (u := .pub r _) (by simp [Up.slot, he]), by simp [Up.slot, hr, he]⟩
      ·cases h
    ·cases h
   ·cases h
  ·cases h
 | clo f rs =>
  rw [hs.sv hv (by simp)]; rw [hv] at h
  cases rs with
  | nil => refine ⟨h, ?_⟩; simp only [publish, Option.some.injEq] at h; subst h; exact ⟨hs, by simp⟩
  | cons _ _ => simp [publish] at h
 | _ => rw [hv] at h; simp [publish] at h
theorem bT {x : Operand} {d : Dat} (h : Rel H N g V w S β) (hp : publish g x (sv g x) = some us) (hd : yR g (sv g x) = some d) :
  ∃ S1 β1 c, Rel H N (g.ups us) V w S1 β1 ∧ Step w S β w S1 β1 ∧ evl V x = some (zX d.t c) ∧ Rd S1 w d.t d.x c := by
 cases hv : sv g x with
 | dat e =>
  rw [hv] at hp hd
  simp only [yR] at hd
  split at hd
  ·rename_i hw
   simp only [Option.some.injEq] at hd; subst hd
   simp only [publish] at hp
   split at hp
   ·rename_i hf
    simp only [Option.some.injEq] at hp; subst hp
    have hf := vQ hf
    rcases nI h hv with ⟨s, rfl, hs⟩ | ⟨_, c, hc, hrd⟩
    ·obtain ⟨c, hvr, hV⟩ := h.dat hs
     rw [hf, yM] at hvr
     exact ⟨S, β, c, h, .refl, hV, hvr⟩
    ·exact ⟨S, β, c, h, .refl, hc, hrd⟩
   ·split at hp
    ·rename_i s
     simp only [Option.some.injEq] at hp; subst hp
     have he : (g s).sv = .dat e := hv
     obtain ⟨c, hvr, hV⟩ := h.dat he
     exact ⟨_, _, c, h.publish (p := []) he rfl hw, .pub _ _ _, hV, Ay4 (p := []) (e := e) (d := e) rfl hw (by simpa [xK] using hvr)⟩
    ·cases hp
  ·cases hd
 | als r p c s =>
  rw [hv] at hp hd
  obtain ⟨i, rfl, hi⟩ := uP hv (by simp) (by simp) (by simp)
  simp only [yR] at hd
  split at hd
  ·rename_i hok
   split at hd
   ·rename_i e0 hat
    split at hd
    ·rename_i hw
     simp only [Option.some.injEq] at hd; subst hd
     obtain ⟨e, he, hg⟩ := iB hat
     obtain ⟨_, hb, hnd, cr, L, c', k1, k2, k3, k4, k5, k6, k7⟩ := h.als hi hok he hg
     simp only [publish, hok, if_true, he, hg] at hp
     split at hp
     ·rename_i hf
      simp only [Option.some.injEq] at hp; subst hp
      rw [vQ hf, yM] at k6
      exact ⟨S, β, c', h, .refl, k7, k6⟩
     ·simp only [Option.some.injEq] at hp; subst hp
      exact ⟨_, _, c', h.publish he hg hw, .pub _ _ _, k7, Ay4 hg hw k6⟩
    ·cases hd
   ·cases hd
  ·cases hd
 | clo f rs =>
  rw [hv] at hp hd
  cases rs with
  | nil =>
   simp only [publish, Option.some.injEq] at hp; subst hp
   obtain ⟨c, hc, hrd⟩ := sB h (x := x) (d := d) (by rw [hv]; exact hd)
   simp only [yR, cQ, Option.map_some, Option.some.injEq] at hd
   subst hd
   refine ⟨S, β, c, h, .refl, hc, ?_⟩
   simp only [Rd, A1i, oE] at hrd ⊢
   exact hrd
  | cons _ _ => simp [publish] at hp
 | _ => rw [hv] at hp; simp [publish] at hp
theorem AE5 {x : Option Operand} {dflt : Nat} {κ : Nat → Option (List Up)} (hc : Ctx P H S β a w o g) (hs : Sub gv g) (h : AR0 (x.map (sv gv)) dflt κ = some us) :
  ∃ n, κ n = some us ∧ ((x = none ∧ n = dflt) ∨ ∃ op k i, x = some op ∧ a.eval op = .int k i ∧ 0 ≤ i ∧ n = i.toNat) := by
 cases x with
 | none => exact ⟨dflt, h, .inl ⟨rfl, rfl⟩⟩
 | some op =>
  simp only [Option.map_some] at h
  unfold AR0 at h
  split at h
  ·rename_i e; cases e
  ·rename_i k i e
   simp only [Option.some.injEq] at e
   simp only [Bool.cond_eq_ite] at h
   split at h
   ·rename_i h1
    simp only [zA, decide_eq_true_eq] at h1
    exact ⟨_, h, .inr ⟨op, k, i, rfl, zJ (eM hc.rel (hs.sv e (by simp)) iT), h1, rfl⟩⟩
   ·cases h
  ·cases h
theorem AC0 {isSl : Bool} {len cap l h : Nat} {lo hi : Option Operand} {ρ : Operand → Value} (hh : (hi = none ∧ h = len) ∨ ∃ op k i, hi = some op ∧ ρ op = .int k i ∧ 0 ≤ i ∧ h = i.toNat)
  (hl : (lo = none ∧ l = 0) ∨ ∃ op k i, lo = some op ∧ ρ op = .int k i ∧ 0 ≤ i ∧ l = i.toNat) (h1 : h ≤ cap) (h2 : l ≤ h) :
  (Instr.sliceBounds isSl len cap (lo.map ρ) (hi.map ρ) none).run P w = .ok (l, h, cap) w := by
 have b : ∀ (k : IntKind) (i : Int) (y : Nat) (c : BoundsCode), 0 ≤ i → i.toNat ≤ y → (Instr.sliceBound (.int k i) y c).run P w = .ok i.toNat w := fun k i y c hi hy => by
  simp only [Instr.sliceBound, asIntOf, Sem.run_bind, Sem.run_pure, Result.andThen_ok]
  rw [if_pos ⟨hi, by omega⟩, Sem.run_pure]
 unfold Instr.sliceBounds
 rcases hh with ⟨rfl, rfl⟩ | ⟨op, k, i, rfl, ho, hi, rfl⟩ <;> rcases hl with ⟨rfl, rfl⟩ | ⟨op', k', i', rfl, ho', hi', rfl⟩
 ·simp
 ·simp [ho', b k' i' _ _ hi' h2]
 ·simp [ho, b k i _ _ hi h1]
 ·simp [ho, ho', b k i _ _ hi h1, b k' i' _ _ hi' h2]
theorem Ao1 {ρ : Operand → Value} {t : TypeId} {x : Operand} {lo hi : Option Operand} {val : Value} {u : TypeDesc} (ho : o.op = .slice t x lo hi none) (hu : P.underlying t = some u) (hn : ∀ n e, u ≠ .array n e)
  (hr : (Instr.slice t (ρ x) (lo.map ρ) (hi.map ρ) none).run P w = .ok val w) : (execOp ρ o).run P w = .ok (.value val) w := by
 have : (Instr.sliceAt t (ρ x) (lo.map ρ) (hi.map ρ) none).run P w = .ok val w := by
  unfold Instr.sliceAt
  simp only [Sem.run_bind, zC hu, Result.andThen_ok]
  cases u <;> first | exact hr | exact absurd rfl (hn _ _)
 simp only [execOp, ho, Option.map_none, Sem.run_bind, this, Result.andThen_ok, Sem.run_pure]
theorem A8j {α : Type} {s : List α} {l h : Nat} (h1 : h ≤ s.length) (h2 : l ≤ h) : (List.drop l (List.take h s)).length = h - l := by simp; omega
theorem A8u {α : Type} {l h : Nat} : List.drop l (List.take h ([] : List α)) = [] := by simp
theorem A7v {α : Type} {s : List α} {l h i : Nat} {y : α} (hy : nth (List.drop l (List.take h s)) i = some y) : nth s (l + i) = some y := by
 unfold nth at hy ⊢
 rw [List.getElem?_drop, List.getElem?_take] at hy
 split at hy
 ·exact hy
 ·cases hy
theorem As4 {s : List UInt8} {l h : Nat} : (⟨⟨s⟩⟩ : ByteArray).extract l h = ⟨⟨List.drop l (List.take h s)⟩⟩ := by
 have := ByteArray.extract_mk s l h
 rw [List.drop_take]; exact this
theorem A2P {t : TypeId} {x : Operand} {lo hi : Option Operand} (hc : Ctx E.P H S β a w o g) (hs : Sub gv g) (hm : o.op = .slice t x lo hi none)
  (hk : Ar2 gv o (E.ty t) x lo hi some = some us) : yJ E.P H S β a w o (g.ups us) := by
 unfold Ar2 at hk
 split at hk
 ·rename_i s f ht hd
  obtain ⟨h, hk, hh⟩ := AE5 hc hs hk
  obtain ⟨l, hk, hl⟩ := AE5 hc hs hk
  simp only [Bool.cond_eq_ite] at hk
  split at hk
  ·rename_i h1
   split at hk
   ·rename_i h2
    simp only [Nat.ble_eq] at h1 h2
    obtain ⟨c, hcv, hr⟩ := sB hc.rel (uV hs hd)
    simp only [Rd] at hr; subst hr
    have ex : a.eval x = .string ⟨⟨s⟩⟩ := zJ hcv
    have hu := AO9 ht
    refine DV.str.look hc.rel hc.dead hc.opIn hk (Ao1 hm hu (by simp) ?_)
    rw [ex]
    have hb := AC0 (P := E.P) (w := w) (isSl := false) (len := (⟨⟨s⟩⟩ : ByteArray).size) (cap := (⟨⟨s⟩⟩ : ByteArray).size) hh hl h1 h2
    unfold Instr.slice
    simp only [Sem.run_bind, zC hu, Result.andThen_ok, Option.isSome_none, Bool.false_eq_true, if_false, hb, Sem.run_pure]
    congr 2
    exact As4
   ·cases hk
  ·cases hk
 ·rename_i τ τ' s f ht hd
  split at hk
  ·rename_i e; subst e
   split at hk
   ·rename_i us' hp
    obtain ⟨h, hk, hh⟩ := AE5 hc hs hk
    obtain ⟨l, hk, hl⟩ := AE5 hc hs hk
    simp only [Bool.cond_eq_ite] at hk
    split at hk
    ·rename_i h1
     split at hk
     ·rename_i h2
      simp only [Nat.ble_eq] at h1 h2
      obtain ⟨dd, ho, rfl⟩ := yK hk
      obtain ⟨hp', _, halive⟩ := eQ hs hp
      obtain ⟨S1, β1, c, hrel, hst, hcv, hr⟩ := bT hc.rel hp' (uV hs hd)
      simp only [Rd] at hr
      obtain ⟨ad, cap, rfl, hlc, hr⟩ := hr
      have ex : a.eval x = .slice ad (List.length s) cap := zJ hcv
      obtain ⟨e, he, h7⟩ := AS1 ht
      have hb := AC0 (P := E.P) (w := w) (isSl := true) (len := List.length s) (cap := cap) hh hl (by omega) h2
      have hrun : (execOp a.eval o).run E.P w = .ok (.value (.slice (if cap = l then ad else ad.map (·.add (l * τ.size))) (h - l) (cap - l))) w := by
       refine Ao1 hm he (by simp) ?_
       rw [ex]
       unfold Instr.slice
       simp only [Sem.run_bind, zC he, Result.andThen_ok, hb, uW h7, Sem.run_pure]
      refine Ao6 (g := g) (g1 := g.ups us') (V1 := qR a) ho (xO hc.opIn ho) hrel hst (fun _ _ => rfl) (hc.dead.ups fun u hu => hc.dead.lt (halive u hu)) (fun _ _ => rfl) hrun ?_
      have hlen : List.length (List.drop l (List.take h s)) = h - l := A8j h1 h2
      refine Ab4 (c := [.slice (if cap = l then ad else ad.map (·.add (l * τ.size))) (h - l) (cap - l)]) ?_ rfl
      simp only [Rd]
      refine ⟨_, _, by rw [hlen], by rw [hlen]; omega, ?_⟩
      rcases hr with hr | ⟨b, oo, cs, rfl, hS, hB, hz, hr⟩
      ·left; rw [hr]; exact A8u
      ·by_cases hcl : cap = l
       ·left
        have : h = l := by omega
        apply List.length_eq_zero_iff.1; omega
       ·right
        refine ⟨b, oo + l * τ.size, cs, by rw [if_neg hcl]; simp [kH], hS, hB, ?_, fun i y hy => ?_⟩
        ·rw [hlen]
         have : (h - l) * τ.size + l * τ.size ≤ List.length s * τ.size := by rw [← Nat.add_mul]; exact Nat.mul_le_mul_right _ (by omega)
         omega
        ·have hy' : nth s (l + i) = some y := A7v hy
         have := hr (l + i) y hy'
         rw [Nat.add_mul, ← Nat.add_assoc] at this
         exact this
     ·cases hk
    ·cases hk
   ·cases hk
  ·cases hk
 ·cases hk
theorem A7H : ∀ {i : Nat} {t : Ty} {f : Fl} {x : t.D} {c : List Value} {k : Key} {e : Dat}, zP S β H w k t f x c → yO (zI i) t f x = some e →
  ∃ ci, (BH2 t c)[i]? = some (zX e.t ci) ∧ zP S β H w (k ++ xK (zI i)) e.t e.f e.x ci
 | 0, .pair s u, f, x, c, k, e, hv, hg => by
  simp only [zI, yO, Option.some.injEq] at hg; subst hg
  exact ⟨_, rfl, by simpa [zI, xK] using (wX hv).1⟩
 | i + 1, .pair s u, f, x, c, k, e, hv, hg => by
  simp only [zI, yO] at hg
  obtain ⟨ci, h1, h2⟩ := A7H (wX hv).2 hg
  exact ⟨ci, by simpa [BH2] using h1, by simpa [zI, xK] using h2⟩
theorem AZ8 : ∀ {i : Nat}, aQ (zI i) = false
 | 0 => rfl
 | i + 1 => by simp only [zI, aQ, PS.isElm, Bool.false_or]; exact AZ8
theorem Ak2 {x : Operand} {i : Nat} (hc : Ctx P H S β a w o g) (hs : Sub gv g) (hm : o.op = .extract x i)
  (hk : eV gv o x i some = some us) : yJ P H S β a w o (g.ups us) := by
 unfold eV at hk
 split at hk
 ·rename_i s
  split at hk
  ·rename_i d hd
   have hsub := hs.get hd (by simp)
   have hd' : (g s).sv = .tup d := by rw [hsub]; exact hd
   have hss := hc.rel.slots s
   rw [hd'] at hss
   obtain ⟨c, hv, hV⟩ := hss
   split at hk
   ·rename_i e hg
    obtain ⟨ci, h1, h2⟩ := A7H hv hg
    have ex : a.eval (.tmp s) = BC5 d.t c := zJ (x := .tmp s) hV
    have hr : (execOp a.eval o).run P w = .ok (.value (zX e.t ci)) w := by
     have h1' : (BH2 d.t c).toArray[i]? = some (zX e.t ci) := by simpa using h1
     simp only [execOp, hm, ex, BC5, Instr.extract, h1', Sem.run_bind, Sem.run_pure, Result.andThen_ok]
    split at hk
    ·rename_i hf
     have hf := vQ hf
     rw [hf, yM] at h2
     exact DV.look ⟨hf, ci, h2, rfl⟩ hc.rel hc.dead hc.opIn hk hr
    ·split at hk
     ·rename_i hw
      obtain ⟨dd, ho, rfl⟩ := yK hk
      have hN := hc.dead a.tmps.size (Nat.le_refl _)
      have hsN := hc.dead.lt (show (g s).sv ≠ .dead by rw [hd']; simp)
      have hstep : Rel H a.tmps.size (g.up (.put s (.tup ⟨d.t, d.x, iP (zI i) d.f .gone⟩))) (qR a) w S (rekey β (s :: xK (zI i)) [a.tmps.size]) := by
       refine hc.rel.put (hc.rel.sane.rekey _ _) (fun b hb => ⟨hb, rfl⟩) (fun j k b hj ha hb => ⟨?_, rfl⟩) (fun _ _ => rfl) ?_
       ·have hjn : j ≠ a.tmps.size := fun e' => ha (e' ▸ hN)
        rw [wS (yD hjn) (yD hj)]; exact hb
       ·refine ⟨c, oO (fun b hb => ⟨hb, rfl⟩) AZ8 hg (dQ hw) (fun k b hk hb => ⟨?_, rfl⟩) hv, hV⟩
        simp only [List.cons_append, List.nil_append] at hb ⊢
        rw [wS (yD (by omega)) (AV0 hk)]; exact hb
      have hhand := hstep.hand (n := a.tmps.size) (d := e) (c := ci) (pG (by simpa using h2))
      intro K Q hK
      have hdd := xO hc.opIn ho
      refine tD hr (hK _ _ S _ wW yS ?_ ((Step.rekey (s :: xK (zI i)) [a.tmps.size]).trans (Step.rekey [a.tmps.size] [dd])))
      rw [ho, vS hdd]
      exact hhand.land gL (Nat.le_refl _) (by simp [upd]) (fun i hi => gB (by omega)) (hc.dead.up hsN) (fun i hi => by simp only [upd]; rw [if_neg (by omega)]) hdd
     ·cases hk
   ·cases hk
  ·cases hk
 ·cases hk
end
end Go.Rf

end
section
namespace Go.Rf
set_option linter.unusedSectionVars false
variable [T : Laid]
section
variable {P : Program} {H : Nat → Option (List Value)} {N : Nat} {g g' σ : zY} {V V' : Nat → Option Value} {w w' : World} {S S' : Nat → Prop} {β β' : Key → Option Nat} {a : Act} {o : Oper}
variable {E : Env} {gv : zY} {us : List Up}
def iU (z : Array Value) (n : Nat) : Array Value := (Array.range n).map fun i => z[i % z.size]!
theorem gW {z : Array Value} {n : Nat} : (iU z n).size = n := by simp [iU]
theorem A1s {z : Array Value} {m i : Nat} (hi : i < m) : win (iU z (m * z.size)).toList (i * z.size) z.size = z.toList := by
 rcases Nat.eq_zero_or_pos z.size with e | e
 ·have : z = #[] := Array.size_eq_zero_iff.1 e
  subst this; simp [win]
 ·have hle : (i + 1) * z.size ≤ m * z.size := Nat.mul_le_mul_right _ hi
  rw [Nat.add_mul, Nat.one_mul] at hle
  apply List.ext_getElem?
  intro j
  rw [uX]
  by_cases hj : j < z.size
  ·rw [if_pos hj]
   have h1 : i * z.size + j < (iU z (m * z.size)).size := by rw [gW]; omega
   rw [Array.getElem?_toList, Array.getElem?_eq_getElem h1]
   simp only [iU, Array.getElem_map, Array.getElem_range]
   have : (i * z.size + j) % z.size = j := by rw [Nat.mul_comm, Nat.mul_add_mod, Nat.mod_eq_of_lt hj]
   rw [this, Array.getElem?_toList, Array.getElem?_eq_getElem hj, getElem!_pos z j hj]
  ·rw [if_neg hj]; simp; omega
structure SlOK (E : Env) (t e : TypeId) (τ : Ty) (z : Value) : Prop where
 und : E.P.underlying t = some (.slice e)
 elem : tyN E.P 7 e = some τ
 zero : ∀ w, (zeroValue e).run E.P w = .ok z w
 cells : pU τ z.cells.toList = true
 bytes : ∃ i, E.P.info? e = some i ∧ i.bytes ≤ 128
theorem A4l {t : TypeId} {τ' : Ty} (h : E.sl t = some τ') : ∃ τ e z, τ' = .sl τ ∧ SlOK E t e τ z := by
 unfold Env.sl at h
 split at h
 ·rename_i τ e ht hu
  split at h
  ·rename_i hz
   simp only [Option.some.injEq] at h
   simp only [Bool.and_eq_true] at hz
   obtain ⟨hz, hb⟩ := hz
   obtain ⟨e', he', h7⟩ := AS1 ht
   rw [hu] at he'
   simp only [Option.some.injEq, TypeDesc.slice.injEq] at he'
   subst he'
   unfold Env.zok at hz
   split at hz
   ·rename_i i hi
    split at hz
    ·rename_i v hv
     refine ⟨τ, e, v, h.symm, hu, h7, fun w => by unfold zeroValue; simp [vY hi, hv], hz, i, hi, ?_⟩
     unfold Env.small at hb
     rw [hi] at hb
     simpa [Nat.ble_eq] using hb
    ·cases hz
   ·cases hz
  ·cases h
 ·cases h
theorem SlOK.size {t e : TypeId} {τ : Ty} {z : Value} (h : SlOK E t e τ z) : z.cells.size = τ.size := by
 have := zS (rX (S := fun _ => False) (β := fun _ => none) (H := fun _ => none) (w := default) false (k := []) h.cells)
 simpa using this
theorem AH2 {n : Int} (h0 : 0 ≤ n) (h1 : n ≤ 1099511627776) : IntKind.i64.wrap n = n := by
 simp only [IntKind.wrap, IntKind.bits, IntKind.signed]
 have : n % (2 ^ 64 : Int) = n := Int.emod_eq_of_lt h0 (by omega)
 simp only [this]
 simp
 intro h
 omega
theorem A06 {τ : Ty} {z : Value} {k : Key} {mv : Bool} {m : Nat} (hz : pU τ z.cells.toList = true) (hs : z.cells.size = τ.size) {i : Nat} (hi : i < m) :
  zP S β H w k τ (Fl.nw mv τ) τ.dflt (win (iU z.cells (m * τ.size)).toList (i * τ.size) τ.size) := by
 rw [← hs, A1s hi]; exact rX mv hz
theorem A0C {t e : TypeId} {τ : Ty} {z : Value} {n m : Int} (h : SlOK E t e τ z) (h0 : zA n = true) (h1 : leI n m = true) (h2 : yB m.toNat = true) :
  (Instr.makeSlice t (.int .i64 n) (.int .i64 m)).run E.P w = .ok (.slice (some ⟨w.heap.size, 0, none⟩) n.toNat m.toNat) { w with heap := w.heap.push (.cells (iU z.cells (m.toNat * τ.size)) e) } := by
 simp only [zA, leI, decide_eq_true_eq] at h0 h1
 have h2 := AR6 h2
 obtain ⟨i, hi, hb⟩ := h.bytes
 have wn : IntKind.i64.wrap n = n := AH2 h0 (by omega)
 have wm : IntKind.i64.wrap m = m := AH2 (by omega) (by omega)
 have hsz : (sizeOf e).run E.P w = .ok τ.size w := uW h.elem
 have hmul : (i.bytes : Int) * m ≤ 2 ^ 48 := by
  have : (i.bytes : Int) * m ≤ 128 * 1099511627776 := Int.mul_le_mul (by omega) (by omega) (by omega) (by omega)
  omega
 unfold Instr.makeSlice
 simp only [Sem.run_bind, zC h.und, Result.andThen_ok, asInt, asIntOf, Sem.run_pure, vY hi, wn, wm]
 have hc : ¬ ((((decide (m < 0) || decide ((i.bytes : Int) * m > 2 ^ 48)) || decide (n < 0)) || decide (n > m)) = true) := by
  simp only [Bool.or_eq_true, decide_eq_true_eq]
  omega
 rw [if_neg hc]
 by_cases hn : m.toNat * τ.size = 0
 ·have e0 : Array.range 0 = #[] := rfl
  simp [run_askRoom, hsz, hn, newRow, iU, e0]
 ·simp [run_askRoom, hsz, hn, newRow, iU, h.zero]
theorem Aa8 {mv : Bool} {t : TypeId} {l c : Operand} (hc : Ctx E.P H S β a w o g) (hs : Sub gv g) (hm : o.op = .makeSlice t l c)
  (hk : gV E gv mv o t l c some = some us) : yJ E.P H S β a w o (g.ups us) := by
 unfold gV at hk
 split at hk
 ·rename_i τ n m ht hl hcap
  simp only [Bool.cond_eq_ite] at hk
  split at hk
  ·rename_i h0
   split at hk
   ·rename_i h1
    split at hk
    ·rename_i h2
     obtain ⟨d, ho, rfl⟩ := yK hk
     obtain ⟨τ2, e, z, heq, hok⟩ := A4l ht
     simp only [Ty.sl.injEq] at heq
     subst heq
     have el := zJ (eM hc.rel (hs.sv hl (by simp)) iT)
     have ec := zJ (eM hc.rel (hs.sv hcap (by simp)) iT)
     have hrun := A0C (w := w) hok h0 h1 h2
     have h01 : n.toNat ≤ m.toNat := by simp only [leI, decide_eq_true_eq] at h1; omega
     refine A7E (w' := { w with heap := w.heap.push (.cells (iU z.cells (Int.toNat m * τ.size)) e) }) (val := .slice (some ⟨w.heap.size, 0, none⟩) (Int.toNat n) (Int.toNat m)) hc ho ?_ ⟨rfl, rfl, rfl, rfl⟩ ?_
     ·simp only [execOp, hm, el, ec, Sem.run_bind]
      exact congrArg (fun r : Result Value => Result.andThen r fun v w' => Result.ok (Next.value v) w') hrun
     ·refine ⟨[.slice (some ⟨w.heap.size, 0, none⟩) (Int.toNat n) (Int.toNat m)], ?_, by simp [upd, zX, Ty.agg]⟩
      simp only [zP, Fl.base]
      refine ⟨by simp [pX, Fl.pins], some ⟨w.heap.size, 0, none⟩, Int.toNat m, by rw [List.length_replicate], by rw [List.length_replicate]; exact h01, .inr ⟨w.heap.size, 0, _, rfl, by simp [AT5], AA4.new ⟨rfl, rfl, rfl, rfl⟩ (.inl rfl), ?_, fun i y hy => ?_⟩⟩
      ·rw [gW]; omega
      ·have hy' : (List.replicate (Int.toNat n) τ.dflt)[i]? = some y := hy
       rw [List.getElem?_replicate] at hy'
       split at hy'
       ·rename_i hi
        simp only [Option.some.injEq] at hy'; subst hy'
        simp only [Nat.zero_add]
        exact A06 hok.cells hok.size (by omega)
       ·cases hy'
    ·cases hk
   ·cases hk
  ·cases hk
 ·cases hk
theorem A8N {α γ : Type} {f : α → γ} {l : List α} {i : Nat} {y : γ} (h : nth (l.map f) i = some y) : ∃ b, l[i]? = some b ∧ y = f b := by
 unfold nth at h
 rw [List.getElem?_map, Option.map_eq_some_iff] at h
 obtain ⟨b, h1, h2⟩ := h
 exact ⟨b, h1, h2.symm⟩
theorem Av2 {xd : List UInt8} {e : TypeId} {d cap : Nat} (hcap0 : cap = grownCap w xd.length 0 e) :
  zP S (AT5 β [d] w.heap.size) H (w.drew.alloc (.cells (bytesRow ⟨⟨xd⟩⟩ cap) e ((bytesRow ⟨⟨xd⟩⟩ cap).size, (bytesRow ⟨⟨xd⟩⟩ cap).size + 1))) [d] (.sl (.int .u8)) (.own .sh) (List.map (fun b : UInt8 => (b.toNat : Int)) xd)
   [.slice (some ⟨w.heap.size, 0, none⟩) (⟨⟨xd⟩⟩ : ByteArray).size cap] := by
 have hcap : xd.length ≤ cap := by rw [hcap0]; exact grownCap_ge w _ 0 e
 have hlen : (List.map (fun b : UInt8 => (b.toNat : Int)) xd).length = (⟨⟨xd⟩⟩ : ByteArray).size := by rw [List.length_map]; rfl
 have hsz : (bytesRow ⟨⟨xd⟩⟩ cap).size = cap := by
  simp only [bytesRow, Array.size_append, Array.size_map, Array.size_replicate]
  have h3 : (⟨⟨xd⟩⟩ : ByteArray).data.size = xd.length := rfl
  have h2 : (⟨⟨xd⟩⟩ : ByteArray).size = xd.length := rfl
  rw [h3, h2]
  omega
 simp only [zP, Fl.base]
 refine ⟨by simp [pX, Fl.pins], some ⟨w.heap.size, 0, none⟩, cap, congrArg (fun n => [Value.slice (some ⟨w.heap.size, 0, none⟩) n cap]) hlen.symm, Nat.le_trans (Nat.le_of_eq hlen) hcap, .inr ⟨w.heap.size, 0, _, rfl, by simp [AT5], AA4.new ⟨rfl, rfl, rfl, rfl⟩ (.inr ⟨rfl, Nat.le_refl _⟩), ?_, fun i y hy => ?_⟩⟩
 ·rw [hsz]; simp [Ty.size]
 ·obtain ⟨b, hb1, hb2⟩ := A8N hy
  subst hb2
  have hi : i < xd.length := (List.getElem?_eq_some_iff.1 hb1).1
  have hbr := bytesRow_at ⟨⟨xd⟩⟩ cap i hi
  refine ⟨by simp [pX, Fl.pins], ?_⟩
  simp only [Rd, Ty.size, Nat.mul_one, Nat.zero_add]
  apply List.ext_getElem?
  intro j
  rw [uX]
  cases j with
  | zero =>
   rw [if_pos (by decide), Nat.add_zero, Array.getElem?_toList, hbr]
   have : b = xd[i] := (List.getElem?_eq_some_iff.1 hb1).2.symm
   subst this
   rfl
  | succ j => rw [if_neg (by omega)]; simp
theorem Al2 {s t : TypeId} {x : Operand} (hc : Ctx E.P H S β a w o g) (hs : Sub gv g) (ho : o.op = .convert s t x) (h1 : E.ty s = some .str) (h2 : E.ty t = some (.sl (.int .u8)))
  (hk : Ak5 (E.ty s) (E.ty t) (yR gv (sv gv x)) (fun d => qK o [] (.dat d) some) = some us) : yJ E.P H S β a w o (g.ups us) := by
 cases hd : yR gv (sv gv x) with
 | none => rw [hd, h1, h2] at hk; simp [Ak5] at hk
 | some d =>
  obtain ⟨c, hcv, hr⟩ := sB hc.rel (uV hs hd)
  have ex := zJ hcv
  rw [hd, h1, h2] at hk
  obtain ⟨td, xd, fd⟩ := d
  cases td <;> simp only [Ak5, reduceCtorEq] at hk
  obtain ⟨dd, hdst, rfl⟩ := yK hk
  simp only [Rd] at hr; subst hr
  have hx : a.eval x = .string ⟨⟨xd⟩⟩ := ex
  obtain ⟨e, hse, he⟩ := AS1 h2
  have hrun := run_bytes_of_string (P := E.P) w s t e ⟨⟨xd⟩⟩ (AO9 h1) hse (A8i he)
  refine A7E (ob := .cells (bytesRow ⟨⟨xd⟩⟩ (grownCap w (⟨⟨xd⟩⟩ : ByteArray).size 0 e)) e ((bytesRow ⟨⟨xd⟩⟩ (grownCap w (⟨⟨xd⟩⟩ : ByteArray).size 0 e)).size, (bytesRow ⟨⟨xd⟩⟩ (grownCap w (⟨⟨xd⟩⟩ : ByteArray).size 0 e)).size + 1))
   (w' := w.drew.alloc (.cells (bytesRow ⟨⟨xd⟩⟩ (grownCap w (⟨⟨xd⟩⟩ : ByteArray).size 0 e)) e ((bytesRow ⟨⟨xd⟩⟩ (grownCap w (⟨⟨xd⟩⟩ : ByteArray).size 0 e)).size, (bytesRow ⟨⟨xd⟩⟩ (grownCap w (⟨⟨xd⟩⟩ : ByteArray).size 0 e)).size + 1)))
   (val := .slice (some ⟨w.heap.size, 0, none⟩) (⟨⟨xd⟩⟩ : ByteArray).size (grownCap w (⟨⟨xd⟩⟩ : ByteArray).size 0 e)) hc hdst ?_ ⟨rfl, rfl, rfl, rfl⟩ ?_
  ·simp only [execOp, ho, hx, Sem.run_bind]
   exact congrArg (fun r : Result Value => Result.andThen r fun v w' => Result.ok (Next.value v) w') hrun
  ·exact ⟨_, Av2 rfl, by simp [upd, zX, Ty.agg]⟩
end
end Go.Rf

end
section
namespace Go.Rf
set_option linter.unusedSectionVars false
variable [T : Laid]
section
variable {P : Program} {H : Nat → Option (List Value)} {N : Nat} {g g' σ : zY} {V V' : Nat → Option Value} {w w' : World} {S S' : Nat → Prop} {β β' : Key → Option Nat} {a : Act} {o : Oper}
variable {E : Env} {gv : zY} {us : List Up}
theorem Aj0 {off : Nat} : ∀ {vs : List Value} {k : Nat} {cells : Array Value}, off + k + vs.length ≤ cells.size →
  ((vs.zipIdx k).foldl (fun (cs : Array Value) (x : Value × Nat) => cs.setIfInBounds (off + x.2) x.1) cells).toList = iO cells.toList (off + k) vs
 | [], k, cells, _ => by simp [iO]
 | v :: vs, k, cells, h => by
  simp only [List.length_cons] at h
  simp only [List.zipIdx_cons, List.foldl_cons]
  rw [Aj0 (by simp; omega)]
  apply List.ext_getElem?
  intro j
  rw [nE (by simp; omega), nE (by simp; omega), Array.toList_setIfInBounds, List.getElem?_set]
  simp only [List.length_cons]
  by_cases h1 : j < off + k
  ·rw [if_pos (by omega), if_neg (by omega), if_pos h1]
  ·rw [if_neg h1]
   by_cases h2 : j = off + k
   ·subst h2
    rw [if_pos (by omega), if_pos rfl, if_pos (by simp; omega), if_pos (by omega)]
    simp
   ·have e : j - (off + k) = (j - (off + (k + 1))) + 1 := by omega
    rw [if_neg (show ¬ j < off + (k + 1) by omega), e, List.getElem?_cons_succ]
    by_cases h3 : j < off + (k + 1) + vs.length
    ·rw [if_pos h3, if_pos (show j < off + k + (vs.length + 1) by omega)]
    ·rw [if_neg h3, if_neg (show ¬ off + k = j by omega), if_neg (show ¬ j < off + k + (vs.length + 1) by omega)]
def BY0 (place : Nat → Option (Nat × Nat)) (i j : Nat) : Prop := ∀ o s o' s', place i = some (o, s) → place j = some (o', s') → o + s ≤ o' ∨ o' + s' ≤ o
theorem A3Q {place : Nat → Option (Nat × Nat)} : ∀ {ps : List (Nat × Value)} {cells : Array Value}, (∀ p ∈ ps, ∃ off, place p.1 = some (off, p.2.cells.size) ∧ off + p.2.cells.size ≤ cells.size) → ps.Pairwise (fun p q => BY0 place p.1 q.1) →
  ∃ r, Instr.fill place cells ps = some r ∧ r.size = cells.size ∧ (∀ p ∈ ps, ∀ off s, place p.1 = some (off, s) → win r.toList off s = p.2.cells.toList) ∧
   (∀ o m, (∀ p ∈ ps, ∀ off s, place p.1 = some (off, s) → o + m ≤ off ∨ off + s ≤ o) → win r.toList o m = win cells.toList o m)
 | [], cells, _, _ => ⟨cells, rfl, rfl, by simp, fun _ _ _ => rfl⟩
 | (i, v) :: ps, cells, h, hp => by
  obtain ⟨off, h1, h2⟩ := h (i, v) (by simp)
  simp only at h1 h2
  rw [List.pairwise_cons] at hp
  let c1 := v.cells.zipIdx.foldl (fun (cs : Array Value) (x : Value × Nat) => cs.setIfInBounds (off + x.2) x.1) cells
  have hc1 : c1.toList = iO cells.toList off v.cells.toList := by
   have := Aj0 (off := off) (vs := v.cells.toList) (k := 0) (cells := cells) (by simpa using h2)
   rw [Nat.add_zero] at this
   rw [← this]
   show (v.cells.zipIdx.foldl _ cells).toList = _
   rw [← Array.foldl_toList, Array.toList_zipIdx]
  have hs1 : c1.size = cells.size := by
   have := congrArg List.length hc1
   rw [jO (by simpa using h2)] at this
   simpa using this
  obtain ⟨r, k1, k2, k3, k4⟩ := A3Q (place := place) (ps := ps) (cells := c1) (fun p hpm => by
   obtain ⟨off', e1, e2⟩ := h p (by simp [hpm])
   exact ⟨off', e1, by rw [hs1]; exact e2⟩) hp.2
  refine ⟨r, ?_, k2.trans hs1, ?_, ?_⟩
  ·unfold Instr.fill
   rw [h1]
   simp only
   rw [if_neg (by simp; omega)]
   exact k1
  ·intro p hpm off' s hpl
   rcases List.mem_cons.1 hpm with rfl | hpm
   ·simp only at hpl
    rw [h1] at hpl
    simp only [Option.some.injEq, Prod.mk.injEq] at hpl
    obtain ⟨rfl, rfl⟩ := hpl
    rw [k4 off v.cells.size (fun q hq o' s' hq' => hp.1 q hq off _ o' s' h1 hq'), hc1]
    have := kN (c := cells.toList) (d := v.cells.toList) (o := off) (by simpa using h2)
    simpa using this
   ·exact k3 p hpm off' s hpl
  ·intro oo m hall
   rw [k4 oo m (fun p hpm => hall p (by simp [hpm])), hc1]
   exact vW (by simpa using h2) (by simpa using hall (i, v) (by simp) off _ h1)
theorem A9Z (hs : Sub gv g) {n : Nat} {d : Dat} (hn : (gv n).sv = .dead) : Sub gv (upN g n d) := fun i => by
 by_cases e : i = n
 ·subst e; exact .inl hn
 ·rw [gB e]; exact hs i
theorem AD2 {mv : Bool} {ts : Nat → Option Ty} : ∀ {l : List (Nat × Operand)} {g gv : zY} {V : Nat → Option Value} {S : Nat → Prop} {β : Key → Option Nat} {n : Nat} {ds : List (Nat × Dat)} {us : List Up},
  Rel H N g V w S β → Sub gv g → yH N gv → (∀ i, n ≤ i → (g i).sv = .dead) → N ≤ n → kM gv mv ts l = some (ds, us) →
  ∃ (S1 : Nat → Prop) (β1 : Key → Option Nat) (g1 : zY) (V1 : Nat → Option Value) (cs : List (List Value)), Rel H N g1 V1 w S1 β1 ∧ Step w S β w S1 β1 ∧ Sub (gv.ups us) g1 ∧ yH N (gv.ups us) ∧ (∀ i, i < N → g1 i = (g.ups us) i ∧ V1 i = V i) ∧ (∀ i, N ≤ i → i < n → g1 i = g i ∧ V1 i = V i) ∧
   (∀ i, n + ds.length ≤ i → (g1 i).sv = .dead) ∧ cs.length = ds.length ∧ (∀ u ∈ us, u.slot < N) ∧
   ds.map (·.1) = l.map (·.1) ∧
   (∀ j (p : Nat × Dat) (c : List Value), ds[j]? = some p → cs[j]? = some c → (g1 (n + j)).sv = .dat p.2 ∧ V1 (n + j) = some (zX p.2.t c) ∧ c.length = p.2.t.size ∧ p.2.f.whole = true ∧
    ∃ x, l[j]? = some x ∧ ((∀ q ∈ l, ∀ s, q.2 = .tmp s → s < N) → evl V x.2 = some (zX p.2.t c)))
 | [], g, gv, V, S, β, n, ds, us, h, hs, hD, hdead, hN, ht => by
  simp only [kM, Option.some.injEq, Prod.mk.injEq] at ht
  obtain ⟨rfl, rfl⟩ := ht
  exact ⟨S, β, g, V, [], h, .refl, hs, hD, fun _ _ => ⟨rfl, rfl⟩, fun _ _ _ => ⟨rfl, rfl⟩, by simpa using hdead, rfl, by simp, rfl, by simp⟩
 | (i, x) :: l, g, gv, V, S, β, n, ds, us, h, hs, hD, hdead, hN, ht => by
  simp only [kM] at ht
  split at ht
  ·rename_i d us1 ht1
   simp only [Option.map_eq_some_iff, Prod.mk.injEq] at ht
   obtain ⟨⟨ds2, us2⟩, ht2, rfl, rfl⟩ := ht
   simp only at *
   obtain ⟨ht1', hsub1⟩ := dP hs ht1
   have hnd := hdead n (Nat.le_refl _)
   have halive := fB ht1
   have hslot : ∀ u ∈ us1, u.slot < N := fun u hu => hD.lt (halive u hu)
   have hD1 : yH N (gv.ups us1) := hD.ups hslot
   obtain ⟨S1, β1, c, k1, k2, k3, k4⟩ := gZ h ht1' hnd hN
   have hdead' : ∀ i, n + 1 ≤ i → ((upN (g.ups us1) n d) i).sv = .dead := fun i hi => by
    rw [gB (by omega)]
    have : ∀ (us : List Up) (g : zY), (∀ u ∈ us, u.slot < N) → (g i).sv = .dead → ((g.ups us) i).sv = .dead := by
     intro us
     induction us with
     | nil => intro g _ h; exact h
     | cons u us ih => intro g hu h; exact ih (g.up u) (fun v hv => hu v (by simp [hv])) (by rw [rI (by have := hu u (by simp); omega)]; exact h)
    exact this us1 g hslot (hdead i (by omega))
   obtain ⟨S2, β2, g2, V2, cs, q1, q2, q3, q4, q5, q6, q7, q8, q9, q10, q11⟩ := AD2 (l := l) (g := upN (g.ups us1) n d) (gv := gv.ups us1) (n := n + 1) k1 (A9Z hsub1 (hD1 n hN)) hD1 hdead' (by omega) ht2
   have upsN : ∀ (us : List Up) (g : zY) (j : Nat), j ≠ n → ((upN g n d).ups us) j = (g.ups us) j := by
    intro us
    induction us with
    | nil => intro g j hj; exact gB hj
    | cons u us ih =>
     intro g j hj
     show (((upN g n d).up u).ups us) j = ((g.up u).ups us) j
     have : ∀ (g1 g2 : zY), (∀ k, k ≠ n → g1 k = g2 k) → ∀ k, k ≠ n → (g1.ups us) k = (g2.ups us) k := by
      clear ih
      induction us with
      | nil => intro g1 g2 h; exact h
      | cons v vs ih2 =>
       intro g1 g2 h
       refine ih2 _ _ fun k hk => ?_
       by_cases e : k = v.slot
       ·subst e; rw [oH, oH, h _ hk]
       ·rw [rI e, rI e, h _ hk]
     refine this _ _ (fun k hk => ?_) j hj
     by_cases e : k = u.slot
     ·subst e; rw [oH, oH, gB hk]
     ·rw [rI e, rI e, gB hk]
   refine ⟨S2, β2, g2, V2, c :: cs, q1, k2.trans q2, by rw [yW]; exact q3, by rw [yW]; exact q4, fun j hj => ?_, fun j h1 h2 => ?_, fun j hj => q7 j (by simp at hj ⊢; omega), by simp [q8], ?_, by simp [q10], ?_⟩
   ·obtain ⟨e1, e2⟩ := q5 j hj
    rw [e1, e2, yW, upsN us2 _ j (by omega)]
    exact ⟨rfl, by simp only [upd]; rw [if_neg (by omega)]⟩
   ·obtain ⟨e1, e2⟩ := q6 j h1 (by omega)
    rw [e1, e2, gB (by omega)]
    have : ∀ (us : List Up) (g : zY), (∀ u ∈ us, u.slot < N) → (g.ups us) j = g j := by
     intro us
     induction us with
     | nil => intro g _; rfl
     | cons u us ih => intro g hu; rw [show g.ups (u :: us) = (g.up u).ups us from rfl, ih (g.up u) (fun v hv => hu v (by simp [hv])), rI (by have := hu u (by simp); omega)]
    exact ⟨this us1 g hslot, by simp only [upd]; rw [if_neg (by omega)]⟩
   ·intro u hu
    rcases List.mem_append.1 hu with hu | hu
    ·exact hslot u hu
    ·exact q9 u hu
   ·intro j p cc hp hc
    cases j with
    | zero =>
     simp only [List.getElem?_cons_zero, Option.some.injEq] at hp hc
     subst hp; subst hc
     obtain ⟨e1, e2⟩ := q6 n hN (by omega)
     refine ⟨by rw [Nat.add_zero, e1, gL], by rw [Nat.add_zero, e2]; simp [upd], k4, AU7 ht1', (i, x), rfl, fun _ => k3⟩
    | succ j =>
     simp only [List.getElem?_cons_succ] at hp hc
     obtain ⟨e1, e2, e3, e4, y, e5, e6⟩ := q11 j p cc hp hc
     rw [show n + (j + 1) = n + 1 + j by omega]
     refine ⟨e1, e2, e3, e4, y, by simpa using e5, fun hlt => ?_⟩
     have hy : ∀ s, y.2 = .tmp s → s < N := hlt y (by simp [List.mem_of_getElem? e5])
     have := e6 (fun q hq => hlt q (by simp [hq]))
     revert this
     cases hyx : y.2 with
     | tmp s =>
      intro this
      simp only [evl, upd] at this ⊢
      rw [if_neg (fun e => absurd (hy s hyx) (by rw [e]; exact Nat.not_lt.2 hN))] at this; exact this
     | _ => exact fun h => h
  ·cases ht
end
end Go.Rf

end
section
namespace Go.Rf
set_option linter.unusedSectionVars false
variable [T : Laid]
section
variable {P : Program} {H : Nat → Option (List Value)} {N : Nat} {g g' σ : zY} {V V' : Nat → Option Value} {w w' : World} {S S' : Nat → Prop} {β β' : Key → Option Nat} {a : Act} {o : Oper}
variable {E : Env} {gv : zY} {us : List Up}
structure Mover where
 n : Nat
 dst : Key
 d : Dat
 c : List Value
theorem At5 : ∀ {ps : List Mover} {β : Key → Option Nat}, Sane w S β → (∀ p ∈ ps, zP S β H w [p.n] p.d.t p.d.f p.d.x p.c) →
  ps.Pairwise (fun p q => p.n ≠ q.n ∧ (∀ s, sQ p.dst (q.dst ++ s) = none) ∧ ∀ s, sQ q.dst (p.dst ++ s) = none) → (∀ p ∈ ps, ∀ q ∈ ps, ∀ s, sQ [p.n] (q.dst ++ s) = none ∧ sQ q.dst (p.n :: s) = none) →
  ∃ β', Sane w S β' ∧ Step w S β w S β' ∧ (∀ k b, (∀ p ∈ ps, sQ p.dst k = none ∧ sQ [p.n] k = none) → β k = some b → β' k = some b) ∧ ∀ p ∈ ps, zP S β' H w p.dst p.d.t p.d.f p.d.x p.c
 | [], β, hs, _, _, _ => ⟨β, hs, .refl, fun _ _ _ h => h, by simp⟩
 | p :: ps, β, hs, hv, hp, hn => by
  rw [List.pairwise_cons] at hp
  obtain ⟨β', k1, k2, k3, k4⟩ := At5 (ps := ps) (hs.rekey [p.n] p.dst) (fun q hq => by
   refine zL (fun b hb => ⟨hb, rfl⟩) (fun s b hb => ⟨?_, rfl⟩) (hv q (by simp [hq]))
   have h1 := hp.1 q hq
   rw [wS]
   ·exact hb
   ·exact (hn q (by simp [hq]) p (by simp) s).2
   ·simp [sQ, h1.1]) hp.2 (fun q hq r hr => hn q (by simp [hq]) r (by simp [hr]))
  refine ⟨β', k1, (Step.rekey _ _).trans k2, fun k b hk hb => ?_, fun q hq => ?_⟩
  ·refine k3 k b (fun q hq => hk q (by simp [hq])) ?_
   have := hk p (by simp)
   rw [wS this.1 this.2]; exact hb
  ·rcases List.mem_cons.1 hq with rfl | hq
   ·refine zL (p := q.dst) (fun b hb => ⟨hb, rfl⟩) (fun s b hb => ⟨?_, rfl⟩) (pG (hv q (by simp)))
    refine k3 _ b (fun r hr => ⟨(hp.1 r hr).2.2 s, (hn r (by simp [hr]) q (by simp) s).1⟩) hb
   ·exact k4 q hq
def dH (g : zY) (V : Nat → Option Value) (n : Nat) (ds : List (Nat × Dat)) (cs : List (List Value)) : Prop :=
 cs.length = ds.length ∧ ∀ j (p : Nat × Dat) (c : List Value), ds[j]? = some p → cs[j]? = some c → (g (n + j)).sv = .dat p.2 ∧ V (n + j) = some (zX p.2.t c) ∧ c.length = p.2.t.size ∧ p.2.f.whole = true
def At4 (n : Nat) (dst : Nat → Key) (ds : List (Nat × Dat)) (cs : List (List Value)) : List Mover :=
 ((ds.zip cs).zipIdx).map fun x => ⟨n + x.2, dst x.1.1.1, x.1.1.2, x.1.2⟩
theorem AE9 {n : Nat} {dst : Nat → Key} {ds : List (Nat × Dat)} {cs : List (List Value)} {m : Mover} (h : m ∈ At4 n dst ds cs) :
  ∃ (j : Nat) (p : Nat × Dat) (c : List Value), ds[j]? = some p ∧ cs[j]? = some c ∧ m = ⟨n + j, dst p.1, p.2, c⟩ := by
 unfold At4 at h
 rw [List.mem_map] at h
 obtain ⟨⟨⟨p, c⟩, j⟩, hx, rfl⟩ := h
 rw [List.mem_zipIdx_iff_getElem?] at hx
 simp only [List.getElem?_zip_eq_some] at hx
 exact ⟨j, p, c, hx.1, hx.2, rfl⟩
theorem A59 {n : Nat} {dst : Nat → Key} {ds : List (Nat × Dat)} {cs : List (List Value)} {j : Nat} {p : Nat × Dat} {c : List Value} (h1 : ds[j]? = some p) (h2 : cs[j]? = some c) :
  (⟨n + j, dst p.1, p.2, c⟩ : Mover) ∈ At4 n dst ds cs := by
 unfold At4
 rw [List.mem_map]
 exact ⟨((p, c), j), by rw [List.mem_zipIdx_iff_getElem?]; simp only [List.getElem?_zip_eq_some]; exact ⟨h1, h2⟩, rfl⟩
theorem lF : ∀ {l : List Nat}, mJ l = true → l.Nodup
 | [], _ => List.nodup_nil
 | a :: l, h => by
  simp only [mJ, Bool.and_eq_true, Bool.not_eq_true', List.any_eq_false, Nat.beq_eq] at h
  exact List.nodup_cons.2 ⟨fun hm => h.1 a hm rfl, lF h.2⟩
theorem A0U {n d : Nat} {dst : Nat → Key} {ds : List (Nat × Dat)} {cs : List (List Value)} (h : Rel H N g V w S β) (hh : dH g V n ds cs) (hd : d < N) (hN : N ≤ n) (hnd : mJ (ds.map (·.1)) = true)
  (hdst : ∀ i, ∃ k, dst i = d :: k) (hfree : ∀ i j s, i ≠ j → sQ (dst i) (dst j ++ s) = none) :
  ∃ β2, Sane w S β2 ∧ Step w S β w S β2 ∧ (∀ j s b, j ≠ d → j < N → β (j :: s) = some b → β2 (j :: s) = some b) ∧
   ∀ (j : Nat) (p : Nat × Dat) (c : List Value), ds[j]? = some p → cs[j]? = some c → zP S β2 H w (dst p.1) p.2.t p.2.f p.2.x c := by
 have hnod := lF hnd
 obtain ⟨β2, k1, k2, k3, k4⟩ := At5 (H := H) (ps := At4 n dst ds cs) h.sane (fun m hm => by
  obtain ⟨j, p, c, h1, h2, rfl⟩ := AE9 hm
  obtain ⟨e1, e2, e3, _⟩ := hh.2 j p c h1 h2
  obtain ⟨cc, hv, hV⟩ := h.dat e1
  have := uR (Option.some.inj (hV.symm.trans e2)) (zS hv) e3
  subst this; exact hv)
  (by
   unfold At4
   rw [List.pairwise_map]
   rw [List.pairwise_iff_getElem]
   intro i j hi hj hij
   simp only [List.length_zipIdx, List.length_zip] at hi hj
   simp only [List.getElem_zipIdx, List.getElem_zip, Nat.zero_add]
   have hne : (ds[i]'(by omega)).1 ≠ (ds[j]'(by omega)).1 := by
    intro e
    have := (List.pairwise_iff_getElem.1 hnod) i j (by simp; omega) (by simp; omega) hij
    simp only [List.getElem_map] at this
    exact this e
   exact ⟨by omega, fun s => hfree _ _ s hne, fun s => hfree _ _ s (Ne.symm hne)⟩)
  (fun m hm q hq s => by
   obtain ⟨j, p, c, h1, h2, rfl⟩ := AE9 hm
   obtain ⟨j', p', c', h1', h2', rfl⟩ := AE9 hq
   obtain ⟨k, hk⟩ := hdst p'.1
   simp only [hk]
   exact ⟨by simp [sQ]; omega, by simp [sQ]; intro e; omega⟩)
 refine ⟨β2, k1, k2, fun j s b hj hjN hb => k3 _ b (fun m hm => ?_) hb, fun j p c h1 h2 => k4 _ (A59 h1 h2)⟩
 obtain ⟨i, p, c, h1, h2, rfl⟩ := AE9 hm
 obtain ⟨k, hk⟩ := hdst p.1
 simp only [hk]
 exact ⟨by simp [sQ, Ne.symm hj], by simp [sQ]; omega⟩
theorem A8B {n : Nat} : ∀ {m : Nat} {ds : List (Nat × Dat)} {cs : List (List Value)} {g : zY} {S : Nat → Prop} {β : Key → Option Nat}, ds.length = m → Rel H N g V w S β → dH g V n ds cs → N ≤ n →
  ∃ S1 β1 g1, Rel H N g1 V w S1 β1 ∧ Step w S β w S1 β1 ∧ (∀ i, i < n → g1 i = g i) ∧ (∀ i, n + m ≤ i → g1 i = g i) ∧ dH g1 V n (ds.map fun p => (p.1, ⟨p.2.t, p.2.x, .sh⟩)) cs ∧ ∀ j s b, j < n → β (j :: s) = some b → β1 (j :: s) = some b := by
 intro m
 induction m with
 | zero =>
  intro ds cs g S β hm h hh hN
  have : ds = [] := List.length_eq_zero_iff.1 hm
  subst this
  exact ⟨S, β, g, h, .refl, fun _ _ => rfl, fun _ _ => rfl, by simpa using hh, fun _ _ _ _ h => h⟩
 | succ m ih =>
  intro ds cs g S β hm h hh hN
  have hds : ds ≠ [] := fun e => by rw [e] at hm; simp at hm
  obtain ⟨ds0, p, rfl⟩ : ∃ l p, ds = l ++ [p] := ⟨ds.dropLast, ds.getLast hds, (List.dropLast_concat_getLast hds).symm⟩
  have hcs : cs ≠ [] := fun e => by have := hh.1; rw [e] at this; simp at this
  obtain ⟨cs0, c, rfl⟩ : ∃ l p, cs = l ++ [p] := ⟨cs.dropLast, cs.getLast hcs, (List.dropLast_concat_getLast hcs).symm⟩
  have hl0 : ds0.length = m := by simpa using hm
  have hlc : cs0.length = m := by have := hh.1; simp at this; omega
  obtain ⟨S1, β1, g1, k1, k2, k3, k4, k5, k6⟩ := ih (ds := ds0) (cs := cs0) hl0 h ⟨by omega, fun j p c h1 h2 => hh.2 j p c (by rw [List.getElem?_append_left (by have := (List.getElem?_eq_some_iff.1 h1).1; exact this)]; exact h1)
   (by rw [List.getElem?_append_left (by have := (List.getElem?_eq_some_iff.1 h2).1; exact this)]; exact h2)⟩ hN
  obtain ⟨e1, e2, e3, e4⟩ := hh.2 m p c (by rw [List.getElem?_append_right (by omega)]; simp [hl0]) (by rw [List.getElem?_append_right (by omega)]; simp [hlc])
  have hg1 : (g1 (n + m)).sv = .dat p.2 := by rw [k4 _ (by omega)]; exact e1
  have hp := k1.publish (p := []) hg1 rfl e4
  refine ⟨_, _, _, hp, k2.trans (.pub _ _ _), fun i hi => ?_, fun i hi => ?_, ⟨by simp [hl0, hlc], fun j q c' h1 h2 => ?_⟩, fun j s b hj hb => ?_⟩
  ·rw [rI (u := .pub (n + m) _) (by simp only [Up.slot]; omega)]; exact k3 i hi
  ·rw [rI (u := .pub (n + m) _) (by simp only [Up.slot]; omega)]; exact k4 i (by omega)
  ·rw [List.map_append, List.map_singleton] at h1
   by_cases hj : j < m
   ·rw [List.getElem?_append_left (by simp [hl0, hj])] at h1
    rw [List.getElem?_append_left (by omega)] at h2
    rw [rI (u := .pub (n + m) _) (by simp only [Up.slot]; omega)]
    exact k5.2 j q c' h1 h2
   ·have hjm : j = m := by
     have := (List.getElem?_eq_some_iff.1 h2).1
     simp at this; omega
    subst hjm
    rw [List.getElem?_append_right (by simp [hl0])] at h1
    rw [List.getElem?_append_right (by omega)] at h2
    simp only [List.length_map, hl0, Nat.sub_self, List.getElem?_cons_zero, Option.some.injEq, hlc] at h1 h2
    subst h1; subst h2
    refine ⟨?_, e2, e3, rfl⟩
    rw [show (g1.up (.pub (n + j) (.dat ⟨p.2.t, p.2.x, iP [] p.2.f .sh⟩))) (n + j) = _ from oH (u := .pub (n + j) _)]
    rfl
  ·have := k6 j s b hj hb
   simp only [A51]; rw [if_neg (by omega)]; exact this
end
end Go.Rf

end
section
namespace Go.Rf
set_option linter.unusedSectionVars false
variable [T : Laid]
section
variable {P : Program} {H : Nat → Option (List Value)} {N : Nat} {g g' σ : zY} {V V' : Nat → Option Value} {w w' : World} {S S' : Nat → Prop} {β β' : Key → Option Nat} {a : Act} {o : Oper}
variable {E : Env} {gv : zY} {us : List Up}
theorem cY {l : List (Nat × Dat)} {i : Nat} {d : Dat} (h : iK l i = some d) : ∃ (j : Nat) (p : Nat × Dat), l[j]? = some p ∧ p.1 = i ∧ p.2 = d := by
 unfold iK at h
 rw [Option.map_eq_some_iff] at h
 obtain ⟨p, h1, h2⟩ := h
 obtain ⟨j, hj⟩ := List.getElem?_of_mem (List.mem_of_find?_eq_some h1)
 have := List.find?_some h1
 exact ⟨j, p, hj, by simpa [Nat.beq_eq] using this, h2⟩
theorem cX {l : List (Nat × Dat)} {i : Nat} (h : iK l i = none) : ∀ p ∈ l, p.1 ≠ i := by
 unfold iK at h
 rw [Option.map_eq_none_iff, List.find?_eq_none] at h
 intro p hp e
 exact h p hp (by simp [Nat.beq_eq, e])
theorem A1e {t : Ty} {h : Nat → Option Dat} : ∀ {n i : Nat} {xs : List t.D}, A21 t h i n = some xs → xs.length = n ∧
  ∀ j, j < n → (h (i + j) = none → xs[j]? = some t.dflt) ∧ ∀ d, h (i + j) = some d → ∃ x, mB d.t t d.x = some x ∧ xs[j]? = some x
 | 0, i, xs, hl => by
  simp only [A21, Option.some.injEq] at hl; subst hl
  exact ⟨rfl, fun j hj => by omega⟩
 | n + 1, i, xs, hl => by
  simp only [A21] at hl
  split at hl
  ·rename_i l hl'
   obtain ⟨h1, h2⟩ := A1e hl'
   split at hl
   ·rename_i d hd
    simp only [Option.map_eq_some_iff] at hl
    obtain ⟨x, hx, rfl⟩ := hl
    refine ⟨by simp [h1], fun j hj => ?_⟩
    cases j with
    | zero => exact ⟨fun e => by (rw [Nat.add_zero, hd] at e; cases e), fun d' hd' => by (rw [Nat.add_zero, hd] at hd'; cases hd'; exact ⟨x, hx, rfl⟩)⟩
    | succ j =>
     have := h2 j (by omega)
     rw [show i + 1 + j = i + (j + 1) by omega] at this
     simpa using this
   ·rename_i hd
    simp only [Option.some.injEq] at hl
    subst hl
    refine ⟨by simp [h1], fun j hj => ?_⟩
    cases j with
    | zero => exact ⟨fun _ => rfl, fun d' hd' => by rw [Nat.add_zero, hd] at hd'; cases hd'⟩
    | succ j =>
     have := h2 j (by omega)
     rw [show i + 1 + j = i + (j + 1) by omega] at this
     simpa using this
  ·cases hl
def BQ0 (f : Fl) (ds : List (Nat × Dat)) : List (Nat × Dat) := ds.map fun p => (p.1, ⟨p.2.t, p.2.x, f⟩)
theorem A6Y {mv : Bool} {m n : Nat} {τ : Ty} {ds : List (Nat × Dat)} {cs : List (List Value)} {f : Fl} (h : Rel H N g V w S β) (hh : dH g V m ds cs) (hN : N ≤ m) (hm : A0x mv n τ ds = some f) :
  ∃ S1 β1 g1, Rel H N g1 V w S1 β1 ∧ Step w S β w S1 β1 ∧ (∀ i, i < m → g1 i = g i) ∧ dH g1 V m (BQ0 f ds) cs ∧ (∀ j s b, j < m → β (j :: s) = some b → β1 (j :: s) = some b) ∧ (f = .nw mv τ ∨ (f = .sh ∧ (Fl.nw mv τ).whole = true) ∨ (n = 1 ∧ ds.length = 1)) := by
 have same : (∀ p ∈ ds, p.2.f = f) → dH g V m (BQ0 f ds) cs := fun hf => by
  have : BQ0 f ds = ds := by
   unfold BQ0
   conv => rhs; rw [← List.map_id ds]
   refine List.map_congr_left fun p hp => ?_
   obtain ⟨i, t, x, f'⟩ := p
   have := hf _ hp
   simp only at this
   subst this; rfl
  rw [this]; exact hh
 have pubs : (Fl.nw mv τ).whole = true → f = .sh → ∃ S1 β1 g1, Rel H N g1 V w S1 β1 ∧ Step w S β w S1 β1 ∧ (∀ i, i < m → g1 i = g i) ∧ dH g1 V m (BQ0 f ds) cs ∧ (∀ j s b, j < m → β (j :: s) = some b → β1 (j :: s) = some b) ∧ (f = .nw mv τ ∨ (f = .sh ∧ (Fl.nw mv τ).whole = true) ∨ (n = 1 ∧ ds.length = 1)) := by
  intro hw hf
  subst hf
  obtain ⟨S1, β1, g1, k1, k2, k3, _, k5, k6⟩ := A8B rfl h hh hN
  exact ⟨S1, β1, g1, k1, k2, k3, k5, k6, .inr (.inl ⟨rfl, hw⟩)⟩
 unfold A0x at hm
 split at hm
 ·rename_i i d
  split at hm
  ·rename_i h1
   simp only [Option.some.injEq] at hm; subst hm
   exact ⟨S, β, g, h, .refl, fun _ _ => rfl, same (by simp), fun _ _ _ _ h => h, .inr (.inr ⟨by simpa [Nat.beq_eq] using h1, rfl⟩)⟩
  ·split at hm
   ·rename_i h2
    simp only [Option.some.injEq] at hm; subst hm
    exact ⟨S, β, g, h, .refl, fun _ _ => rfl, same (by simp), fun _ _ _ _ h => h, .inl h2⟩
   ·split at hm
    ·rename_i h3
     simp only [Bool.and_eq_true, A6a] at h3
     simp only [Option.some.injEq] at hm
     exact pubs h3.2 hm.symm
    ·cases hm
 ·split at hm
  ·rename_i h2
   simp only [Option.some.injEq] at hm; subst hm
   exact ⟨S, β, g, h, .refl, fun _ _ => rfl, same (fun p hp => by simpa using List.all_eq_true.1 h2 p hp), fun _ _ _ _ h => h, .inl rfl⟩
  ·split at hm
   ·rename_i h3
    simp only [Bool.and_eq_true, A6a] at h3
    simp only [Option.some.injEq] at hm
    exact pubs h3.1 hm.symm
   ·cases hm
def dB (ds : List (Nat × Dat)) (cs : List (List Value)) : List (Nat × Value) := (ds.zip cs).map fun x => (x.1.1, zX x.1.2.t x.2)
theorem AE8 {ds : List (Nat × Dat)} {cs : List (List Value)} {x : Nat × Value} (h : x ∈ dB ds cs) : ∃ (j : Nat) (p : Nat × Dat) (c : List Value), ds[j]? = some p ∧ cs[j]? = some c ∧ x = (p.1, zX p.2.t c) := by
 unfold dB at h
 rw [List.mem_map] at h
 obtain ⟨⟨p, c⟩, hx, rfl⟩ := h
 obtain ⟨j, hj⟩ := List.getElem?_of_mem hx
 simp only [List.getElem?_zip_eq_some] at hj
 exact ⟨j, p, c, hj.1, hj.2, rfl⟩
theorem Ah7 {n j : Nat} {ds : List (Nat × Dat)} {cs : List (List Value)} {p : Nat × Dat} {c : List Value} (h : Rel H N g V w S β) (hh : dH g V n ds cs) (h1 : ds[j]? = some p) (h2 : cs[j]? = some c) :
  (zX p.2.t c).cells = c.toArray ∧ c.length = p.2.t.size := by
 obtain ⟨e1, e2, e3, e4⟩ := hh.2 j p c h1 h2
 obtain ⟨cc, hv, hV⟩ := h.dat e1
 have := uR (Option.some.inj (hV.symm.trans e2)) (zS hv) e3
 subst this
 exact ⟨aK e3 (Au1 e4 hv), e3⟩
theorem A1Q {n k d : Nat} {τ : Ty} {mv : Bool} {Z : Array Value} {ds : List (Nat × Dat)} {cs : List (List Value)} {f : Fl} {xs : List τ.D} (h : Rel H N g V w S β) (hh : dH g V n ds cs) (hN : N ≤ n) (hd : d < N)
  (hnd : mJ (ds.map (·.1)) = true) (hlt : ds.all (fun x => Nat.blt x.1 k) = true) (hl : A21 τ (iK ds) 0 k = some xs) (hm : A0x mv k τ ds = some f) (hzs : Z.size = k * τ.size) (hz : ∀ i, i < k → pU τ (win Z.toList (i * τ.size) τ.size) = true) :
  ∃ r S1 β1, Instr.fill (fun i => some (i * τ.size, τ.size)) Z (dB ds cs) = some r ∧ r.size = k * τ.size ∧ Sane w S1 β1 ∧ Step w S β w S1 β1 ∧ (∀ j s b, j ≠ d → j < N → β (j :: s) = some b → β1 (j :: s) = some b) ∧
   xs.length = k ∧ ∀ i y, nth xs i = some y → zP S1 β1 H w [d, i] τ f y (win r.toList (i * τ.size) τ.size) := by
 obtain ⟨S1, β1, g1, k1, k2, k3, k4, k6, k5⟩ := A6Y h hh hN hm
 obtain ⟨β2, q1, q2, q3, q4⟩ := A0U (dst := fun i => [d, i]) k1 k4 hd hN (by unfold BQ0; rw [List.map_map]; exact hnd) (fun i => ⟨[i], rfl⟩) (fun i j s hij => by simp [sQ, hij])
 obtain ⟨hlen, hget⟩ := A1e hl
 have hty : ∀ (j : Nat) (p : Nat × Dat), ds[j]? = some p → p.1 < k ∧ p.2.t = τ ∧ iK ds p.1 = some p.2 := by
  intro j p hj
  have hlt' : p.1 < k := by
   have := List.all_eq_true.1 hlt p (List.mem_of_getElem? hj)
   simpa [Nat.blt_eq] using this
  have hp : ∃ e, iK ds p.1 = some e := by
   cases he : iK ds p.1 with
   | some e => exact ⟨e, rfl⟩
   | none => exact absurd rfl (cX he p (List.mem_of_getElem? hj))
  obtain ⟨e, he⟩ := hp
  obtain ⟨j', p', h1, h2, h3⟩ := cY he
  have hjj : p' = p := by
   have hnod := lF hnd
   have hi1 := (List.getElem?_eq_some_iff.1 h1)
   have hi2 := (List.getElem?_eq_some_iff.1 hj)
   by_cases e' : j' = j
   ·subst e'; rw [h1] at hj; exact Option.some.inj hj
   ·exfalso
    have hpw := List.pairwise_iff_getElem.1 hnod
    rcases Nat.lt_or_gt_of_ne e' with hlt2 | hlt2
    ·have := hpw j' j (by simp; exact hi1.1) (by simp; exact hi2.1) hlt2
     simp only [List.getElem_map] at this
     rw [hi1.2, hi2.2] at this; exact this h2
    ·have := hpw j j' (by simp; exact hi2.1) (by simp; exact hi1.1) hlt2
     simp only [List.getElem_map] at this
     rw [hi1.2, hi2.2] at this; exact this h2.symm
  subst hjj
  obtain ⟨x, hx, _⟩ := (hget p'.1 hlt').2 p'.2 (by rw [Nat.zero_add, he, h3])
  exact ⟨hlt', (vP hx).1, by rw [he, h3]⟩
 have hsz : ∀ (j : Nat) (p : Nat × Dat) (c : List Value), ds[j]? = some p → cs[j]? = some c → (zX p.2.t c).cells = c.toArray ∧ c.length = τ.size := by
  intro j p c h1 h2
  obtain ⟨e1, e2⟩ := Ah7 h hh h1 h2
  rw [(hty j p h1).2.1] at e2
  exact ⟨e1, e2⟩
 have mulle : ∀ i, i < k → i * τ.size + τ.size ≤ k * τ.size := fun i hi => by
  have : (i + 1) * τ.size ≤ k * τ.size := Nat.mul_le_mul_right _ hi
  rw [Nat.add_mul, Nat.one_mul] at this; exact this
 have mulap : ∀ i j, i ≠ j → i * τ.size + τ.size ≤ j * τ.size ∨ j * τ.size + τ.size ≤ i * τ.size := fun i j hij => by
  rcases Nat.lt_or_gt_of_ne hij with hl | hl
  ·left
   have : (i + 1) * τ.size ≤ j * τ.size := Nat.mul_le_mul_right _ hl
   rw [Nat.add_mul, Nat.one_mul] at this; exact this
  ·right
   have : (j + 1) * τ.size ≤ i * τ.size := Nat.mul_le_mul_right _ hl
   rw [Nat.add_mul, Nat.one_mul] at this; exact this
 obtain ⟨r, r1, r2, r3, r4⟩ := A3Q (place := fun i => some (i * τ.size, τ.size)) (ps := dB ds cs) (cells := Z) (fun p hp => by
  obtain ⟨j, q, c, h1, h2, rfl⟩ := AE8 hp
  obtain ⟨e1, e2⟩ := hsz j q c h1 h2
  refine ⟨q.1 * τ.size, ?_, ?_⟩
  ·simp only [e1]; simp [e2]
  ·simp only [e1, hzs]; simp only [List.size_toArray, e2]; exact mulle _ (hty j q h1).1) (by
  unfold dB
  rw [List.pairwise_map, List.pairwise_iff_getElem]
  intro i j hi hj hij
  simp only [List.length_zip] at hi hj
  simp only [List.getElem_zip]
  have hne : (ds[i]'(by omega)).1 ≠ (ds[j]'(by omega)).1 := by
   intro e
   have := (List.pairwise_iff_getElem.1 (lF hnd)) i j (by simp; omega) (by simp; omega) hij
   simp only [List.getElem_map] at this
   exact this e
  intro o1 s1 o2 s2 h1 h2
  simp only [Option.some.injEq, Prod.mk.injEq] at h1 h2
  obtain ⟨rfl, rfl⟩ := h1
  obtain ⟨rfl, rfl⟩ := h2
  exact mulap _ _ hne)
 refine ⟨r, S1, β2, r1, by rw [r2, hzs], q1, k2.trans q2, fun j s b hj hjN hb => ?_, hlen, fun i y hy => ?_⟩
 ·exact q3 j s b hj hjN (k6 j s b (by omega) hb)
 ·have hi : i < k := by unfold nth at hy; have := (List.getElem?_eq_some_iff.1 hy).1; omega
  cases hp : iK ds i with
  | some e =>
   obtain ⟨j, p, h1, h2, h3⟩ := cY hp
   have hjc : ∃ c, cs[j]? = some c := by
    have := (List.getElem?_eq_some_iff.1 h1).1
    exact ⟨cs[j]'(by rw [hh.1]; exact this), List.getElem?_eq_getElem _⟩
   obtain ⟨c, hc⟩ := hjc
   obtain ⟨e1, e2⟩ := hsz j p c h1 hc
   have hwin := r3 (p.1, zX p.2.t c) (by
    unfold dB
    rw [List.mem_map]
    refine ⟨(p, c), ?_, rfl⟩
    exact List.mem_of_getElem? (i := j) (by simp only [List.getElem?_zip_eq_some]; exact ⟨h1, hc⟩)) (p.1 * τ.size) τ.size rfl
   simp only [e1, h2] at hwin
   rw [hwin]
   have hv := q4 j (p.1, ⟨p.2.t, p.2.x, f⟩) c (by unfold BQ0; rw [List.getElem?_map, h1]; rfl) hc
   simp only [h2] at hv
   obtain ⟨x, hx, hxi⟩ := (hget i hi).2 e (by rw [Nat.zero_add]; exact hp)
   have hyx : y = x := by
    unfold nth at hy
    rw [hxi] at hy; exact (Option.some.inj hy).symm
   subst hyx
   subst h3
   obtain ⟨pi, pt, px, pf⟩ := p
   simp only at hv hx h2
   obtain ⟨het, hex⟩ := vP hx
   subst het
   subst hex
   simpa using hv
  | none =>
   have hnone := cX hp
   have hyd : y = τ.dflt := by
    have := (hget i hi).1 (by rw [Nat.zero_add]; exact hp)
    unfold nth at hy
    rw [this] at hy; exact (Option.some.inj hy).symm
   subst hyd
   have hwin := r4 (i * τ.size) τ.size (fun p hpm off s hpl => by
    obtain ⟨j, q, c, h1, h2, rfl⟩ := AE8 hpm
    simp only [Option.some.injEq, Prod.mk.injEq] at hpl
    obtain ⟨rfl, rfl⟩ := hpl
    exact mulap _ _ (Ne.symm (hnone q (List.mem_of_getElem? h1))))
   rw [hwin]
   have hzv := rX (S := S1) (β := fun _ => none) (H := H) (w := w) (k := [d, i]) mv (hz i hi)
   rcases k5 with e | ⟨e, hw⟩ | ⟨e1, e2⟩
   ·subst e
    exact rX mv (hz i hi)
   ·subst e
    exact yM.2 (vN hw (fun _ h => h) (fun _ _ hb => by cases hb) hzv)
   ·exfalso
    obtain ⟨p, hpd⟩ := List.length_eq_one_iff.1 e2
    have h0 := hty 0 p (by rw [hpd]; rfl)
    have : i = 0 := by omega
    exact hnone p (by rw [hpd]; simp) (by omega)
end
end Go.Rf

end
section
namespace Go.Rf
set_option linter.unusedSectionVars false
variable [T : Laid]
section
variable {P : Program} {H : Nat → Option (List Value)} {N : Nat} {g g' σ : zY} {V V' : Nat → Option Value} {w w' : World} {S S' : Nat → Prop} {β β' : Key → Option Nat} {a : Act} {o : Oper}
variable {E : Env} {gv : zY} {us : List Up}
theorem BD4 (hs : Sub gv g) (hD : yH N g) : yH N gv := fun i hi => by
 rcases hs i with h | h
 ·exact h
 ·rw [← h]; exact hD i hi
theorem Ao9 {s : Nat} : ∀ {l : List Operand}, .tmp s ∈ l → s ∈ AK5 l
 | [], h => by simp at h
 | x :: l, h => by
  rcases List.mem_cons.1 h with h | h
  ·subst h; simp [AK5]
  ·have := Ao9 h
   cases x <;> simp [AK5, this]
theorem A96 {n s : Nat} (h : opIn n o = true) (hs : .tmp s ∈ o.op.operands.toList) : s < n := by
 unfold opIn at h
 simp only [Bool.and_eq_true] at h
 have := List.all_eq_true.1 h.2 s (Ao9 hs)
 simpa [Nat.blt_eq] using this
theorem bD {mv : Bool} {ts : Nat → Option Ty} {ps : Array (Nat × Operand)} {ds : List (Nat × Dat)} (hc : Ctx P H S β a w o g) (hs : Sub gv g) (ht : kM gv mv ts ps.toList = some (ds, us))
  (hin : ∀ q ∈ ps.toList, q.2 ∈ o.op.operands.toList) :
  ∃ (S1 : Nat → Prop) (β1 : Key → Option Nat) (g1 : zY) (V1 : Nat → Option Value) (cs : List (List Value)), Rel H a.tmps.size g1 V1 w S1 β1 ∧ Step w S β w S1 β1 ∧ dH g1 V1 a.tmps.size ds cs ∧
   Rel H a.tmps.size (g.ups us) (qR a) w S1 β1 ∧ yH a.tmps.size (g.ups us) ∧ (ps.map fun (i, x) => (i, a.eval x)).toList = dB ds cs := by
 obtain ⟨S1, β1, g1, V1, cs, k1, k2, k3, k4, k5, k6, k7, k8, k9, k10, k11⟩ := AD2 hc.rel hs (BD4 hs hc.dead) (fun i hi => hc.dead i hi) (Nat.le_refl _) ht
 have hD : yH a.tmps.size (g.ups us) := hc.dead.ups k9
 refine ⟨S1, β1, g1, V1, cs, k1, k2, ⟨k8, fun j p c h1 h2 => let ⟨e1, e2, e3, e4, _⟩ := k11 j p c h1 h2; ⟨e1, e2, e3, e4⟩⟩, k1.fin (fun i hi => (k5 i hi).1.symm) hD (fun i hi => (k5 i hi).2.symm), hD, ?_⟩
 rw [Array.toList_map]
 apply List.ext_getElem?
 intro j
 unfold dB
 rw [List.getElem?_map, List.getElem?_map]
 cases hp : ds[j]? with
 | none =>
  have hlen : ds.length = ps.toList.length := by have := congrArg List.length k10; simpa using this
  have h1 : ps.toList[j]? = none := by rw [List.getElem?_eq_none_iff] at hp ⊢; omega
  have h2 : (ds.zip cs)[j]? = none := by rw [List.getElem?_eq_none_iff] at hp ⊢; simp; omega
  rw [h1, h2]; rfl
 | some p =>
  have hj := (List.getElem?_eq_some_iff.1 hp).1
  have hc' : cs[j]? = some (cs[j]'(by omega)) := List.getElem?_eq_getElem _
  obtain ⟨e1, e2, e3, e4, x, e5, e6⟩ := k11 j p _ hp hc'
  have h2 : (ds.zip cs)[j]? = some (p, cs[j]'(by omega)) := by simp only [List.getElem?_zip_eq_some]; exact ⟨hp, hc'⟩
  rw [e5, h2]
  simp only [Option.map_some]
  have hx1 : x.1 = p.1 := by
   have := congrArg (fun l => l[j]?) k10
   simp only [List.getElem?_map, hp, e5, Option.map_some, Option.some.injEq] at this
   exact this.symm
  have := zJ (e6 (fun q hq s hqs => A96 hc.opIn (hqs ▸ hin q hq)))
  rw [hx1, this]
theorem Ah0 {t e : TypeId} {τ : Ty} {z : Value} {n : Nat} {parts : Array (Nat × Value)} {r : Array Value} (h : SlOK E t e τ z) (hn : n * τ.size ≤ 16777216)
  (hf : Instr.fill (fun i => some (i * τ.size, τ.size)) (iU z.cells (n * τ.size)) parts.toList = some r) :
  (Instr.buildSlice t n parts).run E.P w = .ok (.slice (some ⟨w.heap.size, 0, none⟩) n n) { w with heap := w.heap.push (.cells r e) } := by
 have hsz : (sizeOf e).run E.P w = .ok τ.size w := uW h.elem
 unfold Instr.buildSlice
 simp only [Sem.run_bind, zC h.und, Result.andThen_ok, hsz]
 rw [if_neg (by omega)]
 by_cases h0 : n * τ.size = 0
 ·have e0 : iU z.cells 0 = #[] := by simp [iU]
  rw [h0, e0] at hf
  have e2 : Array.map (fun (_ : Nat) => (default : Value)) (Array.range 0) = #[] := by simp
  simp [h0, newRow]
  rw [e2, hf]
  simp
 ·have : ((Array.range (n * τ.size)).map fun x => z.cells[x % z.cells.size]!) = iU z.cells (n * τ.size) := rfl
  simp only [h0, if_false, Sem.run_bind, h.zero, Result.andThen_ok, Sem.run_pure, this, hf, newRow, run_newObj]
theorem AU6 {mv : Bool} {t : TypeId} {n : Nat} {ps : Array (Nat × Operand)} (hc : Ctx E.P H S β a w o g) (hs : Sub gv g) (hm : o.op = .buildSlice t n ps)
  (hk : jG E gv mv o t n ps some = some us) : yJ E.P H S β a w o (g.ups us) := by
 unfold jG at hk
 split at hk
 ·rename_i τ ht
  split at hk
  ·rename_i ds us1 htp
   split at hk
   ·rename_i hcond
    simp only [Bool.and_eq_true, Nat.ble_eq] at hcond
    obtain ⟨⟨hnd, hlt⟩, hsmall⟩ := hcond
    split at hk
    ·rename_i xs f hl hmf
     obtain ⟨dd, ho, rfl⟩ := yK hk
     obtain ⟨τ2, e, z, heq, hok⟩ := A4l ht
     simp only [Ty.sl.injEq] at heq
     subst heq
     obtain ⟨S1, β1, g1, V1, cs, k1, k2, k3, k4, k5, k6⟩ := bD hc hs htp (fun q hq => by rw [hm]; simp only [Op.operands, Array.toList_map]; exact List.mem_map.2 ⟨q, hq, rfl⟩)
     have hd := xO hc.opIn ho
     obtain ⟨r, S2, β2, q1, q2, q3, q4, q5, q6, q7⟩ := A1Q (d := dd) (Z := iU z.cells (n * τ.size)) k1 k3 (Nat.le_refl _) hd hnd hlt hl hmf gW (fun i hi => by rw [← hok.size, A1s hi]; exact hok.cells)
     have hrun := Ah0 (w := w) (parts := ps.map fun (i, x) => (i, a.eval x)) hok hsmall (by rw [k6]; exact q1)
     have hw' : Pushed w { w with heap := w.heap.push (.cells r e) } (.cells r e) := ⟨rfl, rfl, rfl, rfl⟩
     have hsame := (k2.trans q4).same hc.rel.sane
     intro K Q hK
     refine tD (w' := { w with heap := w.heap.push (.cells r e) }) (v := .slice (some ⟨w.heap.size, 0, none⟩) n n) ?_ (hK _ _ S2 _ wW yS ?_ ((k2.trans q4).trans (Step.newB hw' [dd])))
     ·simp only [execOp, hm, Sem.run_bind]
      exact congrArg (fun r : Result Value => Result.andThen r fun v w' => Result.ok (Next.value v) w') hrun
     ·rw [ho, vS hd, yW]
      have hst := q4.same k4.sane
      refine k4.put (q3.new hw' [dd]) (fun b hb => ⟨(hst b hb).1, tR hw' (k4.sane.liveS b hb)⟩) (fun j s b hj ha hb => ⟨?_, tR hw' (k4.sane.live _ b hb)⟩) (fun j hj => by simp [upd, hj]) ?_
      ·unfold AT5; rw [if_neg (by simp [hj])]
       exact q5 j s b hj (k5.lt ha) hb
      ·refine ⟨[.slice (some ⟨w.heap.size, 0, none⟩) n n], ?_, by simp [upd, zX, Ty.agg]⟩
       simp only [zP, Fl.base]
       refine ⟨by simp [pX, Fl.pins], some ⟨w.heap.size, 0, none⟩, n, by rw [q6], by rw [q6]; exact Nat.le_refl _, .inr ⟨w.heap.size, 0, r, rfl, by simp [AT5], AA4.new hw' (.inl rfl), by rw [q2]; omega, fun i y hy => ?_⟩⟩
       rw [Nat.zero_add]
       refine zL (fun b hb => ⟨hb, tR hw' (q3.liveS b hb)⟩) (fun s b hb => ⟨?_, tR hw' (q3.live _ b hb)⟩) (q7 i y hy)
       unfold AT5; rw [if_neg (by simp)]; exact hb
    ·cases hk
   ·cases hk
  ·cases hk
 ·cases hk
end
end Go.Rf

end
section
namespace Go.Rf
set_option linter.unusedSectionVars false
variable [T : Laid]
section
variable {P : Program} {H : Nat → Option (List Value)} {N : Nat} {g g' σ : zY} {V V' : Nat → Option Value} {w w' : World} {S S' : Nat → Prop} {β β' : Key → Option Nat} {a : Act} {o : Oper}
variable {E : Env} {gv : zY} {us : List Up}
def A6m (i : Nat) : Key := List.replicate i 1
theorem A6z {i : Nat} : A6m (i + 1) = A6m i ++ [1] := by simp [A6m, List.replicate_succ']
theorem An6 : ∀ {i j : Nat} {s : Key}, i ≠ j → sQ (A6m i ++ [0]) (A6m j ++ [0] ++ s) = none
 | 0, 0, _, h => absurd rfl h
 | 0, j + 1, s, _ => by simp [A6m, List.replicate_succ, sQ]
 | i + 1, 0, s, _ => by simp [A6m, List.replicate_succ, sQ]
 | i + 1, j + 1, s, h => by
  have := An6 (i := i) (j := j) (s := s) (by omega)
  simp only [A6m, List.replicate_succ, List.cons_append, sQ, if_true] at this ⊢
  exact this
theorem Av3 {c : List Value} {o n m : Nat} : (win c o (n + m)).take n = win c o n := by
 simp [win, List.take_take]
theorem A0B {c : List Value} {o n m : Nat} : (win c o (n + m)).drop n = win c (o + n) m := by
 simp only [win, List.drop_take, List.drop_drop]
 congr 1
 omega
theorem AW4 {mv : Bool} {h : Nat → Option Dat} {zc rc : List Value} {K0 : Key} {ty : TypeId → Option Ty} : ∀ {fs : List Field} {off : Nat} {τ : Ty} {i : Nat} {x : τ.D} {f : Fl}, pW ty fs off = some τ → AQ6 mv τ i h = some (x, f) →
  pU τ (win zc off τ.size) = true →
  (∀ (j : Nat) (fl : Field) (a : Ty), fs[j]? = some fl → ty fl.type = some a → (∀ d x, h (i + j) = some d → mB d.t a d.x = some x → zP S β H w (K0 ++ A6m (i + j) ++ [0]) a d.f x (win rc fl.offset a.size)) ∧ (h (i + j) = none → win rc fl.offset a.size = win zc fl.offset a.size)) →
  zP S β H w (K0 ++ A6m i) τ f x (win rc off τ.size)
 | [], off, τ, i, x, f, hc, hb, hz, hp => by
  simp only [pW, Option.some.injEq] at hc; subst hc
  simp only [AQ6, Option.some.injEq, Prod.mk.injEq] at hb
  obtain ⟨rfl, rfl⟩ := hb
  exact yM.2 (by simp [Rd, win, Ty.size])
 | fl :: fs, off, τ, i, x, f, hc, hb, hz, hp => by
  simp only [pW] at hc
  split at hc
  ·rename_i a ha
   split at hc
   ·rename_i ho
    simp only [Nat.beq_eq] at ho
    simp only [Option.map_eq_some_iff] at hc
    obtain ⟨τ', hc, rfl⟩ := hc
    simp only [AQ6] at hb
    split at hb
    ·rename_i y gf hb'
     simp only [pU, Ty.size, Bool.and_eq_true] at hz
     rw [Av3, A0B] at hz
     have ih := AW4 hc hb' hz.2 (fun j fl' a' h1 h2 => by
      have := hp (j + 1) fl' a' (by simpa using h1) h2
      rw [show i + (j + 1) = i + 1 + j by omega] at this
      exact this)
     rw [A6z, ← List.append_assoc] at ih
     have h0 := hp 0 fl a rfl ha
     rw [Nat.add_zero, ho] at h0
     split at hb
     ·rename_i d hd
      simp only [Option.map_eq_some_iff, Prod.mk.injEq] at hb
      obtain ⟨x0, hx0, rfl, rfl⟩ := hb
      refine rF.2 ⟨?_, ?_⟩
      ·simp only [Ty.size]; rw [Av3]; exact h0.1 d x0 hd hx0
      ·simp only [Ty.size]; rw [A0B]; exact ih
     ·rename_i hd
      simp only [Option.some.injEq, Prod.mk.injEq] at hb
      obtain ⟨rfl, rfl⟩ := hb
      refine rF.2 ⟨?_, ?_⟩
      ·simp only [Ty.size]; rw [Av3, h0.2 hd]; exact rX mv hz.1
      ·simp only [Ty.size]; rw [A0B]; exact ih
    ·cases hb
   ·cases hc
  ·cases hc
theorem Aj6 {ty : TypeId → Option Ty} : ∀ {fs : List Field} {off : Nat} {τ : Ty} {i : Nat} {a : Ty}, pW ty fs off = some τ → fH τ i = some a →
  ∃ fl, fs[i]? = some fl ∧ ty fl.type = some a ∧ off ≤ fl.offset ∧ fl.offset + a.size ≤ off + τ.size
 | [], off, τ, i, a, hc, hf => by
  simp only [pW, Option.some.injEq] at hc; subst hc
  simp [fH] at hf
 | fl :: fs, off, τ, i, a, hc, hf => by
  simp only [pW] at hc
  split at hc
  ·rename_i a0 ha
   split at hc
   ·rename_i ho
    simp only [Nat.beq_eq] at ho
    simp only [Option.map_eq_some_iff] at hc
    obtain ⟨τ', hc, rfl⟩ := hc
    cases i with
    | zero =>
     simp only [fH, Option.some.injEq] at hf; subst hf
     exact ⟨fl, rfl, ha, by omega, by simp only [Ty.size]; omega⟩
    | succ i =>
     simp only [fH] at hf
     obtain ⟨fl', h1, h2, h3, h4⟩ := Aj6 hc hf
     exact ⟨fl', by simpa using h1, h2, by omega, by simp only [Ty.size]; omega⟩
   ·cases hc
  ·cases hc
theorem cI {ty : TypeId → Option Ty} : ∀ {fs : List Field} {off : Nat} {τ : Ty} {i j : Nat} {fi fj : Field} {ai : Ty}, pW ty fs off = some τ → i < j → fs[i]? = some fi → fs[j]? = some fj → ty fi.type = some ai → fi.offset + ai.size ≤ fj.offset
 | [], _, _, _, _, _, _, _, _, _, h, _, _ => by simp at h
 | fl :: fs, off, τ, i, j, fi, fj, ai, hc, hij, hi, hj, ha => by
  simp only [pW] at hc
  split at hc
  ·rename_i a0 ha0
   split at hc
   ·rename_i ho
    simp only [Nat.beq_eq] at ho
    simp only [Option.map_eq_some_iff] at hc
    obtain ⟨τ', hc, rfl⟩ := hc
    cases j with
    | zero => omega
    | succ j =>
     simp only [List.getElem?_cons_succ] at hj
     cases i with
     | zero =>
      simp only [List.getElem?_cons_zero, Option.some.injEq] at hi; subst hi
      rw [ha0] at ha; cases ha
      have : ∀ {fs : List Field} {off : Nat} {τ : Ty} {j : Nat} {fj : Field}, pW ty fs off = some τ → fs[j]? = some fj → off ≤ fj.offset := by
       intro fs
       induction fs with
       | nil => intro off τ j fj _ h; simp at h
       | cons f0 fs ih =>
        intro off τ j fj hc h
        simp only [pW] at hc
        split at hc
        ·split at hc
         ·rename_i ho
          simp only [Nat.beq_eq] at ho
          simp only [Option.map_eq_some_iff] at hc
          obtain ⟨τ', hc, rfl⟩ := hc
          cases j with
          | zero => simp only [List.getElem?_cons_zero, Option.some.injEq] at h; subst h; omega
          | succ j => have := ih hc (by simpa using h); omega
         ·cases hc
        ·cases hc
      have := this hc hj
      omega
     | succ i => exact cI (i := i) (j := j) hc (by omega) (by simpa using hi) hj ha
   ·cases hc
  ·cases hc
theorem AY6 {d : Nat} : ∀ {fs : List Field} {off : Nat} {τ : Ty}, pW (tyN P (d + 1)) fs off = some τ → ∃ pl : List (Nat × Nat), fs.mapM (fun f => (P.info? f.type).map fun i => (f.offset, i.size)) = some pl ∧
  ∀ (j : Nat) (fl : Field) (a : Ty), fs[j]? = some fl → tyN P (d + 1) fl.type = some a → pl[j]? = some (fl.offset, a.size)
 | [], _, _, _ => ⟨[], by simp, by simp⟩
 | fl :: fs, off, τ, hc => by
  simp only [pW] at hc
  split at hc
  ·rename_i a0 ha0
   split at hc
   ·simp only [Option.map_eq_some_iff] at hc
    obtain ⟨τ', hc, rfl⟩ := hc
    obtain ⟨pl, h1, h2⟩ := AY6 hc
    obtain ⟨i, u, e1, _, e3, _⟩ := oV ha0
    refine ⟨(fl.offset, i.size) :: pl, by simp [List.mapM_cons, e1, h1], fun j f a hj ha => ?_⟩
    cases j with
    | zero =>
     simp only [List.getElem?_cons_zero, Option.some.injEq] at hj ⊢; subst hj
     rw [ha0] at ha; cases ha; rw [e3]
    | succ j => simpa using h2 j f a (by simpa using hj) ha
   ·cases hc
  ·cases hc
end
end Go.Rf

end
section
namespace Go.Rf
set_option linter.unusedSectionVars false
variable [T : Laid]
section
variable {P : Program} {H : Nat → Option (List Value)} {N : Nat} {g g' σ : zY} {V V' : Nat → Option Value} {w w' : World} {S S' : Nat → Prop} {β β' : Key → Option Nat} {a : Act} {o : Oper}
variable {E : Env} {gv : zY} {us : List Up}
theorem As8 {ρ : Operand → Value} {t : TypeId} {ps : Array (Nat × Operand)} {r : Array Value} {l : List (Nat × Value)} (ho : o.op = .build t ps) (hl : (ps.map fun (i, x) => (i, ρ x)).toList = l) (hb : P.built t l = some r) :
  (execOp ρ o).run P w = .ok (.value (.agg r)) w := by
 have := run_build (P := P) w t (ps.map fun (i, x) => (i, ρ x)) r (by rw [hl]; exact hb)
 simp only [execOp, ho, Sem.run_bind]
 exact congrArg (fun r : Result Value => Result.andThen r fun v w' => Result.ok (Next.value v) w') this
theorem A69 {t : TypeId} {τ : Ty} (h : E.tz t = some τ) : ∃ it z, E.P.info? t = some it ∧ it.zero = some z ∧ pU τ z.cells.toList = true := by
 unfold Env.tz at h
 split at h
 ·split at h
  ·rename_i hz
   simp only [Option.some.injEq] at h; subst h
   unfold Env.zok at hz
   split at hz
   ·rename_i i hi
    split at hz
    ·rename_i v hv
     exact ⟨i, v, hi, hv, hz⟩
    ·cases hz
   ·cases hz
  ·cases h
 ·cases h
theorem A0v {d : Nat} {t : Ty} {x : t.D} {f : Fl} {r : Array Value} {S1 S2 : Nat → Prop} {β1 β2 : Key → Option Nat} (hc : Ctx P H S β a w o g) (ho : o.dst = some d) (hr : (execOp a.eval o).run P w = .ok (.value (.agg r)) w) (hag : t.agg = true)
  (h : Rel H a.tmps.size (g.ups us) (qR a) w S1 β1) (hD : yH a.tmps.size (g.ups us)) (hst : Step w S β w S1 β1) (hs : Sane w S2 β2) (hst2 : Step w S1 β1 w S2 β2)
  (hβ : ∀ j s b, j ≠ d → j < a.tmps.size → β1 (j :: s) = some b → β2 (j :: s) = some b) (hv : zP S2 β2 H w [d] t f x r.toList) : yJ P H S β a w o (g.ups (us ++ [.put d (.dat ⟨t, x, f⟩)])) := by
 intro K Q hK
 have hd := xO hc.opIn ho
 refine tD hr (hK _ _ S2 β2 wW yS ?_ (hst.trans hst2))
 rw [ho, vS hd, yW]
 refine h.put hs (fun b hb => ⟨hst2.keepS b hb, rfl⟩) (fun j s b hj ha hb => ⟨hβ j s b hj (hD.lt ha) hb, rfl⟩) (fun j hj => by simp [upd, hj]) ⟨r.toList, hv, ?_⟩
 simp [upd, zX, hag]
theorem A11 {mv : Bool} {t : TypeId} {ps : Array (Nat × Operand)} (hc : Ctx E.P H S β a w o g) (hs : Sub gv g) (hm : o.op = .build t ps)
  (hk : Ap0 E gv mv o t ps some = some us) : yJ E.P H S β a w o (g.ups us) := by
 have hops : ∀ q ∈ ps.toList, q.2 ∈ o.op.operands.toList := fun q hq => by rw [hm]; simp only [Op.operands, Array.toList_map]; exact List.mem_map.2 ⟨q, hq, rfl⟩
 unfold Ap0 at hk
 split at hk
 ·rename_i n τ ht
  obtain ⟨it, z, hit, hz, hzc⟩ := A69 ht
  have hty := (A8f ht).1
  split at hk
  ·rename_i ds us1 htp
   split at hk
   ·rename_i hcond
    simp only [Bool.and_eq_true] at hcond
    obtain ⟨hnd, hlt⟩ := hcond
    split at hk
    ·rename_i xs f hl hmf
     obtain ⟨dd, ho, rfl⟩ := yK hk
     obtain ⟨e, he, h7⟩ := Ag7 hty
     obtain ⟨ie, u, h71, _, h73, _⟩ := oV h7
     simp only [pU] at hzc
     obtain ⟨hz1, hz2⟩ := Au2 (fun c hc => zS (rX (S := fun _ => False) (β := fun _ => none) (H := fun _ => none) (w := w) false (k := []) hc)) hzc
     obtain ⟨S1, β1, g1, V1, cs, k1, k2, k3, k4, k5, k6⟩ := bD hc hs htp hops
     have hd := xO hc.opIn ho
     obtain ⟨r, S2, β2, q1, q2, q3, q4, q5, q6, q7⟩ := A1Q (d := dd) (Z := z.cells) k1 k3 (Nat.le_refl _) hd hnd hlt hl hmf (by simpa using hz1) hz2
     have hbuilt : E.P.built t (dB ds cs) = some r := by
      unfold Program.built
      rw [hit, he]
      simp only [hz, h71, h73]
      exact q1
     refine A0v hc ho (As8 hm k6 hbuilt) rfl k4 k5 k2 q3 q4 q5 (AC2.2 ⟨q6, by simpa using q2, fun i y hy => q7 i y hy⟩)
    ·cases hk
   ·cases hk
  ·cases hk
 ·rename_i τ hnot ht
  obtain ⟨it, z, hit, hz, hzc⟩ := A69 ht
  have hty := (A8f ht).1
  split at hk
  ·rename_i ds us1 htp
   split at hk
   ·rename_i hcond
    simp only [Bool.and_eq_true] at hcond
    obtain ⟨hnd, hfld⟩ := hcond
    split at hk
    ·rename_i x f hb
     obtain ⟨dd, ho, rfl⟩ := yK hk
     have hstruct : ∃ fs, E.P.underlying t = some (.struct fs) ∧ pW (tyN E.P 7) fs.toList 0 = some τ ∧ τ.agg = true := by
      obtain ⟨i, u, _, h2, _, h4⟩ := oV hty
      unfold oK at h4
      have nob : ∀ τ : Ty, (∀ a b, τ ≠ .pair a b) → τ ≠ .unit → ∀ (x : τ.D) f, AQ6 mv τ 0 (iK ds) ≠ some (x, f) := fun τ h1 h2 x f e => by
       cases τ <;> simp [AQ6] at e <;> first | exact h2 rfl | exact h1 _ _ rfl
      cases u <;> simp only at h4 <;> first
       | (exfalso; exact h4)
       | (subst h4; exact absurd hb (nob _ (by simp) (by simp) _ _))
       | (obtain ⟨a, _, rfl⟩ := h4; exact absurd hb (nob _ (by simp) (by simp) _ _))
       | (refine ⟨_, h2, h4, ?_⟩; rcases qX h4 with rfl | ⟨_, _, rfl⟩ <;> rfl)
     obtain ⟨fs, hfs, hch, hag⟩ := hstruct
     obtain ⟨S1, β1, g1, V1, cs, k1, k2, k3, k4, k5, k6⟩ := bD hc hs htp hops
     have hd := xO hc.opIn ho
     obtain ⟨pl, hpl1, hpl2⟩ := AY6 (d := 6) hch
     have hzl : z.cells.toList.length = τ.size := zS (rX (S := fun _ => False) (β := fun _ => none) (H := fun _ => none) (w := w) false (k := []) hzc)
     have buildT : ∀ {τ : Ty} {i j : Nat} {x : τ.D} {f : Fl} {a : Ty} {d : Dat}, AQ6 mv τ i (iK ds) = some (x, f) → fH τ j = some a → iK ds (i + j) = some d → d.t = a := by
      intro τ
      induction τ with
      | pair s u _ ihu =>
       intro i j x f a d hb hf hp
       simp only [AQ6] at hb
       split at hb
       ·rename_i y gf hb'
        cases j with
        | zero =>
         simp only [fH, Option.some.injEq] at hf; subst hf
         rw [Nat.add_zero] at hp
         rw [hp] at hb
         simp only [Option.map_eq_some_iff] at hb
         obtain ⟨x0, hx0, _⟩ := hb
         exact (vP hx0).1
        | succ j =>
         simp only [fH] at hf
         exact ihu hb' hf (by rw [show i + 1 + j = i + (j + 1) by omega]; exact hp)
       ·cases hb
      | _ => intro i j x f a d hb hf hp; simp [fH] at hf
     have hpart : ∀ (j : Nat) (p : Nat × Dat), ds[j]? = some p → iK ds p.1 = some p.2 := by
      intro j p hj
      cases he : iK ds p.1 with
      | none => exact absurd rfl (cX he p (List.mem_of_getElem? hj))
      | some e =>
       obtain ⟨j', p', h1, h2, h3⟩ := cY he
       have hi1 := (List.getElem?_eq_some_iff.1 h1)
       have hi2 := (List.getElem?_eq_some_iff.1 hj)
       have hpw := List.pairwise_iff_getElem.1 (lF hnd)
       by_cases e' : j' = j
       ·subst e'; rw [h1] at hj; cases hj; rw [h3]
       ·exfalso
        rcases Nat.lt_or_gt_of_ne e' with hlt2 | hlt2
        ·have := hpw j' j (by simp; exact hi1.1) (by simp; exact hi2.1) hlt2
         simp only [List.getElem_map] at this
         rw [hi1.2, hi2.2] at this; exact this h2
        ·have := hpw j j' (by simp; exact hi2.1) (by simp; exact hi1.1) hlt2
         simp only [List.getElem_map] at this
         rw [hi1.2, hi2.2] at this; exact this h2.symm
     have hfield : ∀ (j : Nat) (p : Nat × Dat), ds[j]? = some p → ∃ fl, fs.toList[p.1]? = some fl ∧ tyN E.P 7 fl.type = some p.2.t ∧ fl.offset + p.2.t.size ≤ τ.size ∧ pl[p.1]? = some (fl.offset, p.2.t.size) := by
      intro j p hj
      have := List.all_eq_true.1 hfld p (List.mem_of_getElem? hj)
      obtain ⟨a0, ha0⟩ := Option.isSome_iff_exists.1 this
      have hta := buildT hb ha0 (by rw [Nat.zero_add]; exact hpart j p hj)
      rw [← hta] at ha0
      obtain ⟨fl, h1, h2, _, h4⟩ := Aj6 hch ha0
      exact ⟨fl, h1, h2, by omega, hpl2 _ fl _ h1 h2⟩
     obtain ⟨β2, q1, q2, q3, q4⟩ := A0U (dst := fun i => dd :: (A6m i ++ [0])) k1 k3 hd (Nat.le_refl _) hnd (fun i => ⟨_, rfl⟩) (fun i j s hij => by
      have := An6 (s := s) hij
      simp only [List.cons_append, sQ, if_true]
      exact this)
     have hone : ∀ (j : Nat) (p : Nat × Dat) (c : List Value), ds[j]? = some p → cs[j]? = some c → (zX p.2.t c).cells = c.toArray ∧ c.length = p.2.t.size := fun j p c h1 h2 => Ah7 k1 k3 h1 h2
     obtain ⟨r, r1, r2, r3, r4⟩ := A3Q (place := (pl.toArray[·]?)) (ps := dB ds cs) (cells := z.cells) (fun p hp => by
      obtain ⟨j, q, c, h1, h2, rfl⟩ := AE8 hp
      obtain ⟨e1, e2⟩ := hone j q c h1 h2
      obtain ⟨fl, f1, f2, f3, f4⟩ := hfield j q h1
      refine ⟨fl.offset, ?_, ?_⟩
      ·simp only [e1]; simpa [e2] using f4
      ·simp only [e1]; simp only [List.size_toArray, e2]
       have : z.cells.size = τ.size := by simpa using hzl
       omega) (by
      unfold dB
      rw [List.pairwise_map, List.pairwise_iff_getElem]
      intro i j hi hj hij
      simp only [List.length_zip] at hi hj
      simp only [List.getElem_zip]
      have hne : (ds[i]'(by omega)).1 ≠ (ds[j]'(by omega)).1 := by
       intro e
       have := (List.pairwise_iff_getElem.1 (lF hnd)) i j (by simp; omega) (by simp; omega) hij
       simp only [List.getElem_map] at this
       exact this e
      obtain ⟨fl, f1, f2, f3, f4⟩ := hfield i (ds[i]'(by omega)) (List.getElem?_eq_getElem _)
      obtain ⟨fl', f1', f2', f3', f4'⟩ := hfield j (ds[j]'(by omega)) (List.getElem?_eq_getElem _)
      intro o1 s1 o2 s2 h1 h2
      simp only [List.getElem?_toArray] at h1 h2
      rw [f4] at h1
      rw [f4'] at h2
      simp only [Option.some.injEq, Prod.mk.injEq] at h1 h2
      obtain ⟨rfl, rfl⟩ := h1
      obtain ⟨rfl, rfl⟩ := h2
      rcases Nat.lt_or_gt_of_ne hne with hl | hl
      ·exact .inl (cI hch hl f1 f1' f2)
      ·exact .inr (cI hch hl f1' f1 f2'))
     have hbuilt : E.P.built t (dB ds cs) = some r := by
      unfold Program.built
      rw [hit, hfs]
      simp only [hz, hpl1]
      exact r1
     have hwz : win z.cells.toList 0 τ.size = z.cells.toList := by rw [← hzl]; exact dI _
     have hrl : r.toList.length = τ.size := by rw [← hzl]; simpa using r2
     have hv := AW4 (S := S1) (β := β2) (H := H) (w := w) (mv := mv) (zc := z.cells.toList) (rc := r.toList) (K0 := [dd]) (i := 0) hch hb (by rw [hwz]; exact hzc) (fun j fl a hj ha => by
      rw [Nat.zero_add]
      refine ⟨fun d x hd' hx => ?_, fun hnone => ?_⟩
      ·obtain ⟨j', p, h1, h2, h3⟩ := cY hd'
       have hjc : ∃ c, cs[j']? = some c := by
        have := (List.getElem?_eq_some_iff.1 h1).1
        exact ⟨cs[j']'(by rw [k3.1]; exact this), List.getElem?_eq_getElem _⟩
       obtain ⟨c, hcc⟩ := hjc
       obtain ⟨e1, e2⟩ := hone j' p c h1 hcc
       obtain ⟨fl', f1, f2, f3, f4⟩ := hfield j' p h1
       rw [h2] at f1 f4
       rw [hj] at f1
       cases f1
       rw [ha] at f2
       have hta : a = p.2.t := Option.some.inj f2
       have hwin := r3 (p.1, zX p.2.t c) (by
        unfold dB
        rw [List.mem_map]
        refine ⟨(p, c), ?_, rfl⟩
        exact List.mem_of_getElem? (i := j') (by simp only [List.getElem?_zip_eq_some]; exact ⟨h1, hcc⟩)) fl.offset p.2.t.size (by simpa [h2] using f4)
       simp only [e1] at hwin
       have hvp := q4 j' p c h1 hcc
       simp only [h2] at hvp
       subst h3
       obtain ⟨pi, pt, px, pf⟩ := p
       simp only at *
       subst hta
       obtain ⟨het, hex⟩ := vP hx
       rw [hwin]
       have hxe : x = px := by rw [hex]
       rw [hxe]
       simpa using hvp
      ·refine r4 _ _ (fun p hpm off s hpls => ?_)
       obtain ⟨j', q, c, h1, h2, rfl⟩ := AE8 hpm
       obtain ⟨fl', f1, f2, f3, f4⟩ := hfield j' q h1
       simp only [List.getElem?_toArray] at hpls
       rw [f4] at hpls
       simp only [Option.some.injEq, Prod.mk.injEq] at hpls
       obtain ⟨rfl, rfl⟩ := hpls
       have hne : q.1 ≠ j := cX hnone q (List.mem_of_getElem? h1)
       rcases Nat.lt_or_gt_of_ne hne with hl | hl
       ·exact .inr (cI hch hl f1 hj f2)
       ·exact .inl (cI hch hl hj f1 ha))
     rw [show win r.toList 0 τ.size = r.toList by rw [← hrl]; exact dI _] at hv
     exact A0v hc ho (As8 hm k6 hbuilt) hag k4 k5 k2 q1 q2 q3 (by simpa [A6m] using hv)
    ·cases hk
   ·cases hk
  ·cases hk
 ·cases hk
end
end Go.Rf

end
section
namespace Go.Rf
set_option linter.unusedSectionVars false
variable [T : Laid]
section
variable {S : Nat → Prop} {β : Key → Option Nat} {H : Nat → Option (List Value)} {w w' : World} {b₀ o₀ o len cap : Nat} {cd : List Value}
structure Behind (S : Nat → Prop) (β : Key → Option Nat) (w w' : World) (kp : Key) (b₀ o₀ : Nat) (cd : List Value) : Prop where
 chg : Chg w w' b₀ o₀ cd
 own : ∀ key, β key = some b₀ → key = kp
 nS : ¬ S b₀
theorem Behind.keep {kp : Key} (h : Behind S β w w' kp b₀ o₀ cd) : ∀ b, S b → S b ∧ w'.heap[b]? = w.heap[b]? := fun b hb => ⟨hb, h.chg.other b fun e => h.nS (e ▸ hb)⟩
theorem Behind.aside {kp k : Key} (h : Behind S β w w' kp b₀ o₀ cd) (hk : ∀ s, k ++ s ≠ kp) : ∀ s b, β (k ++ s) = some b → β (k ++ s) = some b ∧ w'.heap[b]? = w.heap[b]? := fun s b hb =>
 ⟨hb, h.chg.other b fun e => hk s (h.own _ (e ▸ hb))⟩
theorem AF8 : ∀ {p : List PS} {t : Ty} {f : Fl} {x : t.D} {k : Key} {L : Loc} {c : List Value} {τ : Ty} {xs : List τ.D} {g : Fl} {L' : Loc},
  yO p t f x = some ⟨.sl τ, xs, g⟩ → g.base = .own .sh → inB p t x → zF w t.size L = some c → zP S β H w k t f x c → vT w t L p = some (.sl τ, L') → zF w 1 L' = some [.slice (some ⟨b₀, o, none⟩) len cap] → o + len * τ.size ≤ o₀ →
  Behind S β w w' (k ++ xK p) b₀ o₀ cd → zP S β H w' k t f x c
 | [], t, f, x, k, L, c, τ, xs, g, L', hg, hgb, hb, hc, hv, hw, hL, ho, hB => by
  simp only [yO, Option.some.injEq] at hg
  cases hg
  simp only [vT, Option.some.injEq, Prod.mk.injEq, true_and] at hw
  subst hw
  have hcl := mO hc
  simp only [Ty.size] at hc
  rw [hL] at hc
  simp only [Option.some.injEq] at hc
  subst hc
  simp only [zP] at hv ⊢
  refine ⟨hv.1, ?_⟩
  replace hv := hv.2
  rw [hgb] at hv ⊢
  obtain ⟨ad, cap', e, hlc, hv⟩ := hv
  simp only [List.cons.injEq, Value.slice.injEq, and_true] at e
  obtain ⟨rfl, rfl, rfl⟩ := e
  refine ⟨_, _, rfl, hlc, hv.imp id ?_⟩
  rintro ⟨b, oo, cs, e, hk, hob, hz, hv⟩
  simp only [Option.some.injEq, Addr.mk.injEq, and_true] at e
  obtain ⟨rfl, rfl⟩ := e
  obtain ⟨cs', hB', hz', hcs, hle⟩ := hB.chg.size hob
  refine ⟨_, _, cs', rfl, hk, hB', by rw [hz']; exact hz, fun i y hy => ?_⟩
  have hi : i < List.length xs := by unfold nth at hy; exact (List.getElem?_eq_some_iff.1 hy).1
  have hlt : (i + 1) * τ.size ≤ List.length xs * τ.size := Nat.mul_le_mul_right _ hi
  rw [Nat.add_mul, Nat.one_mul] at hlt
  rw [hcs, vW (by simpa using hle) (.inl (by omega))]
  have := hv i y hy
  rw [yM] at this ⊢
  exact zQ hB.keep this
 | .fst :: p, .pair s u, f, x, k, L, c, τ, xs, g, L', hg, hgb, hb, hc, hv, hw, hL, ho, hB => by
  simp only [yO] at hg
  have hne := pI hg (by rw [hgb]; simp)
  have hpar := wX hv
  have h1 := hpar.1
  rw [pP] at h1
  have hkey : k ++ xK (.fst :: p) = (k ++ [0]) ++ xK p := by simp [xK]
  have ih := AF8 hg hgb (by simpa [inB] using hb) (zW (i := 0) (m := s.size) hc (by simp [Ty.size])) h1 (by simpa [vT, xT] using hw) hL ho (hkey ▸ hB)
  rw [← pP] at ih
  have h2 := zL hB.keep (hB.aside (k := k ++ [1]) (fun q => by simp [xK])) hpar.2
  rcases AZ3 hne with hf | ⟨f1, f2, hf⟩
  ·have := jU (p := p) (by rw [kS, hf]; rfl) hg
   rw [hgb] at this; cases this
  ·simp only [zP] at hv ⊢
   refine ⟨hv.1, ?_⟩
   rw [kS, hf] at ih
   rw [kU, hf] at h2
   rw [hf]; exact ⟨ih, h2⟩
 | .snd :: p, .pair s u, f, x, k, L, c, τ, xs, g, L', hg, hgb, hb, hc, hv, hw, hL, ho, hB => by
  simp only [yO] at hg
  have hne := pI hg (by rw [hgb]; simp)
  have hpar := wX hv
  have hl := zS hv
  have h1 := hpar.2
  rw [pO (by simpa [Ty.size] using hl)] at h1
  have hkey : k ++ xK (.snd :: p) = (k ++ [1]) ++ xK p := by simp [xK]
  have ih := AF8 hg hgb (by simpa [inB] using hb) (zW (i := s.size) (m := u.size) hc (by simp [Ty.size])) h1 (by simpa [vT, xT] using hw) hL ho (hkey ▸ hB)
  rw [← pO (by simpa [Ty.size] using hl)] at ih
  have h2 := zL hB.keep (hB.aside (k := k ++ [0]) (fun q => by simp [xK])) hpar.1
  rcases AW5 hne with hf | ⟨f1, f2, hf⟩
  ·have := jU (p := p) (by rw [kU, hf]; rfl) hg
   rw [hgb] at this; cases this
  ·simp only [zP] at hv ⊢
   refine ⟨hv.1, ?_⟩
   rw [kU, hf] at ih
   rw [kS, hf] at h2
   rw [hf]; exact ⟨h2, ih⟩
 | .der :: p, .ptr t, f, x, k, L, c, τ, xs, g, L', hg, hgb, hb, hc, hv, hw, hL, ho, hB => by
  simp only [yO] at hg
  have hne := pI hg (by rw [hgb]; simp)
  rcases rH hne with hf | ⟨e, hf⟩
  ·have := jU (p := p) (by rw [qU, hf]; rfl) hg
   rw [hgb] at this; cases this
  ·simp only [zP] at hv ⊢
   refine ⟨hv.1, ?_⟩
   replace hv := hv.2
   rw [hf] at hv ⊢
   obtain ⟨b, cs, rfl, hk, hob, hz, hv⟩ := hv
   have hbb : b ≠ b₀ := fun e' => by
    have := hB.own _ (e' ▸ hk)
    simp [xK] at this
   refine ⟨b, cs, rfl, hk, hob.same (hB.chg.other b hbb), hz, ?_⟩
   simp only [Ty.size] at hc
   simp only [vT, xT, hc] at hw
   have hc' := zM (o := 0) (n := t.size) hob.blk (by omega)
   have : win cs.toList 0 t.size = cs.toList := by rw [← hz, ← Array.length_toList]; exact dI _
   rw [this] at hc'
   have hkey : k ++ xK (.der :: p) = (k ++ [0]) ++ xK p := by simp [xK]
   rw [qU, hf] at hg
   exact AF8 hg hgb (by simpa [inB] using hb) hc' hv hw hL ho (hkey ▸ hB)
 | .idx i :: p, .arr n t, f, x, k, L, c, τ, xs, g, L', hg, hgb, hb, hc, hv, hw, hL, ho, hB => by
  simp only [yO] at hg
  simp only [inB] at hb
  have hne := pI hg (by rw [hgb]; simp)
  obtain ⟨hx, hcl, hel⟩ := jL hne hv
  rcases AX0 hne with hf | ⟨e, hf⟩
  ·have := jU (p := p) (by rw [aU, hf]; rfl) hg
   rw [hgb] at this; cases this
  ·have hkey : k ++ xK (.idx i :: p) = (k ++ [i]) ++ xK p := by simp [xK]
   have hlt : (i + 1) * t.size ≤ n * t.size := Nat.mul_le_mul_right _ hb.1
   rw [Nat.add_mul] at hlt
   simp only [zP] at hv ⊢
   refine ⟨hv.1, ?_⟩
   rw [hf]
   refine ⟨hx, hcl, fun j y hy => ?_⟩
   have hel' := hel j y hy
   rw [aU, hf] at hel'
   simp only [Fl.a] at hel'
   by_cases hij : j = i
   ·subst hij
    have hyd : y = List.getD x j t.dflt := by
     have := rD (z := t.dflt) (show j < List.length x by omega)
     rw [hy] at this; exact Option.some.inj this
    subst hyd
    simp only [vT, xT, hb.1, if_true] at hw
    rw [aU, hf] at hg
    exact AF8 hg hgb hb.2 (zW (i := j * t.size) (m := t.size) hc (by simp only [Ty.size]; omega)) hel' hw hL ho (hkey ▸ hB)
   ·exact zL hB.keep (hB.aside (k := k ++ [j]) (fun q => by simp [xK, hij])) hel'
 | .elm i :: p, .sl t, f, x, k, L, c, τ, xs, g, L', hg, hgb, hb, hc, hv, hw, hL, ho, hB => by
  simp only [yO] at hg
  simp only [inB] at hb
  have hne := pI hg (by rw [hgb]; simp)
  rcases rH hne with hf | ⟨e, hf⟩
  ·have := jU (p := p) (by rw [qU, hf]; rfl) hg
   rw [hgb] at this; cases this
  ·have hkey : k ++ xK (.elm i :: p) = (k ++ [i]) ++ xK p := by simp [xK]
   simp only [zP] at hv ⊢
   refine ⟨hv.1, ?_⟩
   replace hv := hv.2
   rw [hf] at hv ⊢
   obtain ⟨ad, cap', rfl, hlc, hv⟩ := hv
   refine ⟨ad, cap', rfl, hlc, hv.imp id ?_⟩
   rintro ⟨b, oo, cs, rfl, hk, hob, hz, hv⟩
   have hbb : b ≠ b₀ := fun e' => by
    have := hB.own _ (e' ▸ hk)
    simp [xK] at this
   refine ⟨b, oo, cs, rfl, hk, hob.same (hB.chg.other b hbb), hz, fun j y hy => ?_⟩
   by_cases hij : j = i
   ·subst hij
    have hyd : y = List.getD x j t.dflt := by
     have := rD (z := t.dflt) hb.1
     rw [hy] at this; exact Option.some.inj this
    subst hyd
    simp only [Ty.size] at hc
    simp only [vT, xT, hc, hb.1, if_true] at hw
    rw [qU, hf] at hg
    have hlt : (j + 1) * t.size ≤ cap' * t.size := Nat.mul_le_mul_right _ (by have := hb.1; omega)
    rw [Nat.add_mul] at hlt
    exact AF8 hg hgb hb.2 (zM (o := oo + j * t.size) (n := t.size) hob.blk (by omega)) (hv j _ hy) hw hL ho (hkey ▸ hB)
   ·exact zL hB.keep (hB.aside (k := k ++ [j]) (fun q => by simp [xK, hij])) (hv j y hy)
theorem AF4 : ∀ {q p : List PS} {t : Ty} {f : Fl} {x : t.D} {k : Key} {L : Loc} {c : List Value} {τ : Ty} {xs : List τ.D} {g : Fl} {L' : Loc} {d : Dat},
  yO q t f x = some d → d.f.base ≠ .gone → inB q t x →
  yO p t f x = some ⟨.sl τ, xs, g⟩ → g.base = .own .sh → inB p t x → zF w t.size L = some c → zF w' t.size L = some c → zP S β H w k t f x c → vT w t L p = some (.sl τ, L') → zF w 1 L' = some [.slice (some ⟨b₀, o, none⟩) len cap] → o + len * τ.size ≤ o₀ →
  Behind S β w w' (k ++ xK p) b₀ o₀ cd →
  ∃ Lq cq, vT w t L q = some (d.t, Lq) ∧ vT w' t L q = some (d.t, Lq) ∧ zF w d.t.size Lq = some cq ∧ zF w' d.t.size Lq = some cq
 | [], p, t, f, x, k, L, c, τ, xs, g, L', d, hq, hqn, hqb, hg, hgb, hb, hc, hcc, hv, hw, hL, ho, hB => by
  simp only [yO, Option.some.injEq] at hq; subst hq
  exact ⟨L, c, rfl, rfl, hc, hcc⟩
 | s :: q, [], t, f, x, k, L, c, τ, xs, g, L', d, hq, hqn, hqb, hg, hgb, hb, hc, hcc, hv, hw, hL, ho, hB => by
  simp only [yO, Option.some.injEq] at hg
  cases hg
  simp only [vT, Option.some.injEq, Prod.mk.injEq, true_and] at hw
  subst hw
  cases s <;> simp only [yO, reduceCtorEq] at hq
  rename_i i
  simp only [inB] at hqb
  have hne : f.e.base ≠ .gone := pI hq hqn
  obtain ⟨b, oo, cs, m, cap', rfl, him, hs, hBl, hz, hv'⟩ := Ay9 hne hv (rD (z := τ.dflt) hqb.1)
  simp only [Ty.size] at hc hcc
  rw [hL] at hc
  simp only [Option.some.injEq, List.cons.injEq, Value.slice.injEq, Addr.mk.injEq, and_true] at hc
  obtain ⟨⟨rfl, rfl⟩, rfl, rfl⟩ := hc
  have hxl : len = List.length xs := by
   simp only [zP] at hv
   replace hv := hv.2
   rw [hgb] at hv
   obtain ⟨ad, cp, e, _⟩ := hv
   simp only [List.cons.injEq, Value.slice.injEq, and_true] at e
   exact e.2.1
  rw [Nat.add_mul, Nat.one_mul] at hz
  have hlt : (i + 1) * τ.size ≤ len * τ.size := Nat.mul_le_mul_right _ him
  rw [Nat.add_mul, Nat.one_mul] at hlt
  obtain ⟨cs1, e1, fz1, cs1', t1, t2, t3, t4⟩ := hB.chg.this
  have hcs : cs = cs1 := hBl.inj ⟨e1, fz1, t1⟩
  subst hcs
  have hsz : cs1'.size = cs.size := by
   have := congrArg List.length t3
   rw [jO (by simpa using t4)] at this
   simpa using this
  have hc1 := zM (o := o + i * τ.size) (n := τ.size) hBl (by omega)
  have hc2 : zF w' τ.size (.mem b₀ (o + i * τ.size)) = some (win cs.toList (o + i * τ.size) τ.size) := by
   rw [zM (o := o + i * τ.size) (n := τ.size) ⟨e1, fz1, t2⟩ (by omega), t3, vW (by simpa using t4) (.inl (by omega))]
  obtain ⟨Lq, cq, h1, h2, h3, h4, _⟩ := rW (fun b hb => (hB.keep b hb).2) (k := k ++ [i]) (fun s b hb => (hB.aside (k := k ++ [i]) (fun q => by simp [xK]) s b hb).2) hq hqb.2 hqn hc1 hc2 hv'
  exact ⟨Lq, cq, by simp only [vT, xT, hL, him, if_true]; exact h1, by simp only [vT, xT, hcc, him, if_true]; exact h2, h3, h4⟩
 | r :: q, s :: p, t, f, x, k, L, c, τ, xs, g, L', d, hq, hqn, hqb, hg, hgb, hb, hc, hcc, hv, hw, hL, ho, hB => by
  cases r <;> cases t <;> cases s <;> (try simp only [yO, reduceCtorEq] at hq) <;> (try simp only [yO, reduceCtorEq] at hg)
  case fst.pair.fst =>
   rename_i a b
   have h1 := (wX hv).1
   rw [pP] at h1
   obtain ⟨Lq, cq, k1, k2, k3, k4⟩ := AF4 (k := k ++ [0]) hq hqn (by simpa [inB] using hqb) hg hgb (by simpa [inB] using hb) (zW (i := 0) (m := a.size) hc (by simp [Ty.size])) (zW (i := 0) (m := a.size) hcc (by simp [Ty.size])) h1 (by simpa [vT, xT] using hw) hL ho (by simpa [xK] using hB)
   exact ⟨Lq, cq, by simpa [vT, xT] using k1, by simpa [vT, xT] using k2, k3, k4⟩
  case snd.pair.snd =>
   rename_i a b
   have hl := zS hv
   have h1 := (wX hv).2
   rw [pO (by simpa [Ty.size] using hl)] at h1
   obtain ⟨Lq, cq, k1, k2, k3, k4⟩ := AF4 (k := k ++ [1]) hq hqn (by simpa [inB] using hqb) hg hgb (by simpa [inB] using hb) (zW (i := a.size) (m := b.size) hc (by simp [Ty.size])) (zW (i := a.size) (m := b.size) hcc (by simp [Ty.size])) h1 (by simpa [vT, xT] using hw) hL ho (by simpa [xK] using hB)
   exact ⟨Lq, cq, by simpa [vT, xT] using k1, by simpa [vT, xT] using k2, k3, k4⟩
  case fst.pair.snd =>
   rename_i a b
   have h1 := (wX hv).1
   rw [pP] at h1
   obtain ⟨Lq, cq, k1, k2, k3, k4, _⟩ := rW (fun b hb => (hB.keep b hb).2) (k := k ++ [0]) (fun s b hb => (hB.aside (k := k ++ [0]) (fun q => by simp [xK]) s b hb).2) hq (by simpa [inB] using hqb) hqn (zW (i := 0) (m := a.size) hc (by simp [Ty.size])) (zW (i := 0) (m := a.size) hcc (by simp [Ty.size])) h1
   exact ⟨Lq, cq, by simpa [vT, xT] using k1, by simpa [vT, xT] using k2, k3, k4⟩
  case snd.pair.fst =>
   rename_i a b
   have hl := zS hv
   have h1 := (wX hv).2
   rw [pO (by simpa [Ty.size] using hl)] at h1
   obtain ⟨Lq, cq, k1, k2, k3, k4, _⟩ := rW (fun b hb => (hB.keep b hb).2) (k := k ++ [1]) (fun s b hb => (hB.aside (k := k ++ [1]) (fun q => by simp [xK]) s b hb).2) hq (by simpa [inB] using hqb) hqn (zW (i := a.size) (m := b.size) hc (by simp [Ty.size])) (zW (i := a.size) (m := b.size) hcc (by simp [Ty.size])) h1
   exact ⟨Lq, cq, by simpa [vT, xT] using k1, by simpa [vT, xT] using k2, k3, k4⟩
  case der.ptr.der =>
   rename_i t
   have hne := pI hg (by rw [hgb]; simp)
   rcases rH hne with hf | ⟨e, hf⟩
   ·have := jU (p := p) (by rw [qU, hf]; rfl) hg
    rw [hgb] at this; cases this
   ·have hv0 := hv
    simp only [zP] at hv0
    replace hv0 := hv0.2
    rw [hf] at hv0
    obtain ⟨b, cs, rfl, hk, hob, hz, hv1⟩ := hv0
    have hbb : b ≠ b₀ := fun e' => by
     have := hB.own _ (e' ▸ hk)
     simp [xK] at this
    simp only [Ty.size] at hc hcc
    simp only [vT, xT, hc] at hw
    have hc' := zM (o := 0) (n := t.size) hob.blk (by omega)
    have hcc' := zM (w := w') (o := 0) (n := t.size) (hob.same (hB.chg.other b hbb)).blk (by omega)
    have : win cs.toList 0 t.size = cs.toList := by rw [← hz, ← Array.length_toList]; exact dI _
    rw [this] at hc' hcc'
    rw [qU, hf] at hg hq
    obtain ⟨Lq, cq, k1, k2, k3, k4⟩ := AF4 (k := k ++ [0]) hq hqn (by simpa [inB] using hqb) hg hgb (by simpa [inB] using hb) hc' hcc' hv1 hw hL ho (by simpa [xK] using hB)
    exact ⟨Lq, cq, by simp only [vT, xT, hc]; exact k1, by simp only [vT, xT, hcc]; exact k2, k3, k4⟩
  case idx.arr.idx =>
   rename_i i n t j
   simp only [inB] at hqb hb
   have hne := pI hg (by rw [hgb]; simp)
   obtain ⟨hx, hcl, hel⟩ := jL hne hv
   have hlt : (i + 1) * t.size ≤ n * t.size := Nat.mul_le_mul_right _ hqb.1
   rw [Nat.add_mul] at hlt
   have hc1 := zW (i := i * t.size) (m := t.size) hc (by simp only [Ty.size]; omega)
   have hc2 := zW (i := i * t.size) (m := t.size) hcc (by simp only [Ty.size]; omega)
   have hvi := hel i _ (rD (z := t.dflt) (by omega))
   by_cases hij : i = j
   ·subst hij
    simp only [vT, xT, hb.1, if_true] at hw
    obtain ⟨Lq, cq, k1, k2, k3, k4⟩ := AF4 (k := k ++ [i]) hq hqn hqb.2 hg hgb hb.2 hc1 hc2 hvi hw hL ho (by simpa [xK] using hB)
    exact ⟨Lq, cq, by simp only [vT, xT, hqb.1, if_true]; exact k1, by simp only [vT, xT, hqb.1, if_true]; exact k2, k3, k4⟩
   ·obtain ⟨Lq, cq, k1, k2, k3, k4, _⟩ := rW (fun b hb => (hB.keep b hb).2) (k := k ++ [i]) (fun s b hb => (hB.aside (k := k ++ [i]) (fun q => by simp [xK, hij]) s b hb).2) hq hqb.2 hqn hc1 hc2 hvi
    exact ⟨Lq, cq, by simp only [vT, xT, hqb.1, if_true]; exact k1, by simp only [vT, xT, hqb.1, if_true]; exact k2, k3, k4⟩
  case elm.sl.elm =>
   rename_i i t j
   simp only [inB] at hqb hb
   have hne := pI hg (by rw [hgb]; simp)
   rcases rH hne with hf | ⟨e, hf⟩
   ·have := jU (p := p) (by rw [qU, hf]; rfl) hg
    rw [hgb] at this; cases this
   ·have hv0 := hv
    simp only [zP] at hv0
    replace hv0 := hv0.2
    rw [hf] at hv0
    obtain ⟨ad, cap', rfl, hlc, hv0⟩ := hv0
    rcases hv0 with hv0 | ⟨b, oo, cs, rfl, hk, hob, hz, hv1⟩
    ·have := hqb.1; omega
    ·have hbb : b ≠ b₀ := fun e' => by
      have := hB.own _ (e' ▸ hk)
      simp [xK] at this
     simp only [Ty.size] at hc hcc
     simp only [vT, xT, hc, hb.1, if_true] at hw
     rw [qU, hf] at hg hq
     have hlt : (i + 1) * t.size ≤ cap' * t.size := Nat.mul_le_mul_right _ (by have := hqb.1; omega)
     rw [Nat.add_mul] at hlt
     have hc1 := zM (o := oo + i * t.size) (n := t.size) hob.blk (by omega)
     have hc2 := zM (w := w') (o := oo + i * t.size) (n := t.size) (hob.same (hB.chg.other b hbb)).blk (by omega)
     have hvi := hv1 i _ (rD (z := t.dflt) hqb.1)
     by_cases hij : i = j
     ·subst hij
      obtain ⟨Lq, cq, k1, k2, k3, k4⟩ := AF4 (k := k ++ [i]) hq hqn hqb.2 hg hgb hb.2 hc1 hc2 hvi hw hL ho (by simpa [xK] using hB)
      exact ⟨Lq, cq, by simp only [vT, xT, hc, hqb.1, if_true]; exact k1, by simp only [vT, xT, hcc, hqb.1, if_true]; exact k2, k3, k4⟩
     ·obtain ⟨Lq, cq, k1, k2, k3, k4, _⟩ := rW (fun b hb => (hB.keep b hb).2) (k := k ++ [i]) (fun s b hb => (hB.aside (k := k ++ [i]) (fun q => by simp [xK, hij]) s b hb).2) hq hqb.2 hqn hc1 hc2 hvi
      exact ⟨Lq, cq, by simp only [vT, xT, hc, hqb.1, if_true]; exact k1, by simp only [vT, xT, hcc, hqb.1, if_true]; exact k2, k3, k4⟩
end
end Go.Rf

end
section
namespace Go.Rf
set_option linter.unusedSectionVars false
variable [T : Laid]
section
variable {P : Program} {S : Nat → Prop} {β : Key → Option Nat} {H : Nat → Option (List Value)} {w w' : World} {E : Env}
def A3D (P : Program) (w : World) (t' : TypeId) (size : Nat) (z : Array Value) (vy : Value) (m : Nat) (cy : List Value) : Prop :=
 (∃ u, P.underlying t' = some u ∧ (∀ k, u ≠ .int k) ∧ (∀ w', (Builtin.lenOf vy).run P w' = .ok m w') ∧ ∀ w', w'.heap = w.heap → (Builtin.firstCells size m vy).run P w' = .ok cy.toArray w') ∨
 (P.underlying t' = some (.int .i64) ∧ vy = .int .i64 m ∧ m ≤ 1099511627776 ∧ cy = (iU z (m * size)).toList)
theorem kL {z : Array Value} {n : Nat} : Builtin.zeroCells z n = iU z (n * z.size) := rfl
theorem Aq2 {b m : Nat} (hb : b ≤ 128) (hm : m ≤ 1099511627776) : ¬ ((m : Int) * (b : Int) > 2 ^ 48) := by
 have : m * b ≤ 1099511627776 * 128 := Nat.mul_le_mul hm hb
 rw [← Int.natCast_mul]
 omega
theorem gM {t t' ty e : TypeId} {τ : Ty} {z : Value} {vy : Value} {m len cap : Nat} {cy : List Value} {base : Option Addr} (h : SlOK E t e τ z) (ha : A3D E.P w t' τ.size z.cells vy m cy) (hroom : len + m ≤ cap)
  (hst : ∀ a, base = some a → (storeCells (a.add (len * τ.size)) cy 0).run E.P w = .ok () w') (hno : base = none → w' = w) :
  (Builtin.append_ #[t, t'] ty #[.slice base len cap, vy]).run E.P w = .ok (.slice base (len + m) cap) w' := by
 obtain ⟨i, hi, hb⟩ := h.bytes
 have hsz : (sizeOf e).run E.P w = .ok τ.size w := uW h.elem
 rcases ha with ⟨u, hu, hni, hl, hf⟩ | ⟨hu, rfl, hm, rfl⟩
 ·skip
  have hf' := hf w rfl
  cases base with
  | none =>
   have := hno rfl
   subst this
   simp [Builtin.append_, zC h.und, zC hu, hsz, hl, hroom, hf']
  | some a =>
   have := hst a rfl
   simp [Builtin.append_, zC h.und, zC hu, hsz, hl, hroom, hf', this]
 ·have hw : IntKind.i64.wrap (m : Int) = m := AH2 (by omega) (by omega)
  have hmul := Aq2 hb hm
  have hzs := h.size
  have e0 : iU z.cells 0 = #[] := by simp [iU]
  have hn0 : ¬ ((m : Int) < 0) := by omega
  have hn1 : ¬ (281474976710656 < (m : Int) * (i.bytes : Int)) := by omega
  cases base with
  | none =>
   have := hno rfl
   subst this
   by_cases h0 : m * τ.size = 0
   ·simp [Builtin.append_, zC h.und, zC hu, hsz, hroom, asInt, asIntOf, hw, vY hi, hn0, hn1, h0]
   ·simp [Builtin.append_, zC h.und, zC hu, hsz, hroom, asInt, asIntOf, hw, vY hi, hn0, hn1, h0, h.zero]
  | some a =>
   have hsa := hst a rfl
   by_cases h0 : m * τ.size = 0
   ·rw [h0, e0] at hsa
    simp only [Array.toList_empty] at hsa
    simp [Builtin.append_, zC h.und, zC hu, hsz, hroom, asInt, asIntOf, hw, vY hi, hn0, hn1, h0, hsa]
   ·have hzc : Builtin.zeroCells z.cells m = iU z.cells (m * τ.size) := by rw [kL, hzs]
    simp [Builtin.append_, zC h.und, zC hu, hsz, hroom, asInt, asIntOf, hw, vY hi, hn0, hn1, h0, h.zero, hzc, hsa]
theorem AI7 {t t' ty e : TypeId} {τ : Ty} {z : Value} {vy : Value} {m len cap : Nat} {cy co : List Value} {base : Option Addr} (h : SlOK E t e τ z) (ha : A3D E.P w t' τ.size z.cells vy m cy) (hroom : ¬ len + m ≤ cap) (hlen : len + m ≤ 1099511627776)
  (hold : ∀ w', w'.heap = w.heap → (Builtin.firstCells τ.size len (.slice base len cap)).run E.P w' = .ok co.toArray w') :
  ∃ nc w', len + m ≤ nc ∧ (Builtin.append_ #[t, t'] ty #[.slice base len cap, vy]).run E.P w = .ok (.slice (some ⟨w.heap.size, 0, none⟩) (len + m) nc) w' ∧ Pushed w w' (.cells (co.toArray ++ (cy.toArray ++ iU z.cells ((nc - (len + m)) * τ.size))) e) := by
 obtain ⟨i, hi, hb⟩ := h.bytes
 have hsz : ∀ w, (sizeOf e).run E.P w = .ok τ.size w := fun w => uW h.elem
 have h63 : ¬ (9223372036854775807 < ((len : Int) + (m : Int))) := by omega
 have hfit := growslice_fits (need := len + m) (old := cap) (bytes := i.bytes) (by omega) (by
  have : (len + m) * i.bytes ≤ 1099511627776 * 128 := Nat.mul_le_mul hlen hb
  omega)
 have h48 : ¬ (281474976710656 < Builtin.nextslicecap (len + m) cap * i.bytes) := by omega
 refine ⟨grownCap w (len + m) cap e, w.drew.alloc (.cells (co.toArray ++ (cy.toArray ++ iU z.cells ((grownCap w (len + m) cap e - (len + m)) * τ.size))) e), grownCap_ge _ _ _ _, ?_, rfl, rfl, rfl, rfl⟩
 have hold' := hold w.drew rfl
 have hzs := h.size
 rcases ha with ⟨u, hu, hni, hl, hf⟩ | ⟨hu, rfl, hm, rfl⟩
 ·skip
  have hf' := hf w.drew rfl
  simp [Builtin.append_, zC h.und, zC hu, hsz, hl, hroom, vY hi, h63, h48, Question.forced, hold', hf', h.zero, newRow, grownCap, kL, hzs]
 ·have hw : IntKind.i64.wrap (m : Int) = m := AH2 (by omega) (by omega)
  have hmul := Aq2 hb hm
  have hn0 : ¬ ((m : Int) < 0) := by omega
  have hn1 : ¬ (281474976710656 < (m : Int) * (i.bytes : Int)) := by omega
  have e0 : iU z.cells 0 = #[] := by simp [iU]
  by_cases h0 : m * τ.size = 0
  ·simp [Builtin.append_, zC h.und, zC hu, hsz, hroom, asInt, asIntOf, hw, vY hi, h63, h48, hn0, hn1, h0, e0, Question.forced, hold', h.zero, newRow, grownCap, kL, hzs]
  ·simp [Builtin.append_, zC h.und, zC hu, hsz, hroom, asInt, asIntOf, hw, vY hi, h63, h48, hn0, hn1, h0, Question.forced, hold', h.zero, newRow, grownCap, kL, hzs]
end
end Go.Rf

end
section
namespace Go.Rf
set_option linter.unusedSectionVars false
variable [T : Laid]
section
variable {P : Program} {H : Nat → Option (List Value)} {N : Nat} {g g' σ : zY} {V V' : Nat → Option Value} {w w' : World} {S S' : Nat → Prop} {β β' : Key → Option Nat} {a : Act} {o : Oper}
variable {E : Env} {gv : zY} {us : List Up}
structure Elems (S : Nat → Prop) (w : World) (τ : Ty) (ys : List τ.D) (cy : List Value) : Prop where
 len : cy.length = ys.length * τ.size
 one : ∀ v ∈ cy, v.oneCell' = true
 get : ∀ j v, nth ys j = some v → Rd S w τ v (win cy (j * τ.size) τ.size)
theorem Elems.of {τ : Ty} {ys : List τ.D} {cy : List Value} (h1 : cy.length = ys.length * τ.size) (h2 : ∀ j v, nth ys j = some v → Rd S w τ v (win cy (j * τ.size) τ.size)) : Elems S w τ ys cy := by
 refine ⟨h1, fun v hv => ?_, h2⟩
 obtain ⟨i, hi, hiv⟩ := A8U hv h1
 have ht : 0 < τ.size := by
  rcases Nat.eq_zero_or_pos τ.size with e | e
  ·rw [e] at hi; omega
  ·exact e
 have hq : i / τ.size < ys.length := by rw [Nat.div_lt_iff_lt_mul ht]; exact hi
 refine A1y (h2 (i / τ.size) _ (rD (z := τ.dflt) hq)) v ?_
 have hg : (win cy (i / τ.size * τ.size) τ.size)[i % τ.size]? = some v := by
  rw [uX, if_pos (Nat.mod_lt _ ht)]
  have := Nat.div_add_mod i τ.size
  rw [Nat.mul_comm] at this
  rw [this]; exact hiv
 exact List.mem_of_getElem? hg
theorem Elems.nil {τ : Ty} : Elems S w τ ([] : List τ.D) [] := ⟨by simp, by simp, fun j v h => by simp [nth] at h⟩
theorem AB3 {n : Nat} {L : Loc} (h : w'.heap = w.heap) : zF w' n L = zF w n L := by cases L <;> simp [zF, h]
theorem A4L {τ : Ty} {ys : List τ.D} {c : List Value} (h : Rd S w (.sl τ) ys c) : ∃ ad cap cy, c = [.slice ad ys.length cap] ∧ Elems S w τ ys cy ∧
  ∀ w', w'.heap = w.heap → (Builtin.firstCells τ.size ys.length (.slice ad ys.length cap)).run P w' = .ok cy.toArray w' := by
 simp only [Rd] at h
 obtain ⟨ad, cap, rfl, hl, h⟩ := h
 rcases h with h | ⟨b, oo, cs, rfl, hS, hB, hz, h⟩
 ·subst h
  refine ⟨ad, cap, [], rfl, .nil, fun w' _ => ?_⟩
  cases ad with
  | none => simp [Builtin.firstCells]
  | some b => simp [Builtin.firstCells, dN]
 ·refine ⟨_, cap, win cs.toList oo (List.length ys * τ.size), rfl, Elems.of (oZ (by simpa using hz)) (fun j v hv => ?_), fun w' hw' => ?_⟩
  ·have hj : j < List.length ys := by unfold nth at hv; exact (List.getElem?_eq_some_iff.1 hv).1
   have hlt : (j + 1) * τ.size ≤ List.length ys * τ.size := Nat.mul_le_mul_right _ hj
   rw [Nat.add_mul, Nat.one_mul] at hlt
   rw [rZ (by omega)]
   exact h j v hv
  ·have hc := zM (o := oo) (n := List.length ys * τ.size) hB hz
   rw [← AB3 hw'] at hc
   simp only [Builtin.firstCells]
   exact nZ hc
theorem A7I {n : Int} (h : zA n = true) : 0 ≤ n := by simpa [zA] using h
theorem A0Z {s : List UInt8} {t' : TypeId} {z : Array Value} (ht : P.underlying t' = some .string) :
  Elems S w (.int .u8) (List.map (fun b : UInt8 => (b.toNat : Int)) s) (List.map (fun b : UInt8 => Value.int .u8 (b.toNat : Int)) s) ∧
  A3D P w t' (Ty.int .u8).size z (.string ⟨⟨s⟩⟩) (List.map (fun b : UInt8 => (b.toNat : Int)) s).length (List.map (fun b : UInt8 => Value.int .u8 (b.toNat : Int)) s) := by
 refine ⟨Elems.of ?_ (fun j v hj => ?_), .inl ⟨_, ht, by simp, fun w' => ?_, fun w' _ => ?_⟩⟩
 ·show _ = (List.map (fun b : UInt8 => (b.toNat : Int)) s).length * 1
  rw [Nat.mul_one, List.length_map, List.length_map]
 ·obtain ⟨b, hb1, hb2⟩ := A8N hj
  subst hb2
  simp only [Rd, Ty.size, Nat.mul_one]
  apply List.ext_getElem?
  intro i
  rw [uX]
  cases i with
  | zero => rw [if_pos (by decide), Nat.add_zero, List.getElem?_map, hb1]; rfl
  | succ i => rw [if_neg (by omega)]; simp
 ·rw [List.length_map]; rfl
 ·rw [List.length_map]
  have h2 : (⟨⟨s⟩⟩ : ByteArray).extract 0 s.length = ⟨⟨s⟩⟩ := by rw [As4]; simp
  simp only [Builtin.firstCells]
  rw [h2]
  simp
theorem A1M {τ : Ty} {t' : TypeId} {y : Operand} {ys : List τ.D} {z : Value} (h : Rel H N g V w S β) (hs : Sub gv g) (hz : pU τ z.cells.toList = true) (hzs : z.cells.size = τ.size)
  (ha : A2J gv τ (E.ty t') y = some (ys, us)) :
  ∃ S1 β1 cy vy, Rel H N (g.ups us) V w S1 β1 ∧ Step w S β w S1 β1 ∧ Sub (gv.ups us) (g.ups us) ∧ (∀ u ∈ us, (g u.slot).sv ≠ .dead) ∧ Elems S1 w τ ys cy ∧ evl V y = some vy ∧ A3D E.P w t' τ.size z.cells vy ys.length cy := by
 unfold A2J at ha
 split at ha
 ·rename_i ht
  split at ha
  ·rename_i n hn
   split at ha
   ·rename_i hw
    simp only [Bool.cond_eq_ite] at ha
    split at ha
    ·rename_i hcond
     simp only [Bool.and_eq_true] at hcond
     simp only [Option.some.injEq, Prod.mk.injEq] at ha
     obtain ⟨rfl, rfl⟩ := ha
     have hn0 := A7I hcond.1
     have hv := eM h (hs.sv hn (by simp)) iT
     have hnn : ((Int.toNat n : Nat) : Int) = n := Int.toNat_of_nonneg hn0
     refine ⟨S, β, (iU z.cells (Int.toNat n * τ.size)).toList, _, h, .refl, hs, by simp, Elems.of (by simp [gW]) (fun j v hj => ?_), hv, .inr ⟨A4v ht, ?_, ?_, ?_⟩⟩
     ·have hj' : (List.replicate (Int.toNat n) τ.dflt)[j]? = some v := hj
      rw [List.getElem?_replicate] at hj'
      split at hj'
      ·rename_i hjn
       simp only [Option.some.injEq] at hj'; subst hj'
       have := A06 (S := S) (β := fun _ => none) (H := H) (w := w) (k := []) (mv := false) hz hzs hjn
       exact vN (f := Fl.nw false τ) hw (fun _ h => h) (fun _ _ hb => by cases hb) this
      ·cases hj'
     ·rw [List.length_replicate, hnn]
     ·rw [List.length_replicate]; exact AR6 hcond.2
     ·rw [List.length_replicate]
    ·cases ha
   ·cases ha
  ·cases ha
 ·rename_i τ' ht
  obtain ⟨e', he', h7⟩ := AS1 ht
  split at ha
  ·rename_i hy
   split at ha
   ·simp only [Option.some.injEq, Prod.mk.injEq] at ha
    obtain ⟨rfl, rfl⟩ := ha
    have hv : evl V y = some (.slice none 0 0) := by
     rcases dU (hs.sv hy (by simp)) with ⟨s, rfl, h'⟩ | rfl
     ·have := h.slots s
      rw [h'] at this; exact this.elim
     ·rfl
    exact ⟨S, β, [], _, h, .refl, hs, by simp, .nil, hv, .inl ⟨_, he', by simp, fun w' => by simp [Builtin.lenOf], fun w' _ => by simp [Builtin.firstCells]⟩⟩
   ·cases ha
  ·split at ha
   ·rename_i τ'' ys0 f0 hd
    simp only [Option.bind_eq_some_iff, Option.map_eq_some_iff, Prod.mk.injEq] at ha
    obtain ⟨ys1, hc, us1, hp, rfl, rfl⟩ := ha
    obtain ⟨het, hex⟩ := vP hc
    cases het
    have hex : ys = ys0 := hex
    subst hex
    obtain ⟨hp', hsub, halive⟩ := eQ hs hp
    obtain ⟨S1, β1, c, k1, k2, k3, k4⟩ := bT h hp' (uV hs hd)
    obtain ⟨ad, cap, cy, rfl, q1, q2⟩ := A4L (P := E.P) k4
    exact ⟨S1, β1, cy, _, k1, k2, hsub, halive, q1, k3, .inl ⟨_, he', by simp, fun w' => by simp [zX, Ty.agg, Builtin.lenOf], fun w' hw' => q2 w' hw'⟩⟩
   ·cases ha
 ·rename_i ht
  split at ha
  ·rename_i s hy
   obtain ⟨ys1, hc, hpair⟩ := Option.map_eq_some_iff.1 ha
   simp only [Prod.mk.injEq] at hpair
   obtain ⟨rfl, rfl⟩ := hpair
   obtain ⟨het, hex⟩ := vP hc
   cases het
   have hex : ys1 = List.map (fun b : UInt8 => (b.toNat : Int)) s := hex
   subst hex
   have hv := A41 h (hs.sv hy (by simp)) iT
   exact ⟨S, β, _, _, h, .refl, hs, by simp, (A0Z (P := E.P) (z := z.cells) (AO9 ht)).1, hv, (A0Z (S := S) (w := w) (AO9 ht)).2⟩
  ·cases ha
 ·cases ha
end
end Go.Rf

end
section
namespace Go.Rf
set_option linter.unusedSectionVars false
variable [T : Laid]
section
variable {P : Program} {H : Nat → Option (List Value)} {N : Nat} {g g' σ : zY} {V V' : Nat → Option Value} {w w' : World} {S S' : Nat → Prop} {β β' : Key → Option Nat} {a : Act} {o : Oper}
variable {E : Env} {gv : zY} {us : List Up}
theorem Rel.touch (h : Rel H N g V w S β) {r : Nat} {e : Dat} (he : (g r).sv = .dat e) : Rel H N (g.up (.pub r (.dat e))) V w S β := by
 obtain ⟨t, x, f⟩ := e
 obtain ⟨c, hv, hV⟩ := h.dat he
 exact h.pub he h.sane (fun b hb => ⟨hb, rfl⟩) (fun j s b _ _ hb => ⟨hb, rfl⟩) (fun p d L cr c h1 h2 _ _ _ h4 h5 => ⟨⟨d.f, h1, h2⟩, h4, h5⟩) ⟨c, hv, hV⟩
theorem cP {α : Type} {xs ys : List α} {i : Nat} {y : α} (h : nth (xs ++ ys) i = some y) : (i < xs.length ∧ nth xs i = some y) ∨ (xs.length ≤ i ∧ nth ys (i - xs.length) = some y) := by
 unfold nth at *
 by_cases hi : i < xs.length
 ·rw [List.getElem?_append_left hi] at h; exact .inl ⟨hi, h⟩
 ·rw [List.getElem?_append_right (by omega)] at h; exact .inr ⟨by omega, h⟩
theorem AM6 {t t' ty e : TypeId} {τ : Ty} {z : Value} {vy : Value} {xs ys : List τ.D} {cy : List Value} {ad : Option Addr} {cap : Nat} {key : Key} (hok : SlOK E t e τ z)
  (hb : zP S β H w key (.sl τ) (.own .sh) xs [.slice ad xs.length cap]) (hy : Elems S w τ ys cy) (ha : A3D E.P w t' τ.size z.cells vy ys.length cy) (hlen : xs.length + ys.length ≤ 1099511627776) (hsep : ∀ b, β key = some b → ¬ S b) (hlt : ∀ b, S b → b < w.heap.size) :
  (∃ w', (Builtin.append_ #[t, t'] ty #[.slice ad xs.length cap, vy]).run E.P w = .ok (.slice ad (xs.length + ys.length) cap) w' ∧
   ((w' = w ∧ cap = 0 ∧ xs = [] ∧ ys = []) ∨ ∃ b₀ o, ad = some ⟨b₀, o, none⟩ ∧ β key = some b₀ ∧ Chg w w' b₀ (o + xs.length * τ.size) cy ∧ w'.heap.size = w.heap.size ∧ zP S β H w' key (.sl τ) (.own .sh) (xs ++ ys : List τ.D) [.slice ad (xs.length + ys.length) cap])) ∨
  (∃ w' nc ob, (Builtin.append_ #[t, t'] ty #[.slice ad xs.length cap, vy]).run E.P w = .ok (.slice (some ⟨w.heap.size, 0, none⟩) (xs.length + ys.length) nc) w' ∧ Pushed w w' ob ∧
   ∀ key' β', β' key' = some w.heap.size → zP S β' H w' key' (.sl τ) (.own .sh) (xs ++ ys : List τ.D) [.slice (some ⟨w.heap.size, 0, none⟩) (xs.length + ys.length) nc]) := by
 simp only [zP, Fl.base] at hb
 obtain ⟨_, ad', cap', e1, hlc, hb⟩ := hb
 simp only [List.cons.injEq, Value.slice.injEq, and_true] at e1
 obtain ⟨rfl, _, rfl⟩ := e1
 by_cases hroom : xs.length + ys.length ≤ cap
 ·left
  rcases hb with hb | ⟨b, oo, cs, rfl, hk, hob, hz, hel⟩
  ·have hx : xs = [] := List.length_eq_zero_iff.1 (by omega)
   have hyy : ys = [] := List.length_eq_zero_iff.1 (by omega)
   subst hx; subst hyy
   have hcy : cy = [] := List.length_eq_zero_iff.1 (by have := hy.len; simpa using this)
   subst hcy
   exact ⟨w, gM hok ha hroom (fun a _ => by simp [storeCells]) (fun _ => rfl), .inl ⟨rfl, hb, rfl, rfl⟩⟩
  ·obtain ⟨el, fz, hbl, hf⟩ := hob
   have hle : oo + xs.length * τ.size + cy.length ≤ cs.size := by
    rw [hy.len]
    have : xs.length * τ.size + ys.length * τ.size ≤ cap * τ.size := by rw [← Nat.add_mul]; exact Nat.mul_le_mul_right _ hroom
    omega
   obtain ⟨w', cs', k1, k2, k3, k4, k5, k6⟩ := oL (P := E.P) (vs := cy) (i := 0) (o := oo + xs.length * τ.size) hbl (fun j hj => ⟨by omega, hf.1 _ (by omega)⟩) hy.one
   rw [Nat.add_zero] at k3
   have hchg : Chg w w' b (oo + xs.length * τ.size) cy := ⟨k4, ⟨cs, el, fz, cs', hbl, k2, k3, hle⟩, k6⟩
   have hsz : cs'.size = cs.size := by
    have := congrArg List.length k3
    rw [jO (by simpa using hle)] at this
    simpa using this
   have hS : ∀ b', S b' → S b' ∧ w'.heap[b']? = w.heap[b']? := fun b' hb' => ⟨hb', k4 b' (fun e => hsep b hk (e ▸ hb'))⟩
   refine ⟨w', gM hok ha hroom (fun a ha' => ?_) (fun h => by cases h), .inr ⟨b, oo, rfl, hk, hchg, k5, ?_⟩⟩
   ·simp only [Option.some.injEq] at ha'; subst ha'
    rw [kH]; exact k1
   ·simp only [zP, Fl.base]
    refine ⟨by simp [pX, Fl.pins], _, cap, by rw [List.length_append], by rw [List.length_append]; exact hroom, .inr ⟨b, oo, cs', rfl, hk, ⟨el, fz, k2, by rw [hsz]; exact hf⟩, by rw [hsz]; exact hz, fun i y hi => ?_⟩⟩
    rw [yM, k3]
    rcases cP hi with ⟨hlt', hi⟩ | ⟨hge, hi⟩
    ·have hlt2 : (i + 1) * τ.size ≤ xs.length * τ.size := Nat.mul_le_mul_right _ hlt'
     rw [Nat.add_mul, Nat.one_mul] at hlt2
     rw [vW (by simpa using hle) (.inl (by omega))]
     have := hel i y hi
     rw [yM] at this
     exact zQ hS this
    ·have hj : i - xs.length < ys.length := by unfold nth at hi; exact (List.getElem?_eq_some_iff.1 hi).1
     have hlt2 : (i - xs.length + 1) * τ.size ≤ ys.length * τ.size := Nat.mul_le_mul_right _ hj
     rw [Nat.add_mul, Nat.one_mul] at hlt2
     have e2 : oo + i * τ.size = oo + xs.length * τ.size + (i - xs.length) * τ.size := by
      have : i * τ.size = xs.length * τ.size + (i - xs.length) * τ.size := by rw [← Nat.add_mul]; congr 1; omega
      omega
     have e3 : win (iO cs.toList (oo + xs.length * τ.size) cy) (oo + i * τ.size) τ.size = win cy ((i - xs.length) * τ.size) τ.size := by
      rw [e2, ← rZ (n := cy.length) (by rw [hy.len]; omega), kN (by simpa using hle)]
     rw [e3]
     exact zQ hS (hy.get _ y hi)
 ·right
  have hold : ∃ co : List Value, co.length = xs.length * τ.size ∧ (∀ w', w'.heap = w.heap → (Builtin.firstCells τ.size xs.length (.slice ad xs.length cap)).run E.P w' = .ok co.toArray w') ∧ ∀ i y, nth xs i = some y → Rd S w τ y (win co (i * τ.size) τ.size) := by
   rcases hb with hb | ⟨b, oo, cs, rfl, hk, hob, hz, hel⟩
   ·have hx : xs = [] := List.length_eq_zero_iff.1 (by omega)
    subst hx
    refine ⟨[], by simp, fun w' _ => ?_, fun i y h => by simp [nth] at h⟩
    cases ad with
    | none => simp [Builtin.firstCells]
    | some b => simp [Builtin.firstCells, dN]
   ·have hle : oo + xs.length * τ.size ≤ cs.size := by
     have : xs.length * τ.size ≤ cap * τ.size := Nat.mul_le_mul_right _ hlc
     omega
    refine ⟨win cs.toList oo (xs.length * τ.size), oZ (by simpa using hle), fun w' hw' => ?_, fun i y hi => ?_⟩
    ·have hc := zM (o := oo) (n := xs.length * τ.size) hob.blk hle
     rw [← AB3 hw'] at hc
     simp only [Builtin.firstCells]
     exact nZ hc
    ·have hj : i < xs.length := by unfold nth at hi; exact (List.getElem?_eq_some_iff.1 hi).1
     have hlt' : (i + 1) * τ.size ≤ xs.length * τ.size := Nat.mul_le_mul_right _ hj
     rw [Nat.add_mul, Nat.one_mul] at hlt'
     rw [rZ (by omega)]
     have := hel i y hi
     rw [yM] at this; exact this
  obtain ⟨co, hcl, hold, hel⟩ := hold
  obtain ⟨nc, w', hnc, hrun, hheap⟩ := AI7 (ty := ty) hok ha hroom hlen hold
  refine ⟨w', nc, _, hrun, hheap, fun key' β' hk' => ?_⟩
  have hS : ∀ b', S b' → S b' ∧ w'.heap[b']? = w.heap[b']? := fun b' hb' => ⟨hb', tR hheap (hlt b' hb')⟩
  simp only [zP, Fl.base]
  refine ⟨by simp [pX, Fl.pins], _, nc, by rw [List.length_append], by rw [List.length_append]; exact hnc, .inr ⟨w.heap.size, 0, _, rfl, hk', AA4.new hheap (.inl rfl), ?_, fun i y hi => ?_⟩⟩
  ·simp only [Array.size_append, List.size_toArray, gW, hcl, hy.len]
   have : nc * τ.size = xs.length * τ.size + ys.length * τ.size + (nc - (xs.length + ys.length)) * τ.size := by
    rw [← Nat.add_mul, ← Nat.add_mul]; congr 1; omega
   omega
  ·rw [yM, Nat.zero_add]
   simp only [Array.toList_append]
   have wl : ∀ (A B : List Value) (p n : Nat), p + n ≤ A.length → win (A ++ B) p n = win A p n := fun A B p n h => by
    unfold win
    rw [List.drop_append_of_le_length (by omega), List.take_append_of_le_length (by simp; omega)]
   have wr : ∀ (A B : List Value) (p n : Nat), win (A ++ B) (A.length + p) n = win B p n := fun A B p n => by
    unfold win; rw [List.drop_append, List.drop_eq_nil_of_le (by omega)]; simp
   rcases cP hi with ⟨hlt', hi⟩ | ⟨hge, hi⟩
   ·have hlt2 : (i + 1) * τ.size ≤ xs.length * τ.size := Nat.mul_le_mul_right _ hlt'
    rw [Nat.add_mul, Nat.one_mul] at hlt2
    rw [wl _ _ _ _ (by omega)]
    exact zQ hS (hel i y hi)
   ·have hj : i - xs.length < ys.length := by unfold nth at hi; exact (List.getElem?_eq_some_iff.1 hi).1
    have hlt2 : (i - xs.length + 1) * τ.size ≤ ys.length * τ.size := Nat.mul_le_mul_right _ hj
    rw [Nat.add_mul, Nat.one_mul] at hlt2
    have e2 : i * τ.size = co.length + (i - xs.length) * τ.size := by
     rw [hcl, ← Nat.add_mul]; congr 1; omega
    rw [e2, wr, wl _ _ _ _ (by rw [hy.len]; omega)]
    exact zQ hS (hy.get _ y hi)
end
end Go.Rf

end
section
namespace Go.Rf
set_option linter.unusedSectionVars false
variable [T : Laid]
section
variable {P : Program} {H : Nat → Option (List Value)} {N : Nat} {g g' σ : zY} {V V' : Nat → Option Value} {w w' : World} {S S' : Nat → Prop} {β β' : Key → Option Nat} {a : Act} {o : Oper}
variable {E : Env} {gv : zY} {us : List Up}
theorem A1P {key : Key} {τ : Ty} {ys : List τ.D} {e : Fl} {c : List Value} (hw : e.whole = true) (h : zP S β H w key (.sl τ) (.own e) ys c) :
  ∃ ad cap cy, c = [.slice ad ys.length cap] ∧ ys.length ≤ cap ∧ cy.length = ys.length * τ.size ∧ (∀ v ∈ cy, v.oneCell' = true) ∧
   (∀ w', w'.heap = w.heap → (Builtin.firstCells τ.size ys.length (.slice ad ys.length cap)).run P w' = .ok cy.toArray w') ∧
   (∀ i y, nth ys i = some y → zP S β H w (key ++ [i]) τ e y (win cy (i * τ.size) τ.size)) ∧
   ((cap = 0 ∧ ys = []) ∨ ∃ b o cs, ad = some ⟨b, o, none⟩ ∧ β key = some b ∧ AA4 (BU8 τ) w b cs ∧ o + cap * τ.size ≤ cs.size ∧ cy = win cs.toList o (ys.length * τ.size)) := by
 simp only [zP, Fl.base] at h
 obtain ⟨_, ad, cap, rfl, hl, h⟩ := h
 rcases h with h | ⟨b, oo, cs, rfl, hk, hB, hz, h⟩
 ·have hy : ys = [] := List.length_eq_zero_iff.1 (by omega)
  subst hy
  refine ⟨ad, cap, [], rfl, hl, by simp, by simp, fun w' _ => ?_, fun i y hi => by simp [nth] at hi, .inl ⟨h, rfl⟩⟩
  cases ad with
  | none => simp [Builtin.firstCells]
  | some b => simp [Builtin.firstCells, dN]
 ·have hle : oo + ys.length * τ.size ≤ cs.size := by
   have : ys.length * τ.size ≤ cap * τ.size := Nat.mul_le_mul_right _ hl
   omega
  have hel : ∀ i y, nth ys i = some y → zP S β H w (key ++ [i]) τ e y (win (win cs.toList oo (ys.length * τ.size)) (i * τ.size) τ.size) := fun i y hi => by
   have hj : i < List.length ys := by unfold nth at hi; exact (List.getElem?_eq_some_iff.1 hi).1
   have hlt : (i + 1) * τ.size ≤ List.length ys * τ.size := Nat.mul_le_mul_right _ hj
   rw [Nat.add_mul, Nat.one_mul] at hlt
   rw [rZ (by omega)]
   exact h i y hi
  have hlen : (win cs.toList oo (ys.length * τ.size)).length = ys.length * τ.size := oZ (by simpa using hle)
  refine ⟨_, cap, win cs.toList oo (ys.length * τ.size), rfl, hl, hlen, (Elems.of (S := A00 S β) (w := w) hlen fun j v hv => fJ hw (hel j v hv)).one, fun w' hw' => ?_, hel, .inr ⟨b, oo, cs, rfl, hk, hB, hz, rfl⟩⟩
  have hc := zM (o := oo) (n := ys.length * τ.size) hB.blk hle
  rw [← AB3 hw'] at hc
  simp only [Builtin.firstCells]
  exact nZ hc
def dG (β : Key → Option Nat) (n m d b : Nat) : Key → Option Nat
 | [] => β []
 | [i] => if i = d then some b else if i = n ∨ i = n + 1 then none else β [i]
 | i :: j :: s => if i = d then (if j < m then β (n :: j :: s) else β ((n + 1) :: (j - m) :: s)) else if i = n ∨ i = n + 1 then none else β (i :: j :: s)
theorem eD {n m d b b' : Nat} {k : Key} (h : dG β n m d b k = some b') :
  (k = [d] ∧ b' = b) ∨ (∃ j s, j < m ∧ k = d :: j :: s ∧ β (n :: j :: s) = some b') ∨ (∃ j s, k = d :: (m + j) :: s ∧ β ((n + 1) :: j :: s) = some b') ∨
   ((∀ s, k ≠ d :: s) ∧ (∀ s, k ≠ n :: s) ∧ (∀ s, k ≠ (n + 1) :: s) ∧ β k = some b') := by
 match k, h with
 | [], hh => exact .inr (.inr (.inr ⟨by simp, by simp, by simp, hh⟩))
 | [i], hh =>
  simp only [dG] at hh
  split at hh
  ·rename_i e; subst e; exact .inl ⟨rfl, (Option.some.inj hh).symm⟩
  ·rename_i h1
   split at hh
   ·cases hh
   ·rename_i h2
    refine .inr (.inr (.inr ⟨?_, ?_, ?_, hh⟩)) <;> (intro s e; simp only [List.cons.injEq] at e; omega)
 | i :: j :: s, hh =>
  simp only [dG] at hh
  split at hh
  ·rename_i e; subst e
   split at hh
   ·rename_i hj; exact .inr (.inl ⟨j, s, hj, rfl, hh⟩)
   ·rename_i hj; exact .inr (.inr (.inl ⟨j - m, s, by rw [show m + (j - m) = j by omega], hh⟩))
  ·rename_i h1
   split at hh
   ·cases hh
   ·rename_i h2
    refine .inr (.inr (.inr ⟨?_, ?_, ?_, hh⟩)) <;> (intro s e; simp only [List.cons.injEq] at e; omega)
theorem Sane.join {n m d b : Nat} (h : Sane w S β) (hsz : w.heap.size ≤ w'.heap.size) (hb : ∀ k, β k = some b → k = [n]) (hS : ¬ S b) (hlt : b < w'.heap.size) (hSS : ∀ b, S b → w'.heap[b]? = w.heap[b]?) : Sane w' S (dG β n m d b) where
 inj k k' b' h1 h2 := by
  rcases eD h1 with ⟨rfl, rfl⟩ | ⟨j, s, hj, rfl, q1⟩ | ⟨j, s, rfl, q1⟩ | ⟨a1, a2, a3, q1⟩ <;>
   rcases eD h2 with ⟨rfl, e2⟩ | ⟨j', s', hj', rfl, q2⟩ | ⟨j', s', rfl, q2⟩ | ⟨c1, c2, c3, q2⟩
  ·rfl
  ·have := hb _ q2; simp at this
  ·have := hb _ q2; simp at this
  ·exact absurd (hb _ q2) (c2 _)
  ·subst e2; have := hb _ q1; simp at this
  ·have := h.inj _ _ _ q1 q2; simp only [List.cons.injEq] at this ⊢; exact ⟨trivial, this.2⟩
  ·have := h.inj _ _ _ q1 q2; simp only [List.cons.injEq] at this; omega
  ·exact absurd (h.inj _ _ _ q2 q1) (c2 _)
  ·subst e2; have := hb _ q1; simp at this
  ·have := h.inj _ _ _ q1 q2; simp only [List.cons.injEq] at this; omega
  ·have := h.inj _ _ _ q1 q2; simp only [List.cons.injEq] at this ⊢; exact ⟨trivial, by omega, this.2.2⟩
  ·exact absurd (h.inj _ _ _ q2 q1) (c3 _)
  ·subst e2; exact absurd (hb _ q1) (a2 _)
  ·exact absurd (h.inj _ _ _ q1 q2) (a2 _)
  ·exact absurd (h.inj _ _ _ q1 q2) (a3 _)
  ·exact h.inj _ _ _ q1 q2
 sep k b' h1 := by
  rcases eD h1 with ⟨rfl, rfl⟩ | ⟨j, s, hj, rfl, q1⟩ | ⟨j, s, rfl, q1⟩ | ⟨a1, a2, a3, q1⟩
  ·exact hS
  ·exact h.sep _ _ q1
  ·exact h.sep _ _ q1
  ·exact h.sep _ _ q1
 live k b' h1 := by
  rcases eD h1 with ⟨rfl, rfl⟩ | ⟨j, s, hj, rfl, q1⟩ | ⟨j, s, rfl, q1⟩ | ⟨a1, a2, a3, q1⟩
  ·exact hlt
  ·exact Nat.lt_of_lt_of_le (h.live _ _ q1) hsz
  ·exact Nat.lt_of_lt_of_le (h.live _ _ q1) hsz
  ·exact Nat.lt_of_lt_of_le (h.live _ _ q1) hsz
 liveS b' hb' := Nat.lt_of_lt_of_le (h.liveS b' hb') hsz
 tab := h.tabs fun b hb => ⟨hb, hSS b hb⟩
theorem Step.join {n m d b : Nat} (hb : (∃ k, β k = some b) ∨ w.heap.size ≤ b) (hsz : w.heap.size ≤ w'.heap.size) (hold : ∀ b', b' < w.heap.size → (∀ k, β k ≠ some b') → w'.heap[b']? = w.heap[b']?) (hout : SameOut w w') : Step w S β w' S (dG β n m d b) where
 size := hsz
 old := hold
 new k b' h1 := by
  rcases eD h1 with ⟨rfl, rfl⟩ | ⟨j, s, hj, rfl, q1⟩ | ⟨j, s, rfl, q1⟩ | ⟨a1, a2, a3, q1⟩
  ·exact hb
  ·exact .inl ⟨_, q1⟩
  ·exact .inl ⟨_, q1⟩
  ·exact .inl ⟨_, q1⟩
 keepS _ h := h
 newS _ h := .inl h
 out := hout
theorem A4b (A B : List Value) (p n : Nat) (h : p + n ≤ A.length) : win (A ++ B) p n = win A p n := by
 unfold win
 rw [List.drop_append_of_le_length (by omega), List.take_append_of_le_length (by simp; omega)]
theorem A9E (A B : List Value) (p n : Nat) : win (A ++ B) (A.length + p) n = win B p n := by
 unfold win; rw [List.drop_append, List.drop_eq_nil_of_le (by omega)]; simp
theorem A55 {k : Key} {τ : Ty} {ad : Option Addr} {e : Fl} : zP S β H w k (.sl τ) (.own e) ([] : List τ.D) [.slice ad 0 0] := by
 simp only [zP, Fl.base]
 exact ⟨by simp [pX, Fl.pins], ad, 0, rfl, by simp, .inl rfl⟩
theorem A8m {t t' ty e0 : TypeId} {τ : Ty} {z : Value} {vy : Value} {xs ys : List τ.D} {cx cy : List Value} {e : Fl} {n d : Nat} (hw : e.whole = true) (hok : SlOK E t e0 τ z) (hs : Sane w S β)
  (hx : zP S β H w [n] (.sl τ) (.own e) xs cx) (hyl : cy.length = ys.length * τ.size) (hy1 : ∀ v ∈ cy, v.oneCell' = true) (hye : ∀ i y, nth ys i = some y → zP S β H w ([n + 1] ++ [i]) τ e y (win cy (i * τ.size) τ.size))
  (ha : A3D E.P w t' τ.size z.cells vy ys.length cy) (hlen : xs.length + ys.length ≤ 1099511627776) :
  ∃ v w' β', (Builtin.append_ #[t, t'] ty #[zX (.sl τ) cx, vy]).run E.P w = .ok v w' ∧ Sane w' S β' ∧ Step w S β w' S β' ∧ (∀ b, S b → w'.heap[b]? = w.heap[b]?) ∧
   (∀ j s b, j ≠ d → j ≠ n → j ≠ n + 1 → β (j :: s) = some b → β' (j :: s) = some b ∧ w'.heap[b]? = w.heap[b]?) ∧ ∃ cr, v = zX (.sl τ) cr ∧ zP S β' H w' [d] (.sl τ) (.own e) (xs ++ ys : List τ.D) cr := by
 obtain ⟨ad, cap, co, rfl, hlc, hcl, hc1, hcf, hce, hblk⟩ := A1P (P := E.P) hw hx
 have hv : zX (.sl τ) [.slice ad xs.length cap] = .slice ad xs.length cap := rfl
 rw [hv]
 by_cases hroom : xs.length + ys.length ≤ cap
 ·rcases hblk with ⟨hb, hxx⟩ | ⟨b, oo, cs, rfl, hk, hob, hz, hco⟩
  ·have hyy : ys = [] := List.length_eq_zero_iff.1 (by omega)
   subst hxx; subst hyy
   have hcy : cy = [] := List.length_eq_zero_iff.1 (by simpa using hyl)
   subst hcy
   have hrun := gM (base := ad) (ty := ty) (w' := w) hok ha hroom (fun a _ => by simp [storeCells]) (fun _ => rfl)
   have hsr := hs.rekey [n] [d]
   refine ⟨_, w, _, hrun, (hs.rekey [n] [d]).rekey [n + 1] [n], ((Step.rekey [n] [d]).trans (Step.rekey [n + 1] [n])), fun _ _ => rfl, fun j s b h1 h2 h3 hb => ⟨?_, rfl⟩, [.slice ad 0 cap], rfl, ?_⟩
   ·rw [wS (yD h2) (yD h3), wS (yD h1) (yD h2)]; exact hb
   ·rw [hb]; exact A55
  ·obtain ⟨el, fz, hbl, hf⟩ := hob
   have hle : oo + xs.length * τ.size + cy.length ≤ cs.size := by
    rw [hyl]
    have : xs.length * τ.size + ys.length * τ.size ≤ cap * τ.size := by rw [← Nat.add_mul]; exact Nat.mul_le_mul_right _ hroom
    omega
   obtain ⟨w', cs', k1, k2, k3, k4, k5, k6⟩ := oL (P := E.P) (vs := cy) (i := 0) (o := oo + xs.length * τ.size) hbl (fun j hj => ⟨by omega, hf.1 _ (by omega)⟩) hy1
   rw [Nat.add_zero] at k3
   have hsz : cs'.size = cs.size := by
    have := congrArg List.length k3
    rw [jO (by simpa using hle)] at this
    simpa using this
   have hSne : ∀ b', S b' → b' ≠ b := fun b' hb' e => hs.sep [n] b hk (e ▸ hb')
   have hown : ∀ k b', β k = some b' → k ≠ [n] → w'.heap[b']? = w.heap[b']? := fun k b' hb' hne => k4 b' (fun e => hne (hs.inj _ _ _ hb' (e ▸ hk)))
   have hrun := gM (base := some ⟨b, oo, none⟩) (ty := ty) (w' := w') hok ha hroom (fun a ha' => by
    simp only [Option.some.injEq] at ha'; subst ha'
    rw [kH]; exact k1) (fun h => by cases h)
   refine ⟨_, w', dG β n xs.length d b, hrun, hs.join (Nat.le_of_eq k5.symm) (fun k hb => hs.inj _ _ _ hb hk) (hs.sep _ _ hk) (by rw [k5]; exact hs.live _ _ hk) (fun b' hb' => k4 b' (hSne b' hb')), Step.join (.inl ⟨_, hk⟩) (Nat.le_of_eq k5.symm) (fun b' _ hb' => k4 b' (fun e => hb' [n] (e ▸ hk))) k6,
    fun b' hb' => k4 b' (hSne b' hb'), fun j s b' h1 h2 h3 hb => ⟨?_, hown _ _ hb (by simp [h2])⟩, [.slice (some ⟨b, oo, none⟩) (xs.length + ys.length) cap], rfl, ?_⟩
   ·cases s with
    | nil => simp only [dG]; rw [if_neg h1, if_neg (by omega)]; exact hb
    | cons j' s => simp only [dG]; rw [if_neg h1, if_neg (by omega)]; exact hb
   ·simp only [zP, Fl.base]
    refine ⟨by simp [pX, Fl.pins], _, cap, by rw [List.length_append], by rw [List.length_append]; exact hroom, .inr ⟨b, oo, cs', rfl, by simp [dG], ⟨el, fz, k2, by rw [hsz]; exact hf⟩, by rw [hsz]; exact hz, fun i y hi => ?_⟩⟩
    rw [k3]
    rcases cP hi with ⟨hlt', hi⟩ | ⟨hge, hi⟩
    ·have hlt2 : (i + 1) * τ.size ≤ xs.length * τ.size := Nat.mul_le_mul_right _ hlt'
     rw [Nat.add_mul, Nat.one_mul] at hlt2
     rw [vW (by simpa using hle) (.inl (by omega)), ← rZ (o := oo) (n := xs.length * τ.size) (by omega), ← hco]
     refine zL (fun b' hb' => ⟨hb', k4 b' (hSne b' hb')⟩) (fun s b' hb' => ⟨?_, hown _ _ hb' (by simp)⟩) (hce i y hi)
     show dG β n xs.length d b (d :: i :: s) = some b'
     simp only [dG, if_true, if_pos hlt']; exact hb'
    ·have hj : i - xs.length < ys.length := by unfold nth at hi; exact (List.getElem?_eq_some_iff.1 hi).1
     have hlt2 : (i - xs.length + 1) * τ.size ≤ ys.length * τ.size := Nat.mul_le_mul_right _ hj
     rw [Nat.add_mul, Nat.one_mul] at hlt2
     have e2 : oo + i * τ.size = oo + xs.length * τ.size + (i - xs.length) * τ.size := by
      have : i * τ.size = xs.length * τ.size + (i - xs.length) * τ.size := by rw [← Nat.add_mul]; congr 1; omega
      omega
     have e3 : win (iO cs.toList (oo + xs.length * τ.size) cy) (oo + i * τ.size) τ.size = win cy ((i - xs.length) * τ.size) τ.size := by
      rw [e2, ← rZ (n := cy.length) (by rw [hyl]; omega), kN (by simpa using hle)]
     rw [e3]
     refine zL (fun b' hb' => ⟨hb', k4 b' (hSne b' hb')⟩) (fun s b' hb' => ⟨?_, hown _ _ hb' (by simp)⟩) (hye _ y hi)
     show dG β n xs.length d b (d :: i :: s) = some b'
     simp only [dG, if_true, if_neg (Nat.not_lt.2 hge)]; exact hb'
 ·obtain ⟨nc, w', hnc, hrun, hheap⟩ := AI7 (ty := ty) hok ha hroom hlen hcf
  have hl : ∀ k b', β k = some b' → w'.heap[b']? = w.heap[b']? := fun k b' hb' => tR hheap (hs.live _ _ hb')
  have hS : ∀ b', S b' → S b' ∧ w'.heap[b']? = w.heap[b']? := fun b' hb' => ⟨hb', tR hheap (hs.liveS _ hb')⟩
  have hsz := Ad4 hheap
  refine ⟨_, w', dG β n xs.length d w.heap.size, hrun, hs.join (by omega) (fun k hb => absurd (hs.live _ _ hb) (Nat.lt_irrefl _)) (fun hb => absurd (hs.liveS _ hb) (Nat.lt_irrefl _)) (by omega) (fun b' hb' => (hS b' hb').2), Step.join (.inr (Nat.le_refl _)) (by omega) (fun b' hb' _ => tR hheap hb') hheap.out,
   fun b' hb' => (hS b' hb').2, fun j s b' h1 h2 h3 hb => ⟨?_, hl _ _ hb⟩, [.slice (some ⟨w.heap.size, 0, none⟩) (xs.length + ys.length) nc], rfl, ?_⟩
  ·cases s with
   | nil => simp only [dG]; rw [if_neg h1, if_neg (by omega)]; exact hb
   | cons j' s => simp only [dG]; rw [if_neg h1, if_neg (by omega)]; exact hb
  ·simp only [zP, Fl.base]
   refine ⟨by simp [pX, Fl.pins], _, nc, by rw [List.length_append], by rw [List.length_append]; exact hnc, .inr ⟨w.heap.size, 0, _, rfl, by simp [dG], AA4.new hheap (.inl rfl), ?_, fun i y hi => ?_⟩⟩
   ·simp only [Array.size_append, List.size_toArray, gW, hcl, hyl]
    have : nc * τ.size = xs.length * τ.size + ys.length * τ.size + (nc - (xs.length + ys.length)) * τ.size := by
     rw [← Nat.add_mul, ← Nat.add_mul]; congr 1; omega
    omega
   ·rw [Nat.zero_add]
    simp only [Array.toList_append]
    rcases cP hi with ⟨hlt', hi⟩ | ⟨hge, hi⟩
    ·have hlt2 : (i + 1) * τ.size ≤ xs.length * τ.size := Nat.mul_le_mul_right _ hlt'
     rw [Nat.add_mul, Nat.one_mul] at hlt2
     rw [A4b _ _ _ _ (by omega)]
     refine zL hS (fun s b' hb' => ⟨?_, hl _ _ hb'⟩) (hce i y hi)
     show dG β n xs.length d w.heap.size (d :: i :: s) = some b'
     simp only [dG, if_true, if_pos hlt']; exact hb'
    ·have hj : i - xs.length < ys.length := by unfold nth at hi; exact (List.getElem?_eq_some_iff.1 hi).1
     have hlt2 : (i - xs.length + 1) * τ.size ≤ ys.length * τ.size := Nat.mul_le_mul_right _ hj
     rw [Nat.add_mul, Nat.one_mul] at hlt2
     have e2 : i * τ.size = co.length + (i - xs.length) * τ.size := by
      rw [hcl, ← Nat.add_mul]; congr 1; omega
     rw [e2, A9E, A4b _ _ _ _ (by rw [hyl]; omega)]
     refine zL hS (fun s b' hb' => ⟨?_, hl _ _ hb'⟩) (hye _ y hi)
     show dG β n xs.length d w.heap.size (d :: i :: s) = some b'
     simp only [dG, if_true, if_neg (Nat.not_lt.2 hge)]; exact hb'
end
end Go.Rf

end
section
namespace Go.Rf
set_option linter.unusedSectionVars false
variable [T : Laid]
section
variable {P : Program} {H : Nat → Option (List Value)} {N : Nat} {g g' σ : zY} {V V' : Nat → Option Value} {w w' : World} {S S' : Nat → Prop} {β β' : Key → Option Nat} {a : Act} {o : Oper}
variable {E : Env} {gv : zY} {us : List Up}
theorem BD3 {d r c s u : Nat} {p : List PS} {v : SV} {val : Value} {e : Dat} (h0 : r < N) (h1 : c ≤ (g r).c) (h2 : s ≤ (g r).s) (h3 : u ≤ (g r).u) (h : r ≠ d → A6L H (g.up (.put d v)) w S β d r p e (some val)) :
  qE H N (g.up (.put d v)) (upd V d val) w S β d (.pend r p c s u e) := by
 refine ⟨h0, ?_⟩
 by_cases hr : r = d
 ·subst hr
  refine ⟨by rw [vR]; simp; omega, by rw [vR]; simp; omega, by rw [vR]; simp; omega, fun ok => ?_⟩
  have := (AT4.1 ok).2
  rw [vR] at this; simp at this; omega
 ·refine ⟨by rw [rP hr]; exact h1, by rw [rP hr]; exact h2, by rw [rP hr]; exact h3, fun _ => ?_⟩
  have : (upd V d val) d = some val := by simp [upd]
  rw [this]; exact h hr
theorem qP {c : Call} {x y : Operand} {t t' : TypeId} {val : Value} (ho : o.op = .call c) (hcal : c.callee = .builtin .append) (hargs : c.args = #[x, y]) (hts : c.argTypes = #[t, t'])
  (hr : (Builtin.append_ #[t, t'] o.type #[a.eval x, a.eval y]).run P w = .ok val w') : (execOp a.eval o).run P w = .ok (.value val) w' :=
 gH ho hcal (s := Builtin.append_ #[t, t'] o.type #[a.eval x, a.eval y]) (by rw [hargs, hts, show Array.map a.eval #[x, y] = #[a.eval x, a.eval y] by simp]; rfl) hr
theorem Ar4 {d : Nat} {t : Ty} {x : t.D} {f : Fl} {val : Value} {ob : Obj} {c : List Value} (h : Rel H N g V w S β) (hD : yH N g) (hd : d < N) (hw : Pushed w w' ob) (hv : zP S (AT5 β [d] w.heap.size) H w' [d] t f x c) (hval : val = zX t c) :
  Rel H N (g.up (.put d (.dat ⟨t, x, f⟩))) (upd V d val) w' S (AT5 β [d] w.heap.size) :=
 h.finish (fun _ _ => rfl) hD (fun _ _ => rfl) hd (h.sane.new hw [d]) (fun b hb => ⟨hb, tR hw (h.sane.liveS b hb)⟩)
  (fun j s b hj _ hb => ⟨by unfold AT5; rw [if_neg (by simp [hj])]; exact hb, tR hw (h.sane.live _ b hb)⟩) ⟨c, hv, by simp [upd, hval]⟩
theorem AP6 {k : Key} {τ : Ty} {ad : Option Addr} {e : Fl} {xs : List τ.D} (h : xs = []) : zP S β H w k (.sl τ) (.own e) xs [.slice ad xs.length 0] := by
 subst h
 simp only [zP, Fl.base]
 exact ⟨by simp [pX, Fl.pins], ad, 0, rfl, by simp, .inl rfl⟩
theorem A0D {t t' e0 : TypeId} {x y : Operand} {c : Call} {τ : Ty} {z : Value} {xs ys : List τ.D} {e : Fl} {us1 : List Up} (hc : Ctx E.P H S β a w o g) (hs : Sub gv g) (ho : o.op = .call c) (hcal : c.callee = .builtin .append) (hargs : c.args = #[x, y]) (hts : c.argTypes = #[t, t'])
  (hok : SlOK E t e0 τ z) (hq : Ay8 gv τ (E.ty t') x y = some ((xs, ys), e, us1)) (hlen : xs.length + ys.length ≤ 1099511627776)
  (hk : qK o us1 (.dat ⟨.sl τ, (xs ++ ys : List τ.D), .own e⟩) some = some us) : yJ E.P H S β a w o (g.ups us) := by
 unfold Ay8 at hq
 split at hq
 ·rename_i τ' ht
  obtain ⟨e', he', _⟩ := AS1 ht
  split at hq
  ·rename_i i1 τ1 xs1 e1 i2 τ2 ys1 e2 us2 htp
   split at hq
   ·rename_i hcond
    simp only [Bool.and_eq_true, decide_eq_true_eq] at hcond
    obtain ⟨hee, _⟩ := hcond
    subst hee
    obtain ⟨xs2, hx2, hq⟩ := Option.bind_eq_some_iff.1 hq
    obtain ⟨ys2, hy2, hq⟩ := Option.map_eq_some_iff.1 hq
    simp only [Prod.mk.injEq] at hq
    obtain ⟨⟨rfl, rfl⟩, rfl, rfl⟩ := hq
    obtain ⟨hex, hx2⟩ := vP hx2
    cases hex
    have hx2 : xs = xs1 := hx2
    subst hx2
    obtain ⟨hey, hy2⟩ := vP hy2
    cases hey
    have hy2 : ys = ys1 := hy2
    subst hy2
    obtain ⟨dd, hdst, rfl⟩ := yK hk
    have hd := xO hc.opIn hdst
    obtain ⟨S1, β1, g1, V1, cs, k1, k2, k3, k4, k5, k6⟩ := bD (ps := #[(0, x), (1, y)]) hc hs htp (by
     intro q hq
     rw [ho]
     simp only [List.mem_cons, List.not_mem_nil, or_false] at hq
     rcases hq with rfl | rfl <;> simp [Op.operands, Call.operands, hargs])
    obtain ⟨k31, k32⟩ := k3
    match cs, k31 with
    | [cx, cy], _ =>
     obtain ⟨m1, m2, m3, m4⟩ := k32 0 _ cx rfl rfl
     obtain ⟨n1, n2, n3, n4⟩ := k32 1 _ cy rfl rfl
     rw [Nat.add_zero] at m1 m2
     obtain ⟨cx', hvx, hVx⟩ := k1.dat m1
     obtain ⟨cy', hvy, hVy⟩ := k1.dat n1
     have ex : cx' = cx := uR (Option.some.inj (hVx.symm.trans m2)) (zS hvx) m3
     have ey : cy' = cy := uR (Option.some.inj (hVy.symm.trans n2)) (zS hvy) n3
     subst ex; subst ey
     simp only [dB, List.zip_cons_cons, List.zip_nil_right, List.map_cons, List.map_nil, Array.toList_map, List.cons.injEq, Prod.mk.injEq, and_true] at k6
     obtain ⟨⟨_, exv⟩, _, eyv⟩ := k6
     have hwh : e1.whole = true := m4
     obtain ⟨ady, capy, cyy, q1, q2, q3, q4, q5, q6, _⟩ := A1P (P := E.P) hwh hvy
     subst q1
     have hadd : A3D E.P w t' τ.size z.cells (zX (.sl τ) [.slice ady ys.length capy]) ys.length cyy := .inl ⟨_, he', by simp, fun w' => by simp [zX, Ty.agg, Builtin.lenOf], fun w' hw' => q5 w' hw'⟩
     obtain ⟨v, w', β', r1, r2, r3, r4, r5, cr, r6, r7⟩ := A8m (ty := o.type) (d := dd) hwh hok k1.sane hvx q3 q4 q6 hadd hlen
     intro K Q hK
     refine tD (qP ho hcal hargs hts (by rw [exv, eyv]; exact r1)) (hK _ _ S1 β' wW yS ?_ (k2.trans r3))
     rw [hdst, vS hd, yW]
     refine k4.finish (fun _ _ => rfl) k5 (fun _ _ => rfl) hd r2 (fun b hb => ⟨hb, r4 b hb⟩) (fun j s b hj ha hb => ?_) ⟨cr, r7, by simp [upd, r6]⟩
     have := k5.lt ha
     exact r5 j s b hj (by omega) (by omega) hb
    | [], h | [_], h => simp at h
    | _ :: _ :: _ :: _, h => simp at h
   ·cases hq
  ·cases hq
 ·cases hq
theorem A0O {t t' : TypeId} {x y : Operand} {c : Call} (hc : Ctx E.P H S β a w o g) (hs : Sub gv g) (ho : o.op = .call c) (hcal : c.callee = .builtin .append) (hargs : c.args = #[x, y]) (hts : c.argTypes = #[t, t'])
  (hk : AS3 gv o (E.sl t) (E.ty t') x y some = some us) : yJ E.P H S β a w o (g.ups us) := by
 unfold AS3 at hk
 split at hk
 ·rename_i τ ht
  obtain ⟨τ2, e, z, heq, hok⟩ := A4l ht
  simp only [Ty.sl.injEq] at heq
  subst heq
  split at hk
  ·rename_i xs ys e0 us1 hq
   simp only [Bool.cond_eq_ite] at hk
   split at hk
   ·rename_i hlen
    exact A0D hc hs ho hcal hargs hts hok hq (AR6 hlen) hk
   ·cases hk
  simp only [Bool.cond_eq_ite] at hk
  split at hk
  case isFalse => cases hk
  rename_i hcondA
  split at hk
  case isFalse => cases hk
  rename_i hcondD
  split at hk
  ·rename_i ys us1 hadds
   have hadds := A7J hcondA hcondD hadds
   split at hk
   ·rename_i xs vs q hfirst
    try simp only [Bool.cond_eq_ite] at hk
    split at hk
    ·rename_i hlen
     have hlen := AR6 hlen
     obtain ⟨S1, β1, cy, vy, hrel, hst, hsub, halive, hel, hvy, hadd⟩ := A1M hc.rel hs hok.cells hok.size hadds
     have hD0 : yH a.tmps.size (g.ups us1) := hc.dead.ups fun u hu => hc.dead.lt (halive u hu)
     have eyv := zJ hvy
     unfold A5C at hfirst
     split at hfirst
     ·
      rename_i hx
      simp only [Option.some.injEq, Prod.mk.injEq] at hfirst
      obtain ⟨rfl, rfl, rfl⟩ := hfirst
      simp only [List.append_nil, List.nil_append] at hk
      obtain ⟨dd, hdst, rfl⟩ := yK hk
      have hd := xO hc.opIn hdst
      have hxv : a.eval x = .slice none 0 0 := by
       rcases dU (hsub.sv hx (by simp)) with ⟨s, rfl, h'⟩ | rfl
       ·have := hrel.slots s
        rw [h'] at this; exact this.elim
       ·rfl
      have hcore := AM6 (ty := o.type) (ad := none) (xs := ([] : List τ.D)) (key := [dd]) (β := β1) (H := H) hok (AP6 rfl) hel hadd (by simpa using hlen) (fun b hb => hrel.sane.sep _ _ hb) hrel.sane.liveS
      intro K Q hK
      rcases hcore with ⟨w', hrun, hres⟩ | ⟨w', nc, ob, hrun, hheap, hres⟩
      ·rcases hres with ⟨rfl, _, _, hyy⟩ | ⟨b₀, oo, hnone, _⟩
       ·subst hyy
        refine tD (qP ho hcal hargs hts (by rw [hxv, eyv]; exact hrun)) (hK _ _ S1 β1 wW yS ?_ hst)
        rw [hdst, vS hd, yW]
        exact hrel.finish (fun _ _ => rfl) hD0 (fun _ _ => rfl) hd hrel.sane (fun b hb => ⟨hb, rfl⟩) (fun _ _ _ _ _ hb => ⟨hb, rfl⟩) ⟨[.slice none 0 0], AP6 (ad := none) (xs := ([] : List τ.D)) rfl, by simp [upd, zX, Ty.agg]⟩
       ·cases hnone
      ·refine tD (qP ho hcal hargs hts (by rw [hxv, eyv]; exact hrun)) (hK _ _ S1 _ wW yS ?_ (hst.trans (Step.newB hheap [dd])))
       rw [hdst, vS hd, yW]
       exact Ar4 hrel hD0 hd hheap (hres [dd] _ (by simp [AT5])) rfl
     ·
      rename_i r p c0 s0 u0 d0 hx
      split at hfirst
      ·rename_i τ' xs0 vs0 htk
       obtain ⟨xs1, hcast, hpair⟩ := Option.map_eq_some_iff.1 hfirst
       simp only [Prod.mk.injEq] at hpair
       obtain ⟨rfl, rfl, rfl⟩ := hpair
       obtain ⟨het, hex⟩ := vP hcast
       cases het
       have hex : xs1 = xs0 := hex
       subst hex
       simp only at hk
       obtain ⟨dd, hdst, rfl⟩ := yK hk
       have hd := xO hc.opIn hdst
       rw [← hx] at htk
       obtain ⟨htk', _⟩ := dP hsub htk
       have hal2 := fB htk'
       have hD1 : yH a.tmps.size ((g.ups us1).ups vs0) := hD0.ups fun u hu => hD0.lt (hal2 u hu)
       obtain ⟨S2, β2, cc, k1, k2, k3, k4⟩ := gZ hrel htk' (n := a.tmps.size) (hD0 _ (Nat.le_refl _)) (Nat.le_refl _)
       obtain ⟨cx, hvr, hVn⟩ := k1.dat gL
       have hcc : cx = cc := by
        simp only [upd, if_true] at hVn
        exact (uR (Option.some.inj hVn) k4 (zS hvr)).symm
       subst hcc
       have hfin : Rel H a.tmps.size ((g.ups us1).ups vs0) (qR a) w S2 β2 := k1.fin (fun i hi => (gB (by omega)).symm) hD1 (fun i hi => by simp only [upd]; rw [if_neg (by omega)])
       have hvr0 := hvr
       simp only [zP, Fl.base] at hvr0
       obtain ⟨_, ad, cap, rfl, _, _⟩ := hvr0
       have exv : a.eval x = .slice ad (List.length xs1) cap := zJ k3
       have hcore := AM6 (ty := o.type) (xs := xs1) (key := [a.tmps.size]) (β := β2) (H := H) hok hvr (hel.len |> fun _ => (⟨hel.len, hel.one, fun j v h => zQ (fun b hb => ⟨k2.keepS b hb, rfl⟩) (hel.get j v h)⟩ : Elems S2 w τ ys cy)) hadd hlen (fun b hb => k1.sane.sep _ _ hb) k1.sane.liveS
       intro K Q hK
       rcases hcore with ⟨w', hrun, hres⟩ | ⟨w', nc, ob, hrun, hheap, hres⟩
       ·rcases hres with ⟨rfl, hcap, hxx, hyy⟩ | ⟨b₀, oo, had, hb0, hchg, hsz, hnew⟩
        ·refine tD (qP ho hcal hargs hts (by rw [exv, eyv]; exact hrun)) (hK _ _ S2 β2 wW yS ?_ (hst.trans k2))
         rw [hdst, vS hd, yW, yW]
         refine hfin.finish (fun _ _ => rfl) hD1 (fun _ _ => rfl) hd hfin.sane (fun b hb => ⟨hb, rfl⟩) (fun _ _ _ _ _ hb => ⟨hb, rfl⟩) ⟨[.slice ad (List.length xs1 + ys.length) cap], ?_, by simp [upd, zX, Ty.agg]⟩
         have hn : xs1 ++ ys = [] := by rw [hxx, hyy]; rfl
         have := AP6 (S := S2) (β := β2) (H := H) (w := w') (k := [dd]) (ad := ad) (e := .sh) hn
         rw [List.length_append] at this
         rw [hcap]; exact this
        ·refine tD (qP ho hcal hargs hts (by rw [exv, eyv]; exact hrun)) (hK _ _ S2 (rekey β2 [a.tmps.size] [dd]) wW yS ?_ (((hst.trans k2).trans (Step.store hb0 hchg hsz)).trans ((Step.rekey [a.tmps.size] [dd]).at hsz |> fun h => ⟨h.size, h.old, h.new, h.keepS, h.newS, h.out⟩)))
         rw [hdst, vS hd, yW, yW]
         have hne : ∀ b, S2 b → b ≠ b₀ := fun b hb e => k1.sane.sep _ _ hb0 (e ▸ hb)
         have hsr := k1.sane.rekey [a.tmps.size] [dd]
         refine hfin.finish (fun _ _ => rfl) hD1 (fun _ _ => rfl) hd ⟨hsr.inj, hsr.sep, fun k b hk => by rw [hsz]; exact hsr.live k b hk, fun b hk => by rw [hsz]; exact hsr.liveS b hk, hsr.tabs fun b hb => ⟨hb, hchg.other b (hne b hb)⟩⟩ (fun b hb => ⟨hb, hchg.other b (hne b hb)⟩)
          (fun j s b hj ha hb => ⟨?_, hchg.other b (fun e => ?_)⟩) ⟨_, pG hnew, by simp [upd, zX, Ty.agg]⟩
         ·have := hD1.lt ha
          rw [wS (yD hj) (yD (by omega))]; exact hb
         ·subst e
          have := k1.sane.inj _ _ _ hb hb0
          have hjN := hD1.lt ha
          simp only [List.cons.injEq] at this
          omega
       ·refine tD (qP ho hcal hargs hts (by rw [exv, eyv]; exact hrun)) (hK _ _ S2 _ wW yS ?_ ((hst.trans k2).trans (Step.newB hheap [dd])))
        rw [hdst, vS hd, yW, yW]
        exact Ar4 hfin hD1 hd hheap (hres [dd] _ (by simp [AT5])) rfl
      ·cases hfirst
     ·
      split at hfirst
      ·rename_i q0 hq
       split at hfirst
       ·rename_i τ' xs0 hat
        obtain ⟨xs1, hcast, hpair⟩ := Option.map_eq_some_iff.1 hfirst
        simp only [Prod.mk.injEq] at hpair
        obtain ⟨rfl, rfl, rfl⟩ := hpair
        obtain ⟨het, hex⟩ := vP hcast
        cases het
        have hex : xs1 = xs0 := hex
        subst hex
        simp only at hk
        obtain ⟨dd, hdst, rfl⟩ := yK hk
        have hd := xO hc.opIn hdst
        obtain ⟨hq', hat', hr⟩ := AC5 hsub hq hat
        obtain ⟨e0, cr, L, cc, he0, hg0, hb0, hV0, hl0, hvr, hw0, hcc0, hvp, hxv⟩ := aL hrel hq' hat' (by simp [Fl.base])
        have hvp0 := hvp
        simp only [zP, Fl.base] at hvp0
        obtain ⟨_, ad, cap, rfl, hlc, hvp1⟩ := hvp0
        have exv : a.eval x = .slice ad (List.length xs1) cap := zJ hxv
        have hgv : (gv.ups us1) q0.1 = (g.ups us1) q0.1 := hr.symm
        have hq0N := hD0.root he0
        have hcore := AM6 (ty := o.type) (xs := xs1) (key := q0.1 :: xK q0.2) (β := β1) (H := H) hok hvp hel hadd hlen (fun b hb => hrel.sane.sep _ _ hb) hrel.sane.liveS
        have hups : (g.ups (us1 ++ [Up.pub q0.1 ((gv.ups us1) q0.1).sv] ++ [Up.put dd (.pend q0.1 q0.2 ((gv.ups us1) q0.1).c ((gv.ups us1) q0.1).s (((gv.ups us1) q0.1).u + 1) ⟨.sl τ, (xs1 ++ ys : List τ.D), .own .sh⟩)])) =
          ((g.ups us1).up (.pub q0.1 (.dat e0))).up (.put dd (.pend q0.1 q0.2 ((g.ups us1) q0.1).c ((g.ups us1) q0.1).s (((g.ups us1) q0.1).u + 1) ⟨.sl τ, (xs1 ++ ys : List τ.D), .own .sh⟩)) := by
         rw [yW, yW, hgv, he0]; rfl
        rw [hups]
        have g1q : ((g.ups us1).up (.pub q0.1 (.dat e0))) q0.1 = ⟨.dat e0, ((g.ups us1) q0.1).c, ((g.ups us1) q0.1).s, ((g.ups us1) q0.1).u + 1⟩ := oH (u := .pub q0.1 (.dat e0))
        have hD1 : yH a.tmps.size ((g.ups us1).up (.pub q0.1 (.dat e0))) := hD0.up hq0N
        have fin : ∀ {w' : World} {S2 : Nat → Prop} {β2 : Key → Option Nat} {val : Value} {cx : List Value}, Rel H a.tmps.size ((g.ups us1).up (.pub q0.1 (.dat e0))) (qR a) w' S2 β2 → ∀ {w2 : World} {β3 : Key → Option Nat}, Sane w2 S2 β3 → (∀ b, S2 b → w2.heap[b]? = w'.heap[b]?) →
          (∀ j s b, j ≠ dd → β2 (j :: s) = some b → β3 (j :: s) = some b ∧ w2.heap[b]? = w'.heap[b]?) → val = zX (.sl τ) cx →
          (q0.1 ≠ dd → ∃ β4, (β4 = β3 ∨ ∃ b, β3 [dd] = some b ∧ β4 = repl β3 (q0.1 :: xK q0.2) dd b) ∧ zP S2 β4 H w2 (q0.1 :: xK q0.2) (.sl τ) (.own .sh) (xs1 ++ ys : List τ.D) cx) →
          Rel H a.tmps.size (((g.ups us1).up (.pub q0.1 (.dat e0))).up (.put dd (.pend q0.1 q0.2 ((g.ups us1) q0.1).c ((g.ups us1) q0.1).s (((g.ups us1) q0.1).u + 1) ⟨.sl τ, (xs1 ++ ys : List τ.D), .own .sh⟩))) (upd (qR a) dd val) w2 S2 β3 := by
         intro w' S2 β2 val cx hR w2 β3 hs2 hS2 hβ2 hval hex
         refine hR.finish (fun _ _ => rfl) hD1 (fun _ _ => rfl) hd hs2 (fun b hb => ⟨hb, hS2 b hb⟩) (fun j s b hj _ hb => hβ2 j s b hj hb) ?_
         refine BD3 hq0N (by rw [g1q]; exact Nat.le_refl _) (by rw [g1q]; exact Nat.le_refl _) (by rw [g1q]; exact Nat.le_refl _) fun hne dr hdr => ?_
         rw [rP hne, g1q] at hdr
         simp only [SV.dat.injEq] at hdr
         subst hdr
         obtain ⟨β4, h1, h2⟩ := hex hne
         exact ⟨⟨_, hg0, by simp [Fl.base], hb0⟩, β4, cx, h1, h2, by rw [hval]⟩
        intro K Q hK
        rcases hcore with ⟨w', hrun, hres⟩ | ⟨w', nc, ob, hrun, hheap, hres⟩
        ·rcases hres with ⟨rfl, hcap, hxx, hyy⟩ | ⟨b₀, oo, had, hkb, hchg, hsz, hnew⟩
         ·refine tD (qP ho hcal hargs hts (by rw [exv, eyv]; exact hrun)) (hK _ _ S1 β1 wW yS ?_ hst)
          rw [hdst, vS hd]
          refine fin (cx := [.slice ad (List.length xs1 + ys.length) cap]) (hrel.touch he0) hrel.sane (fun _ _ => rfl) (fun j s b _ hb => ⟨hb, rfl⟩) rfl (fun _ => ⟨β1, .inl rfl, ?_⟩)
          have hn : xs1 ++ ys = [] := by rw [hxx, hyy]; rfl
          have := AP6 (S := S1) (β := β1) (H := H) (w := w') (k := q0.1 :: xK q0.2) (ad := ad) (e := .sh) hn
          rw [List.length_append] at this
          rw [hcap]; exact this
         ·subst had
          have hbeh : Behind S1 β1 w w' ([q0.1] ++ xK q0.2) b₀ (oo + List.length xs1 * τ.size) cy := ⟨hchg, fun key hkey => hrel.sane.inj _ _ _ hkey hkb, fun hS => hrel.sane.sep _ _ hkb hS⟩
          have hcells : zF w e0.t.size (.reg cr) = some cr := by simp [zF, hl0]
          have hcells' : zF w' e0.t.size (.reg cr) = some cr := by simp [zF, hl0]
          have hne : ∀ b, S1 b → b ≠ b₀ := fun b hb e => hrel.sane.sep _ _ hkb (e ▸ hb)
          have hsane' : Sane w' S1 β1 := ⟨hrel.sane.inj, hrel.sane.sep, fun k b hk => by rw [hsz]; exact hrel.sane.live k b hk, fun b hk => by rw [hsz]; exact hrel.sane.liveS b hk, hrel.sane.tabs fun b hb => ⟨hb, hchg.other b (hne b hb)⟩⟩
          have hpub : Rel H a.tmps.size ((g.ups us1).up (.pub q0.1 (.dat ⟨e0.t, e0.x, e0.f⟩))) (qR a) w' S1 β1 := by
           refine hrel.pub he0 hsane' (fun b hb => ⟨hb, hchg.other b (hne b hb)⟩) (fun j s b hj _ hb => ⟨hb, hchg.other b (fun e => ?_)⟩) (fun p d L2 cr2 c2 h1 h2 h3 h4 h5 h6 h7 => ?_) ⟨cr, ?_, hV0⟩
           ·subst e
            have := hrel.sane.inj _ _ _ hb hkb
            simp only [List.cons.injEq] at this
            exact hj this.1
           ·have hcr : cr2 = cr := uR (Option.some.inj (h4.symm.trans hV0)) (zS h5) hl0
            subst hcr
            obtain ⟨Lq, cq, k1, k2, k3, k4⟩ := AF4 (w' := w') (k := [q0.1]) h1 h2 h3 hg0 rfl hb0 hcells hcells' hvr hw0 (by simpa [Ty.size] using hcc0) (Nat.le_refl _) hbeh
            rw [h6] at k1
            simp only [Option.some.injEq, Prod.mk.injEq, true_and] at k1
            subst k1
            rw [h7] at k3
            cases k3
            exact ⟨⟨d.f, h1, h2⟩, k2, k4⟩
           ·exact AF8 hg0 rfl hb0 hcells hvr hw0 (by simpa [Ty.size] using hcc0) (Nat.le_refl _) hbeh
          refine tD (qP ho hcal hargs hts (by rw [exv, eyv]; exact hrun)) (hK _ _ S1 β1 wW yS ?_ (hst.trans (Step.store hkb hchg hsz)))
          rw [hdst, vS hd]
          exact fin hpub hsane' (fun _ _ => rfl) (fun j s b _ hb => ⟨hb, rfl⟩) rfl (fun _ => ⟨β1, .inl rfl, hnew⟩)
        ·refine tD (qP ho hcal hargs hts (by rw [exv, eyv]; exact hrun)) (hK _ _ S1 _ wW yS ?_ (hst.trans (Step.newB hheap [dd])))
         rw [hdst, vS hd]
         refine fin (hrel.touch he0) (hrel.sane.new hheap [dd]) (fun b hb => tR hheap (hrel.sane.liveS b hb)) (fun j s b hj hb => ⟨by unfold AT5; rw [if_neg (by simp [hj])]; exact hb, tR hheap (hrel.sane.live _ b hb)⟩) rfl
          (fun _ => ⟨repl (AT5 β1 [dd] w.heap.size) (q0.1 :: xK q0.2) dd w.heap.size, .inr ⟨w.heap.size, by simp [AT5], rfl⟩, hres _ _ (by simp [repl])⟩)
       ·cases hfirst
      ·cases hfirst
    ·cases hk
   ·cases hk
  ·cases hk
 ·cases hk
end
end Go.Rf

end
section
namespace Go.Rf
set_option linter.unusedSectionVars false
variable [T : Laid]
section
variable {P : Program} {H : Nat → Option (List Value)} {N : Nat} {g g' σ : zY} {V V' : Nat → Option Value} {w w' : World} {S S' : Nat → Prop} {β β' : Key → Option Nat} {a : Act} {o : Oper}
variable {E : Env} {gv : zY} {us : List Up}
theorem AI2 (hs : Sub gv g) : ∀ {xs : List Operand} {rs : List (Nat × Nat)}, bK gv xs = some rs → xs = rs.map (fun x => .tmp x.1) ∧ ∀ x ∈ rs, (g x.1).s = x.2 ∧ (g x.1).sv ≠ .dead
 | [], rs, h => by
  simp only [bK, Option.some.injEq] at h; subst h; exact ⟨rfl, by simp⟩
 | x :: xs, rs, h => by
  cases x with
  | tmp s =>
   simp only [bK] at h
   split at h
   ·rename_i t y f hy
    simp only [Option.map_eq_some_iff] at h
    obtain ⟨rs', h', rfl⟩ := h
    obtain ⟨h1, h2⟩ := AI2 hs h'
    have hg := hs.get hy (by simp)
    refine ⟨by simp [h1], fun x hx => ?_⟩
    rcases List.mem_cons.1 hx with rfl | hx
    ·exact ⟨by simp only [hg], by simp only [hg, hy]; simp⟩
    ·exact h2 x hx
   ·cases h
  | _ => simp [bK] at h
theorem Ai6 {h : FuncId} {caps : Array Operand} {rs : List (Nat × Nat)} (hc : Ctx P H S β a w o g) (hs : Sub gv g) (hm : o.op = .makeFunc (.func h) #[] caps) (hr : bK gv caps.toList = some rs)
  (hk : qK o [] (.clo h rs) some = some us) : yJ P H S β a w o (g.ups us) := by
 obtain ⟨d, ho, rfl⟩ := yK hk
 obtain ⟨h1, h2⟩ := AI2 hs hr
 refine AV8 (val := .func (.func h) #[] (caps.map a.eval)) hc.rel hc.dead ho (xO hc.opIn ho) (by simp [execOp, hm, Instr.makeFunc]) ?_
 refine A3g (fun x hx => ⟨hc.dead.lt (h2 x hx).2, by rw [(h2 x hx).1]; exact Nat.le_refl _⟩) fun _ vs hvs => ?_
 congr 2
 apply Array.toList_inj.1
 rw [Array.toList_map, h1, List.map_map]
 have : (rs.map fun x => qR a x.1) = rs.map fun x => some (a.eval (.tmp x.1)) := List.map_congr_left fun x hx => mH (hc.dead.lt (h2 x hx).2)
 rw [this] at hvs
 have h3 : (rs.map fun x => a.eval (.tmp x.1)).map some = vs.map some := by rw [← hvs, List.map_map]; rfl
 have h4 := (List.map_inj_right (fun _ _ => Option.some.inj)).1 h3
 simpa [Function.comp_def] using h4
end
end Go.Rf

end
section
namespace Go.Rf
set_option linter.unusedSectionVars false
variable [T : Laid]
section
variable {P : Program} {H : Nat → Option (List Value)} {N : Nat} {g g' σ : zY} {V V' : Nat → Option Value} {w w' : World} {S S' : Nat → Prop} {β β' : Key → Option Nat} {a : Act} {o : Oper}
variable {E : Env} {gv : zY} {us : List Up}
def At6 (S : Nat → Prop) (β : Key → Option Nat) (rs : List Nat) : Nat → Prop := fun b => S b ∨ ∃ r ∈ rs, ∃ s, β (r :: s) = some b
theorem AM1 (h : Rel H N g V w S β) {L : List Nat} : ∀ {rs : List (Nat × Nat)} {cs : FCaps}, (∀ x ∈ rs, x.1 ∈ L) → cQ g rs = some cs →
  (∀ x ∈ rs, (g x.1).s = x.2) ∧ ∃ vs : List Value, rs.map (fun x => V x.1) = vs.map some ∧ oE (At6 S β L) w cs vs
 | [], cs, _, hc => by
  simp only [cQ, Option.some.injEq] at hc; subst hc
  exact ⟨by simp, [], rfl, by simp [oE]⟩
 | (r, s) :: rs, cs, hL, hc => by
  simp only [cQ] at hc
  have hrd : ∀ {t : Ty} {x : (Ty.ptr t).D} {f : Fl} {c : List Value}, f.whole = true → zP S β H w [r] (.ptr t) f x c → Rd (At6 S β L) w (.ptr t) x c := fun hw hv =>
   vN hw (fun _ => .inl) (fun k b hb => .inr ⟨r, hL (r, s) List.mem_cons_self, k, by simpa using hb⟩) hv
  split at hc
  ·rename_i k n f he
   split at hc
   ·rename_i hok
    simp only [Bool.and_eq_true, Nat.beq_eq] at hok
    simp only [Option.map_eq_some_iff] at hc
    obtain ⟨cs', hc, rfl⟩ := hc
    obtain ⟨h1, vs, h2, h3⟩ := AM1 h (fun x hx => hL x (by simp [hx])) hc
    obtain ⟨c, hv, hV⟩ := h.dat he
    have := hrd hok.2 hv
    simp only [Rd] at this
    obtain ⟨b, cs2, rfl, hb, hB, hz, h4⟩ := this
    refine ⟨?_, .pointer (some ⟨b, 0, none⟩) :: vs, ?_, ?_⟩
    ·intro x hx
     rcases List.mem_cons.1 hx with rfl | hx
     ·exact hok.1
     ·exact h1 x hx
    ·simp only [List.map_cons, h2, List.cons.injEq, and_true]; exact hV
    ·simp only [oE]
     refine ⟨b, vs, rfl, hb, ?_, h3⟩
     have : cs2 = #[.int k n] := by apply Array.toList_inj.1; rw [h4]
     rwa [← this]
   ·cases hc
  ·rename_i v f he
   split at hc
   ·rename_i hok
    simp only [Bool.and_eq_true, Nat.beq_eq] at hok
    simp only [Option.map_eq_some_iff] at hc
    obtain ⟨cs', hc, rfl⟩ := hc
    obtain ⟨h1, vs, h2, h3⟩ := AM1 h (fun x hx => hL x (by simp [hx])) hc
    obtain ⟨c, hv, hV⟩ := h.dat he
    have := hrd hok.2 hv
    simp only [Rd] at this
    obtain ⟨b, cs2, rfl, hb, hB, hz, u, h4, h5⟩ := this
    refine ⟨?_, .pointer (some ⟨b, 0, none⟩) :: vs, ?_, ?_⟩
    ·intro x hx
     rcases List.mem_cons.1 hx with rfl | hx
     ·exact hok.1
     ·exact h1 x hx
    ·simp only [List.map_cons, h2, List.cons.injEq, and_true]; exact hV
    ·simp only [oE]
     refine ⟨b, u, vs, rfl, hb, ?_, h5, h3⟩
     have : cs2 = #[u] := by apply Array.toList_inj.1; rw [h4]
     rwa [← this]
   ·cases hc
  ·cases hc
theorem A20 {x : Operand} {d : Dat} (h : Rel H N g V w S β) (hd : yR g (sv g x) = some d) :
  ∃ c, evl V x = some (zX d.t c) ∧ Rd (At6 S β (gD g x (sv g x))) w d.t d.x c := by
 have freeR : ∀ {t : Ty} {x : t.D} {c : List Value} {L : List Nat}, Rd S w t x c → Rd (At6 S β L) w t x c := fun hr => zQ (fun b hb => ⟨.inl hb, rfl⟩) hr
 cases hv : sv g x with
 | dead => rw [hv] at hd; simp [yR] at hd
 | und => rw [hv] at hd; simp [yR] at hd
 | unk => rw [hv] at hd; simp [yR] at hd
 | tup d => rw [hv] at hd; simp [yR] at hd
 | adr _ _ _ _ => rw [hv] at hd; simp [yR] at hd
 | nils => rw [hv] at hd; simp [yR] at hd
 | dat e =>
  rw [hv] at hd
  simp only [yR] at hd
  split at hd
  ·rename_i hw
   simp only [Option.some.injEq] at hd; subst hd
   rcases nI h hv with ⟨s, rfl, hs⟩ | ⟨hf, c, hc, hrd⟩
   ·obtain ⟨c, hvr, hV⟩ := h.dat hs
    refine ⟨c, hV, ?_⟩
    simp only [gD]
    split
    ·rename_i hf
     rw [vQ hf, yM] at hvr; exact freeR hvr
    ·exact vN hw (fun _ => .inl) (fun k b hb => .inr ⟨s, by simp, k, by simpa using hb⟩) hvr
   ·exact ⟨c, hc, freeR hrd⟩
  ·cases hd
 | clo f rs =>
  rw [hv] at hd
  obtain ⟨s, rfl, hs⟩ := uP hv (by simp) (by simp) (by simp)
  simp only [yR, Option.map_eq_some_iff] at hd
  obtain ⟨cs, hc, rfl⟩ := hd
  obtain ⟨h1, vs, h2, h3⟩ := AM1 h (L := rs.map (·.1)) (fun x hx => List.mem_map.2 ⟨x, hx, rfl⟩) hc
  have hss := h.slots s
  rw [hs] at hss
  have := hss.2 h1 vs h2
  refine ⟨[.func (.func f) #[] vs.toArray], this, ?_⟩
  simp only [Rd, A1i, gD]
  exact ⟨_, rfl, vs, rfl, h3⟩
 | als r p c s =>
  rw [hv] at hd
  obtain ⟨i, rfl, hi⟩ := uP hv (by simp) (by simp) (by simp)
  simp only [yR] at hd
  split at hd
  ·rename_i hok
   split at hd
   ·rename_i e he
    split at hd
    ·rename_i hw
     simp only [Option.some.injEq] at hd; subst hd
     obtain ⟨e', he', hg⟩ := iB he
     obtain ⟨_, hb, hnd, cr, L, c', k1, k2, k3, k4, k5, k6, k7⟩ := h.als hi hok he' hg
     refine ⟨c', k7, ?_⟩
     simp only [gD, he]
     split
     ·rename_i hf
      rw [vQ hf, yM] at k6; exact freeR k6
     ·exact vN hw (fun _ => .inl) (fun k b hb => .inr ⟨r, by simp, xK p ++ k, by simpa using hb⟩) k6
    ·cases hd
   ·cases hd
  ·cases hd
 | pend r p c s u e =>
  rw [hv] at hd
  obtain ⟨i, rfl, hi⟩ := uP hv (by simp) (by simp) (by simp)
  simp only [yR] at hd
  split at hd
  ·rename_i hok
   simp only [Bool.and_eq_true] at hok
   split at hd
   ·rename_i e' he
    simp only [Option.some.injEq] at hd; subst hd
    have hss := h.slots i
    rw [hi] at hss
    obtain ⟨h0, _, _, _, hss⟩ := hss
    obtain ⟨_, β2, cc, hβ2, hvr, hV⟩ := hss hok.1 e' he
    refine ⟨cc, hV, vN hok.2 (fun _ => .inl) (fun k b hb => ?_) hvr⟩
    simp only [gD]
    rcases hβ2 with rfl | ⟨b2, hb2, rfl⟩
    ·exact .inr ⟨r, by simp, xK p ++ k, by simpa using hb⟩
    ·unfold repl at hb
     split at hb
     ·cases hb; exact .inr ⟨i, by simp, [], hb2⟩
     ·split at hb
      ·cases hb
      ·exact .inr ⟨r, by simp, xK p ++ k, by simpa using hb⟩
   ·cases hd
  ·cases hd
end
end Go.Rf

end
section
namespace Go.Rf
set_option linter.unusedSectionVars false
variable [T : Laid]
section
variable {S S' : Nat → Prop} {β β' : Key → Option Nat} {H : Nat → Option (List Value)} {w w' : World}
theorem bC : ∀ {t : Ty} {x : t.D} {c : List Value}, A0Q t = true → Rd S w t x c → Rd S' w' t x c
 | .int _, _, _, _, h | .bool, _, _, _, h | .str, _, _, _, h | .unit, _, _, _, h => by simpa only [Rd] using h
 | .arr _ t, _, _, hs, h => by
  simp only [Rd] at h ⊢
  exact ⟨h.1, h.2.1, fun i y hy => bC hs (h.2.2 i y hy)⟩
 | .pair a b, _, _, hs, h => by
  simp only [A0Q, Bool.and_eq_true] at hs
  simp only [Rd] at h ⊢
  exact ⟨bC hs.1 h.1, bC hs.2 h.2⟩
 | .fn, _, _, hs, _ | .sl _, _, _, hs, _ | .ptr _, _, _, hs, _ => by simp [A0Q] at hs
theorem oW (hS : ∀ b, S b → S' b ∧ w'.heap[b]? = w.heap[b]?) : ∀ {p : List PS} {t : Ty} {f : Fl} {x : t.D} {d d' : Dat} {f2 : Fl} {x2 : t.D} {k k' : Key} {L L' : Loc} {c cp : List Value},
  yO p t f x = some d → d.f.base ≠ .gone → inB p t x → zF w t.size L = some c → vT w t L p = some (d.t, L') → zF w d.t.size L' = some cp →
  Ac5 p t f x d' = some (f2, x2) → zP S β H w k t f x c → zP S' β' H w' (k' ++ xK p) d'.t d'.f d'.x cp →
  (∀ s b, ¬ xK p <+: s → β (k ++ s) = some b → β' (k' ++ s) = some b ∧ w'.heap[b]? = w.heap[b]?) → zP S' β' H w' k' t f2 x2 c
 | [], t, f, x, d, d', f2, x2, k, k', L, L', c, cp, hg, hn, hb, hc, hw, hcp, hm, hv, hd, hβ => by
  simp only [Ac5] at hm
  obtain ⟨y, hy, e⟩ := Option.map_eq_some_iff.1 hm
  simp only [Prod.mk.injEq] at e
  obtain ⟨rfl, rfl⟩ := e
  obtain ⟨rfl, rfl⟩ := vP hy
  simp only [yO, Option.some.injEq] at hg
  subst hg
  simp only [vT, Option.some.injEq, Prod.mk.injEq, true_and] at hw
  subst hw
  rw [hc] at hcp
  simp only [Option.some.injEq] at hcp
  subst hcp
  simpa [xK] using hd
 | .fst :: p, .pair a b, f, x, d, d', f2, x2, k, k', L, L', c, cp, hg, hn, hb, hc, hw, hcp, hm, hv, hd, hβ => by
  simp only [Ac5] at hm
  obtain ⟨y, hy, e⟩ := Option.map_eq_some_iff.1 hm
  obtain ⟨rfl, rfl⟩ := e
  have hparts := wX hv
  have hc' := zW (i := 0) (m := a.size) hc (by simp [Ty.size])
  have hv1 := hparts.1
  rw [pP] at hv1
  simp only [vT, xT] at hw
  simp only [yO] at hg
  refine lZ (vM hv) (rF.2 ⟨?_, ?_⟩)
  ·rw [pP]
   exact oW hS (k := k ++ [0]) (k' := k' ++ [0]) hg hn (by simpa [inB] using hb) hc' hw hcp hy hv1 (by simpa [xK] using hd) (fun s b hs hbb => by
    have := hβ (0 :: s) b (by simp only [xK, List.cons_prefix_cons, true_and]; exact hs) (by simpa using hbb)
    simpa using this)
  ·exact zL hS (fun s b hbb => by
    have := hβ (1 :: s) b (by simp [xK]) (by simpa using hbb)
    simpa using this) hparts.2
 | .snd :: p, .pair a b, f, x, d, d', f2, x2, k, k', L, L', c, cp, hg, hn, hb, hc, hw, hcp, hm, hv, hd, hβ => by
  simp only [Ac5] at hm
  obtain ⟨y, hy, e⟩ := Option.map_eq_some_iff.1 hm
  obtain ⟨rfl, rfl⟩ := e
  have hparts := wX hv
  have hlen := mO hc
  simp only [Ty.size] at hlen
  have hc' := zW (i := a.size) (m := b.size) hc (by simp [Ty.size])
  have hv1 := hparts.2
  rw [pO hlen] at hv1
  simp only [vT, xT] at hw
  simp only [yO] at hg
  refine lZ (vM hv) (rF.2 ⟨?_, ?_⟩)
  ·exact zL hS (fun s b hbb => by
    have := hβ (0 :: s) b (by simp [xK]) (by simpa using hbb)
    simpa using this) hparts.1
  ·rw [pO hlen]
   exact oW hS (k := k ++ [1]) (k' := k' ++ [1]) hg hn (by simpa [inB] using hb) hc' hw hcp hy hv1 (by simpa [xK] using hd) (fun s b hs hbb => by
    have := hβ (1 :: s) b (by simp only [xK, List.cons_prefix_cons, true_and]; exact hs) (by simpa using hbb)
    simpa using this)
 | .idx i :: p, .arr n t, f, x, d, d', f2, x2, k, k', L, L', c, cp, hg, hn, hb, hc, hw, hcp, hm, hv, hd, hβ => by
  simp only [Ac5] at hm
  simp only [inB] at hb
  obtain ⟨hi, hb⟩ := hb
  obtain ⟨y, hy, hm⟩ := Option.bind_eq_some_iff.1 hm
  split at hm
  ·rename_i hwh
   simp only [Bool.and_eq_true, decide_eq_true_eq] at hwh
   obtain ⟨hwh, hye⟩ := hwh
   simp only [Option.some.injEq, Prod.mk.injEq] at hm
   obtain ⟨rfl, rfl⟩ := hm
   have hne : f.a.base ≠ .gone := fun e => by have := sE hwh; rw [e] at this; simp [Fl.whole] at this
   obtain ⟨hx, hcl, hel⟩ := jL hne hv
   have hmul : (i + 1) * t.size ≤ n * t.size := Nat.mul_le_mul_right _ hi
   rw [Nat.add_mul] at hmul
   have hc' := zW (i := i * t.size) (m := t.size) hc (by simp only [Ty.size]; omega)
   have hv1 := hel i _ (rD (z := t.dflt) (by omega))
   simp only [vT, xT, hi, if_true] at hw
   simp only [yO] at hg
   refine lZ (vM hv) (AC2.2 ⟨(List.length_set (as := (x : List t.D))).trans hx, hcl, fun j z hz => ?_⟩)
   rcases Ay0 hz with ⟨rfl, _, rfl⟩ | ⟨hj, hz⟩
   ·rw [← hye]
    exact oW hS (k := k ++ [j]) (k' := k' ++ [j]) hg hn hb hc' hw hcp hy hv1 (by simpa [xK] using hd) (fun s b hs hbb => by
     have := hβ (j :: s) b (by simp only [xK, List.cons_prefix_cons, true_and]; exact hs) (by simpa using hbb)
     simpa using this)
   ·exact zL hS (fun s b hbb => by
     have := hβ (j :: s) b (by simp only [xK, List.cons_prefix_cons]; exact fun h => hj h.1.symm) (by simpa using hbb)
     simpa using this) (hel j z hz)
  ·cases hm
 | .der :: p, .ptr t, f, x, d, d', f2, x2, k, k', L, L', c, cp, hg, hn, hb, hc, hw, hcp, hm, hv, hd, hβ => by
  have core : ∀ {e : Fl} {y : Fl × t.D}, f.base = .own e → Ac5 p t e x d' = some y → ∀ {ff : Fl}, ff.base = .own y.1 → (∀ q ∈ ff.pins, q ∈ f.pins) → zP S' β' H w' k' (.ptr t) ff y.2 c := by
   intro e y hf hy ff hff hpin
   have hpins := vM hv
   simp only [zP] at hv ⊢
   refine ⟨fun q hq => hpins q (hpin q hq), ?_⟩
   have hv := hv.2
   rw [hf] at hv
   rw [hff]
   obtain ⟨b, cs, rfl, hk, hB, hz, hv⟩ := hv
   have hself := hβ [] b (by simp [xK]) (by simpa using hk)
   simp only [List.append_nil] at hself
   have hge : f.e = e := by rw [qU, hf]; rfl
   simp only [yO, hge] at hg
   have hc1 : zF w 1 L = some [.pointer (some ⟨b, 0, none⟩)] := hc
   simp only [vT, xT, hc1] at hw
   have hcell : zF w t.size (.mem b 0) = some cs.toList := by
    rw [zM hB.blk (by omega), ← hz, ← Array.length_toList, dI]
   refine ⟨b, cs, rfl, hself.1, hB.same hself.2, hz, ?_⟩
   exact oW hS (k := k ++ [0]) (k' := k' ++ [0]) hg hn (by simpa [inB] using hb) hcell hw hcp hy hv (by simpa [xK] using hd) (fun s b hs hbb => by
    have := hβ (0 :: s) b (by simp only [xK, List.cons_prefix_cons, true_and]; exact hs) (by simpa using hbb)
    simpa using this)
  cases f with
  | own e =>
   simp only [Ac5] at hm
   obtain ⟨y, hy, e1⟩ := Option.map_eq_some_iff.1 hm
   obtain ⟨rfl, rfl⟩ := e1
   exact core rfl hy rfl (by simp [Fl.pins])
  | pin q g =>
   cases g with
   | own e =>
    simp only [Ac5] at hm
    obtain ⟨y, hy, e1⟩ := Option.map_eq_some_iff.1 hm
    obtain ⟨rfl, rfl⟩ := e1
    exact core rfl hy rfl (by simp [Fl.pins])
   | _ => simp [Ac5] at hm
  | _ => simp [Ac5] at hm
 | .elm i :: p, .sl t, f, x, d, d', f2, x2, k, k', L, L', c, cp, hg, hn, hb, hc, hw, hcp, hm, hv, hd, hβ => by
  simp only [inB] at hb
  obtain ⟨hi, hb⟩ := hb
  have core : ∀ {e : Fl} {y : Fl × t.D}, f.base = .own e → Ac5 p t e (List.getD x i t.dflt) d' = some y → y.1 = e → ∀ {ff : Fl}, ff.base = .own e → (∀ q ∈ ff.pins, q ∈ f.pins) → zP S' β' H w' k' (.sl t) ff (List.set x i y.2) c := by
   intro e y hf hy hye ff hff hpin
   have hpins := vM hv
   simp only [zP] at hv ⊢
   refine ⟨fun q hq => hpins q (hpin q hq), ?_⟩
   have hv := hv.2
   rw [hf] at hv
   rw [hff]
   obtain ⟨ad, cap, rfl, hlc, hv⟩ := hv
   rcases hv with hcap | ⟨b, o, cs, rfl, hk, hB, hz, hv⟩
   ·omega
   have hself := hβ [] b (by simp [xK]) (by simpa using hk)
   simp only [List.append_nil] at hself
   have hge : f.e = e := by rw [qU, hf]; rfl
   simp only [yO, hge] at hg
   have hc1 : zF w 1 L = some [.slice (some ⟨b, o, none⟩) (List.length x) cap] := hc
   simp only [vT, xT, hc1, hi, if_true] at hw
   have hmul : (i + 1) * t.size ≤ cap * t.size := Nat.mul_le_mul_right _ (by omega)
   rw [Nat.add_mul] at hmul
   have hcell : zF w t.size (.mem b (o + i * t.size)) = some (win cs.toList (o + i * t.size) t.size) := zM hB.blk (by omega)
   have hlen : (List.set x i y.2).length = List.length x := List.length_set (as := (x : List t.D))
   refine ⟨_, cap, by rw [hlen], by rw [hlen]; exact hlc, .inr ⟨b, o, cs, rfl, hself.1, hB.same hself.2, hz, fun j z hzj => ?_⟩⟩
   rcases Ay0 hzj with ⟨rfl, _, rfl⟩ | ⟨hj, hzj⟩
   ·rw [← hye]
    have hvi := hv j _ (rD (z := t.dflt) hi)
    rw [← hye] at hvi hg hy
    exact oW hS (k := k ++ [j]) (k' := k' ++ [j]) hg hn hb hcell hw hcp hy hvi (by simpa [xK] using hd) (fun s b hs hbb => by
     have := hβ (j :: s) b (by simp only [xK, List.cons_prefix_cons, true_and]; exact hs) (by simpa using hbb)
     simpa using this)
   ·exact zL hS (fun s b hbb => by
     have := hβ (j :: s) b (by simp only [xK, List.cons_prefix_cons]; exact fun h => hj h.1.symm) (by simpa using hbb)
     simpa using this) (hv j z hzj)
  cases f with
  | own e =>
   simp only [Ac5] at hm
   obtain ⟨y, hy, e1⟩ := Option.bind_eq_some_iff.1 hm
   split at e1
   ·rename_i hye
    simp only [Option.some.injEq, Prod.mk.injEq] at e1
    obtain ⟨rfl, rfl⟩ := e1
    exact core rfl hy hye rfl (by simp [Fl.pins])
   ·cases e1
  | pin q g =>
   cases g with
   | own e =>
    simp only [Ac5] at hm
    obtain ⟨y, hy, e1⟩ := Option.bind_eq_some_iff.1 hm
    split at e1
    ·rename_i hye
     simp only [Option.some.injEq, Prod.mk.injEq] at e1
     obtain ⟨rfl, rfl⟩ := e1
     exact core rfl hy hye rfl (by simp [Fl.pins])
    ·cases e1
   | _ => simp [Ac5] at hm
  | _ => simp [Ac5] at hm
end
section
variable {P : Program} {H : Nat → Option (List Value)} {N : Nat} {g g' σ : zY} {V V' : Nat → Option Value} {w w' : World} {S S' : Nat → Prop} {β β' : Key → Option Nat} {a : Act} {o : Oper}
variable {E : Env} {gv : zY} {us : List Up}
theorem A1K {c : Call} {x y : Operand} {t t' : TypeId} {val : Value} (ho : o.op = .call c) (hcal : c.callee = .builtin .copy) (hargs : c.args = #[x, y]) (hts : c.argTypes = #[t, t'])
  (hr : (Builtin.copy_ #[t, t'] o.type #[a.eval x, a.eval y]).run P w = .ok val w') : (execOp a.eval o).run P w = .ok (.value val) w' :=
 gH ho hcal (s := Builtin.copy_ #[t, t'] o.type #[a.eval x, a.eval y]) (by rw [hargs, hts, show Array.map a.eval #[x, y] = #[a.eval x, a.eval y] by simp]; rfl) hr
theorem A4N {t t' ty e : TypeId} {τ : Ty} {z : Value} {len cap n cap2 : Nat} {base ad2 : Option Addr} {cy : List Value} (h : SlOK E t e τ z) (hn : n ≤ len)
  (hl : ∀ w, (Builtin.firstCells τ.size n (.slice ad2 n cap2)).run E.P w = (Builtin.firstCells τ.size n (.slice ad2 n cap2)).run E.P w) (hf : (Builtin.firstCells τ.size n (.slice ad2 n cap2)).run E.P w = .ok cy.toArray w)
  (hst : ∀ a, base = some a → (storeCells a cy 0).run E.P w = .ok () w') (hno : base = none → w' = w) :
  (Builtin.copy_ #[t, t'] ty #[.slice base len cap, .slice ad2 n cap2]).run E.P w = .ok (.int .i64 n) w' := by
 have hmin : Nat.min n len = n := Nat.min_eq_left hn
 unfold Builtin.copy_
 simp only [List.getElem?_toArray, List.getElem?_cons_zero, List.getElem?_cons_succ, Sem.run_bind, zC h.und, Result.andThen_ok, Sem.run_pure, Builtin.lenOf, uW h.elem, hmin, hf]
 cases base with
 | none => simp [hno rfl, goInt]
 | some a => simp [hst a rfl, goInt]
theorem A6y {τ : Ty} {xs ys : List τ.D} (h : ys.length ≤ xs.length) : (A2g τ ys xs).length = xs.length := by
 unfold A2g; rw [List.length_append, List.length_drop]; omega
theorem BD8 {τ : Ty} {xs ys : List τ.D} {i : Nat} {v : τ.D} (h : nth (A2g τ ys xs) i = some v) (hl : ys.length ≤ xs.length) : (i < ys.length ∧ nth ys i = some v) ∨ (ys.length ≤ i ∧ nth xs i = some v) := by
 unfold nth A2g at *
 by_cases hi : i < ys.length
 ·rw [List.getElem?_append_left hi] at h; exact .inl ⟨hi, h⟩
 ·rw [List.getElem?_append_right (by omega), List.getElem?_drop] at h
  rw [show ys.length + (i - ys.length) = i by omega] at h
  exact .inr ⟨by omega, h⟩
theorem A3T {t t' : TypeId} {x y : Operand} {c : Call} (hc : Ctx E.P H S β a w o g) (hs : Sub gv g) (ho : o.op = .call c) (hcal : c.callee = .builtin .copy) (hargs : c.args = #[x, y]) (hts : c.argTypes = #[t, t'])
  (hk : A5y gv o (E.sl t) x y some = some us) : yJ E.P H S β a w o (g.ups us) := by
 unfold A5y at hk
 split at hk
 ·rename_i τ q τ2 ys f2 ht hq hd
  obtain ⟨τ3, e0, z0, heq, hok⟩ := A4l ht
  simp only [Ty.sl.injEq] at heq
  subst heq
  split at hk
  ·rename_i e he
   split at hk
   ·rename_i τ' xs hg
    split at hk
    ·rename_i xs1 ys1 hcx hcy
     split at hk
     ·rename_i z hm
      split at hk
      ·rename_i hsc
       simp only [Bool.cond_eq_ite] at hk
       split at hk
       ·rename_i hle
        have hle : List.length ys1 ≤ List.length xs1 := Nat.le_of_ble_eq_true hle
        obtain ⟨hex, hx2⟩ := vP hcx
        cases hex
        have hx2 : xs1 = xs := hx2
        subst hx2
        obtain ⟨hey, hy2⟩ := vP hcy
        cases hey
        have hy2 : ys1 = ys := hy2
        subst hy2
        have hat : atP gv q.1 q.2 = some ⟨.sl τ, xs1, .own .sh⟩ := by unfold atP; rw [he]; exact hg
        obtain ⟨hq', hat', hr⟩ := AC5 hs hq hat
        obtain ⟨e1, cr, L, cc, he1, hg1, hb1, hV1, hl1, hvr, hw1, hcc1, hvp, hxv⟩ := aL hc.rel hq' hat' (by simp [Fl.base])
        have hee : e1 = e := by
         rw [hr, he] at he1
         simpa using he1.symm
        subst hee
        have hvp0 := hvp
        simp only [zP, Fl.base] at hvp0
        obtain ⟨_, ad, cap, rfl, hlc, hvp1⟩ := hvp0
        have exv : a.eval x = .slice ad (List.length xs1) cap := zJ hxv
        obtain ⟨cyv, hyv, hry⟩ := sB hc.rel (uV hs hd)
        obtain ⟨ad2, cap2, cy, hcyv, hel, hfirst⟩ := A4L hry
        rw [hcyv] at hyv
        have eyv : a.eval y = .slice ad2 (List.length ys1) cap2 := zJ hyv
        have hqN := hc.dead.lt (i := q.1) (by rw [he1]; simp)
        have hcells : zF w e1.t.size (.reg cr) = some cr := by simp [zF, hl1]
        have fin : ∀ {w' : World}, (Builtin.copy_ #[t, t'] o.type #[a.eval x, a.eval y]).run E.P w = .ok (.int .i64 (List.length ys1)) w' → Sane w' S β → (∀ b, S b → w'.heap[b]? = w.heap[b]?) →
          (∀ key b, β key = some b → key ≠ q.1 :: xK q.2 → w'.heap[b]? = w.heap[b]?) → Step w S β w' S β →
          zP S β H w' (q.1 :: xK q.2) (.sl τ) (.own .sh) (A2g τ ys1 xs1) [.slice ad (List.length xs1) cap] → yJ E.P H S β a w o (g.ups us) := by
         intro w' hrun hsane hS hβ hst hnew K Q hK
         have hroot : zP S β H w' [q.1] e1.t z.1 z.2 cr :=
          oW (S := S) (β := β) (fun b hb => ⟨hb, hS b hb⟩) (k := [q.1]) (k' := [q.1]) hg1 (by simp [Fl.base]) hb1 hcells hw1 hcc1 hm hvr hnew (fun s b hp hb => ⟨hb, hβ _ b hb (fun e => by
           simp only [List.cons_append, List.nil_append, List.cons.injEq, true_and] at e
           exact hp (e ▸ List.prefix_refl _))⟩)
         have hrel : Rel H a.tmps.size (g.up (.mod q.1 (.dat ⟨e1.t, z.2, z.1⟩))) (qR a) w' S β :=
          hc.rel.mod he1 rfl hsane (fun b hb => ⟨hb, hS b hb⟩) (fun j s b hj _ hb => ⟨hb, hβ _ b hb (fun e => hj (by simp only [List.cons.injEq] at e; exact e.1))⟩) ⟨cr, hroot, hV1⟩
         have hD1 : yH a.tmps.size (g.up (.mod q.1 (.dat ⟨e1.t, z.2, z.1⟩))) := hc.dead.up hqN
         split at hk
         ·rename_i d hdst
          split at hk
          ·cases hk
          ·simp only [Option.some.injEq] at hk; rw [← hk] at hK
           have hdN := xO hc.opIn hdst
           refine tD (A1K ho hcal hargs hts hrun) (hK _ _ S β wW yS ?_ hst)
           rw [hdst, vS hdN]
           exact hrel.finish (fun _ _ => rfl) hD1 (fun _ _ => rfl) hdN hsane (fun b hb => ⟨hb, rfl⟩) (fun _ _ _ _ _ hb => ⟨hb, rfl⟩) BN3
         ·rename_i hdst
          simp only [Option.some.injEq] at hk; rw [← hk] at hK
          refine tD (A1K ho hcal hargs hts hrun) (hK _ _ S β wW yS ?_ hst)
          rw [hdst]
          exact hrel
        rcases hvp1 with hcap | ⟨b, oo, cs, rfl, hkb, hob, hz, helx⟩
        ·
         have hx0 : xs1 = [] := List.length_eq_zero_iff.1 (by omega)
         subst hx0
         have hy0 : ys1 = [] := List.length_eq_zero_iff.1 (by simpa using hle)
         subst hy0
         have hcy0 : cy = [] := List.length_eq_zero_iff.1 (by have := hel.len; simpa using this)
         refine fin (w' := w) (by rw [exv, eyv]; exact A4N hok (Nat.le_refl _) (fun _ => rfl) (hfirst w rfl) (fun a _ => by rw [hcy0]; simp [storeCells]) (fun _ => rfl)) hc.rel.sane (fun _ _ => rfl) (fun _ _ _ _ => rfl) .refl ?_
         exact hvp
        ·obtain ⟨el, fz, hbl, hf⟩ := hob
         have hlz : List.length ys1 * τ.size ≤ List.length xs1 * τ.size := Nat.mul_le_mul_right _ hle
         have hlz2 : List.length xs1 * τ.size ≤ cap * τ.size := Nat.mul_le_mul_right _ hlc
         have hcl : cy.length = List.length ys1 * τ.size := hel.len
         have hle2 : oo + cy.length ≤ cs.size := by omega
         obtain ⟨w', cs', k1, k2, k3, k4, k5, k6⟩ := oL (P := E.P) (vs := cy) (i := 0) (o := oo) hbl (fun j hj => ⟨by omega, hf.1 _ (by omega)⟩) hel.one
         rw [Nat.add_zero] at k3
         have hchg : Chg w w' b oo cy := ⟨k4, ⟨cs, el, fz, cs', hbl, k2, k3, hle2⟩, k6⟩
         have hsz : cs'.size = cs.size := by
          have := congrArg List.length k3
          rw [jO (by simpa using hle2)] at this
          simpa using this
         have hne : ∀ b', S b' → b' ≠ b := fun b' hb' e => hc.rel.sane.sep _ _ hkb (e ▸ hb')
         refine fin (w' := w') (by rw [exv, eyv]; exact A4N hok hle (fun _ => rfl) (hfirst w rfl) (fun a' ha' => by simp only [Option.some.injEq] at ha'; subst ha'; exact k1) (fun h => by cases h))
          ⟨hc.rel.sane.inj, hc.rel.sane.sep, fun k b hk => by rw [k5]; exact hc.rel.sane.live k b hk, fun b hk => by rw [k5]; exact hc.rel.sane.liveS b hk, hc.rel.sane.tabs fun b' hb => ⟨hb, k4 b' (hne b' hb)⟩⟩
          (fun b' hb' => k4 b' (hne b' hb')) (fun key b' hb' hkey => k4 b' (fun e => hkey (hc.rel.sane.inj _ _ _ (e ▸ hb') hkb))) (Step.store hkb hchg k5) ?_
         have hlen : List.length (A2g τ ys1 xs1) = List.length xs1 := by
          exact A6y hle
         simp only [zP, Fl.base]
         refine ⟨by simp [pX, Fl.pins], _, cap, by rw [hlen], by rw [hlen]; exact hlc, .inr ⟨b, oo, cs', rfl, hkb, ⟨el, fz, k2, by rw [hsz]; exact hf⟩, by rw [hsz]; exact hz, fun i v hi => ?_⟩⟩
         rw [yM, k3]
         rcases BD8 hi hle with ⟨hlt, hi⟩ | ⟨hge, hi⟩
         ·have hlt2 : (i + 1) * τ.size ≤ List.length ys1 * τ.size := Nat.mul_le_mul_right _ hlt
          rw [Nat.add_mul, Nat.one_mul] at hlt2
          rw [← rZ (n := cy.length) (by omega), kN (by simpa using hle2)]
          exact bC hsc (hel.get i v hi)
         ·have hge2 : List.length ys1 * τ.size ≤ i * τ.size := Nat.mul_le_mul_right _ hge
          rw [vW (by simpa using hle2) (.inr (by omega))]
          have := helx i v hi
          rw [yM] at this
          exact bC hsc this
       ·cases hk
      ·cases hk
     ·cases hk
    ·cases hk
   ·cases hk
  ·cases hk
 ·cases hk
theorem A4A {ty : TypeId → Option Ty} : ∀ {i : Nat} {fs : List Field} {off : Nat} {τ : Ty} {y : τ.D} {c : List Value} {e : Dat}, pW ty fs off = some τ → Rd S w τ y c → yO (zI i) τ .sh y = some e →
  ∃ fl, fs[i]? = some fl ∧ ty fl.type = some e.t ∧ off ≤ fl.offset ∧ fl.offset - off + e.t.size ≤ c.length ∧ Rd S w e.t e.x (win c (fl.offset - off) e.t.size) ∧ e.f = .sh
 | i, [], off, τ, y, c, e, h, hr, hg => by
  simp only [pW, Option.some.injEq] at h; subst h
  cases i <;> simp [zI, yO] at hg
 | i, fl :: fs, off, τ, y, c, e, h, hr, hg => by
  simp only [pW] at h
  split at h
  ·rename_i a ha
   split at h
   ·rename_i ho
    simp only [Nat.beq_eq] at ho
    simp only [Option.map_eq_some_iff] at h
    obtain ⟨τ', h, rfl⟩ := h
    have hlen := tP hr
    simp only [Rd] at hr
    have hl1 := tP hr.1
    have hl2 := tP hr.2
    rw [List.length_take] at hl1
    rw [List.length_drop] at hl2
    cases i with
    | zero =>
     simp only [zI, yO, Option.some.injEq] at hg
     subst hg
     refine ⟨fl, rfl, ha, by omega, by rw [ho]; simp only [Nat.sub_self, Nat.zero_add]; omega, ?_, rfl⟩
     rw [ho, Nat.sub_self]
     simpa [win] using hr.1
    | succ i =>
     simp only [zI, yO] at hg
     obtain ⟨fl', h1, h2, h3, h4, h5, h6⟩ := A4A h hr.2 hg
     rw [List.length_drop] at h4
     refine ⟨fl', by simpa using h1, h2, by omega, by omega, ?_, h6⟩
     have : win (c.drop a.size) (fl'.offset - (off + a.size)) e.t.size = win c (fl'.offset - off) e.t.size := by
      unfold win
      rw [List.drop_drop]
      congr 2
      omega
     rw [← this]; exact h5
   ·cases h
  ·cases h
theorem A0S {t : TypeId} {x : Operand} {i : Nat} (hc : Ctx E.P H S β a w o g) (hs : Sub gv g) (ho : o.op = .field t x i)
  (hk : Ar0 gv o (E.ty t) x i some = some us) : yJ E.P H S β a w o (g.ups us) := by
 unfold Ar0 at hk
 split at hk
 ·rename_i ta tb y hx
  split at hk
  ·rename_i ht
   split at hk
   ·rename_i e hg
    split at hk
    ·obtain ⟨fs, hfs, hch⟩ := A4e (ht : tyN E.P (7 + 1) t = _)
     have hr : ∃ c, evl (qR a) x = some (zX (.pair ta tb) c) ∧ Rd S w (.pair ta tb) y c := by
      rcases nI hc.rel (hs.sv hx (by simp)) with ⟨s, rfl, hs'⟩ | ⟨_, c, hcc, hr⟩
      ·obtain ⟨c, hv, hV⟩ := hc.rel.dat hs'
       exact ⟨c, hV, yM.1 hv⟩
      ·exact ⟨c, hcc, hr⟩
     obtain ⟨c, hcv, hr⟩ := hr
     have ex : a.eval x = .agg c.toArray := zJ hcv
     obtain ⟨fl, h1, h2, _, h4, h5, h6⟩ := A4A hch hr hg
     rw [Nat.sub_zero] at h4 h5
     obtain ⟨te, xe, fe⟩ := e
     simp only at h6 h5 h4 h2
     subst h6
     refine DV.look (d := ⟨te, xe, .sh⟩) ⟨rfl, _, h5, rfl⟩ hc.rel hc.dead hc.opIn hk ?_
     have hf' : fs[i]? = some fl := by simpa using h1
     have hrun : (Instr.field t (.agg c.toArray) i).run E.P w = .ok (zX te (win c fl.offset te.size)) w := by
      simp only [Instr.field, Sem.run_bind, zC hfs, Result.andThen_ok, hf', asAgg, Sem.run_pure, Ab6 (d := 6) h2 h4]
     simp only [execOp, ho, ex, Sem.run_bind, hrun, Result.andThen_ok, Sem.run_pure]
    ·cases hk
   ·cases hk
  ·cases hk
 ·cases hk
end
end Go.Rf

end
section
namespace Go.Rf
set_option linter.unusedSectionVars false
variable [T : Laid]
section
variable {P : Program} {H : Nat → Option (List Value)} {N : Nat} {g g' σ : zY} {V V' : Nat → Option Value} {w w' : World} {S S' : Nat → Prop} {β β' : Key → Option Nat} {a : Act} {o : Oper}
variable {E : Env} {gv : zY} {us : List Up}
theorem As6 {α : Type} {xs : Array α} {x : α} (h : xs.toList = [x]) : xs = #[x] := Array.toList_inj.1 h
theorem AE4 {α : Type} {xs : Array α} {x y : α} (h : xs.toList = [x, y]) : xs = #[x, y] := Array.toList_inj.1 h
theorem Am5 {b : Builtin} {c : Call} (hc : Ctx E.P H S β a w o g) (hs : Sub gv g) (hm : o.op = .call c) (hcal : c.callee = .builtin b)
  (hk : AG1 E gv o b c some = some us) : yJ E.P H S β a w o (g.ups us) := by
 unfold AG1 at hk
 split at hk
 ·rename_i x t h1 h2
  exact A5H (ty := o.type) hc hs hm hcal (As6 h1) (As6 h2) hk
 ·rename_i x y t t' h1 h2
  exact A0O hc hs hm hcal (AE4 h1) (AE4 h2) hk
 ·exact A6h hc hs hm hcal rfl hk
 ·rename_i x y t t' h1 h2
  exact A3T hc hs hm hcal (AE4 h1) (AE4 h2) hk
 ·cases hk
theorem A8T {R : Run E} {mv : Bool} (hc : Ctx E.P H S β a w o g) (hs : Sub gv g)
  (hcall : ∀ c f, o.op = .call c → c.callee = .value (.func f) → Aa6 E R gv o f c.args.toList some = some us → yJ E.P H S β a w o (g.ups us))
  (hcallv : ∀ c s v f, o.op = .call c → c.callee = .value (.tmp s) → yR gv (gv s).sv = some ⟨.fn, v, f⟩ → aP E R gv o v c.args.toList c.argTypes.toList some = some us → yJ E.P H S β a w o (g.ups us))
  (hk : opK E R mv gv o some = some us) : yJ E.P H S β a w o (g.ups us) := by
 unfold opK at hk
 split at hk
 ·rename_i hm; exact A3w hc hs hm hk
 ·rename_i hm; exact Az6 hc hs hm hk
 ·rename_i hm; exact A3v hc hs hm hk
 ·rename_i hm; exact A2F hc hm hk
 ·rename_i hm; exact A6D hc hs hm hk
 ·rename_i hm; exact A11 hc hs hm hk
 ·rename_i hm; exact AU6 hc hs hm hk
 ·rename_i hm; exact A31 hc hs hm hk
 ·rename_i hm; exact A0j hc hs hm hk
 ·rename_i hm; exact A6T hc hs hm hk
 ·rename_i hm
  split at hk
  ·rename_i hy; exact A56 hc hs hm hy hk
  ·exact A5N hc hs hm hk
 ·rename_i hm; exact A7K hc hs hm hk
 ·rename_i s t x hm
  by_cases hb : E.ty s = some .str ∧ E.ty t = some (.sl (.int .u8))
  ·exact Al2 hc hs hm hb.1 hb.2 hk
  ·exact A3Z hc hs hm hb hk
 ·rename_i h first caps hm
  split at hk
  ·rename_i he
   have : first = #[] := Array.toList_inj.1 (List.isEmpty_iff.1 he)
   subst this
   split at hk
   ·rename_i rs hr; exact Ai6 hc hs hm hr hk
   ·cases hk
  ·cases hk
 ·rename_i hm; exact Aa8 hc hs hm hk
 ·rename_i hm; exact A2P hc hs hm hk
 ·rename_i hm; exact Aa7 hc hs hm hk
 ·rename_i hm; exact Aa1 hc hs hm hk
 ·rename_i hm; exact A0h hc hs hm hk
 ·rename_i hm; exact Ak2 hc hs hm hk
 ·rename_i hm; exact A0S hc hs hm hk
 ·rename_i c hm
  split at hk
  ·rename_i b hcal; exact Am5 hc hs hm hcal hk
  ·rename_i f hcal; exact hcall c f hm hcal hk
  ·rename_i s hcal
   split at hk
   ·rename_i v f hd; exact hcallv c s v f hm hcal hd hk
   ·cases hk
  ·cases hk
 ·cases hk
end
end Go.Rf

end
