/- An interpreter of the code over plain data, proved right against the machine: part 2. No condition. -/
import Derived.Test.YtlcagehlljilgaaGreatDoorRfA
import Derived.Laws.IdiomStrings
import Derived.Laws.StructEq
import Derived.Laws.Cover3
import Derived.Laws.AppendOwn
import Derived.Laws.Tables
import Derived.Great.BuildSlice
set_option linter.unusedVariables false
set_option linter.unusedSimpArgs false
section
namespace Go.Rf
set_option linter.unusedSectionVars false
variable [T : Laid]
section
variable {P : Program} {H : Nat → Option (List Value)} {N : Nat} {g g' σ : View} {V V' : Nat → Option Value} {w w' : World} {S S' : Nat → Prop} {β β' : Key → Option Nat} {a : Act} {o : Oper}
variable {E : Env} {gv : View} {us : List Up}
theorem cells_list {t : Ty} (ht : t.size = 1) {b o' : Nat} {cs : Array Value} {x : List t.D} (h : t.D → Value) (hB : Blk w b cs) (hz : o' + List.length x * t.size ≤ cs.size)
  (hx : ∀ (i : Nat) (y : t.D), nth x i = some y → win cs.toList (o' + i * t.size) t.size = [h y]) : cellsAt w (List.length x) (.mem b o') = some (x.map h) := by
 rw [ht, Nat.mul_one] at hz
 rw [cellsAt_mem hB hz]
 congr 1
 apply List.ext_getElem?
 intro i
 rw [win_get]
 by_cases hi : i < x.length
 ·rw [if_pos hi]
  have := hx i x[i] (by simp [nth, hi])
  rw [ht, Nat.mul_one] at this
  have h2 := congrArg (fun l => l[0]?) this
  simp only [win_get] at h2
  simp only [Nat.add_zero] at h2
  rw [if_pos (by decide)] at h2
  rw [h2]; simp [hi]
 ·rw [if_neg hi]; exact (List.getElem?_eq_none (by rw [List.length_map]; omega)).symm
theorem Rd_ints {k : IntKind} {x : List Int} {c : List Value} (h : Rd S w (.sl (.int k)) x c) :
  ∃ ad cap, c = [.slice ad x.length cap] ∧ x.length ≤ cap ∧ ∀ b, ad = some b → x ≠ [] → b.spot = none ∧ cellsAt w x.length (.mem b.block b.off) = some (x.map (Value.int k)) := by
 simp only [Rd] at h
 obtain ⟨ad, cap, rfl, hl, h⟩ := h
 refine ⟨ad, cap, rfl, hl, fun b hb hx => ?_⟩
 rcases h with h | ⟨b', o', cs, rfl, hs, hB, hz, h⟩
 ·exact absurd h hx
 ·simp only [Option.some.injEq] at hb; subst hb
  exact ⟨rfl, cells_list (t := .int k) rfl (Value.int k) hB hz (fun i y hy => h i y hy)⟩
theorem loadCells_zero {ad : Addr} : (loadCells ad 0).run P w = .ok #[] w := by simp [loadCells, loadCellsFrom]
theorem run_loadInts {k : IntKind} {x : List Int} {c : List Value} {b : Addr} {cap : Nat} (h : Rd S w (.sl (.int k)) x c) (hc : c = [.slice (some b) x.length cap]) : (loadCells b x.length).run P w = .ok (x.map (Value.int k)).toArray w := by
 obtain ⟨ad, cap', e, _, h⟩ := Rd_ints h
 rw [hc] at e
 simp only [List.cons.injEq, Value.slice.injEq, and_true, true_and] at e
 cases x with
 | nil => simp [loadCells, loadCellsFrom]
 | cons y x =>
  obtain ⟨h1, h2⟩ := h b e.1.symm (by simp)
  obtain ⟨bb, oo, sp⟩ := b
  simp only at h1 h2
  subst h1
  exact run_loadCells' h2
theorem run_bytes_str {s t e : TypeId} {ad : Option Addr} {cap : Nat} {xs : List Int} {c : List Value} (hse : P.underlying s = some (.slice e)) (he' : P.underlying e = some (.int .u8)) (ht : P.underlying t = some .string)
  (hr : Rd S w (.sl (.int .u8)) xs c) (e4 : c = [.slice ad xs.length cap]) : (convert s t (.slice ad xs.length cap)).run P w = .ok (.string ⟨⟨List.map (fun n : Int => UInt8.ofNat n.toNat) xs⟩⟩) w := by
 rw [run_convert_bytes_string w s t e ad _ cap hse he' ht]
 cases ad with
 | none =>
  have : xs = [] := by
   simp only [Rd] at hr
   obtain ⟨ad', cap', e5, _, h⟩ := hr
   rw [e4] at e5
   simp only [List.cons.injEq, Value.slice.injEq, and_true] at e5
   rcases h with h | ⟨b, o', cs, h, _⟩
   ·exact h
   ·rw [← e5.1] at h; cases h
  subst this
  simp [Conv.bytesToString]; rfl
 | some b =>
  rw [run_bytesToString (P := P) w b xs.length cap xs (run_loadInts hr e4), foldl_push_bytes]
  congr 2
  apply ByteArray.ext
  simp
theorem convK_sound {s t : TypeId} {x : Operand} (hc : Ctx E.P H S β a w o g) (hs : Sub gv g) (ho : o.op = .convert s t x)
  (hno : ¬ (E.ty s = some .str ∧ E.ty t = some (.sl (.int .u8))))
  (hk : convK (E.ty s) (E.ty t) (dataOf gv (sv gv x)) (fun d => outp o [] (.dat d) some) = some us) : OpSound E.P H S β a w o (g.ups us) := by
 cases hd : dataOf gv (sv gv x) with
 | none => rw [hd] at hk; unfold convK at hk; split at hk <;> first | cases hk | (rename_i e; cases e)
 | some d =>
  rw [hd] at hk
  obtain ⟨c, hcv, hr⟩ := dataOf_sound hc.rel (dataOf_mono hs hd)
  have ex := evl_eval hcv
  unfold convK at hk
  split at hk
  ·rename_i k1 k2 k3 n f e1 e2 e3
   simp only [Option.some.injEq] at e3; subst e3
   simp only [Rd] at hr; subst hr
   have ht := ty_int e2
   have hu : ∃ u, E.P.underlying s = some u := ⟨_, ty_int e1⟩
   refine DV.int.look hc.rel hc.dead hc.opIn hk ?_
   simp [execOp, ho, ex, valOf, Ty.agg, convert, run_underlying' (ty_int e1), run_underlying' ht, Conv.intToInt]
  ·rename_i s' f e1 e2 e3
   simp only [Option.some.injEq] at e3; subst e3
   simp only [Rd] at hr; subst hr
   refine DV.str.look hc.rel hc.dead hc.opIn hk ?_
   simp [execOp, ho, ex, valOf, Ty.agg, convert, run_underlying' (ty_str e1), run_underlying' (ty_str e2)]
  ·rename_i xs f e1 e2 e3
   simp only [Option.some.injEq] at e3; subst e3
   split at hk
   ·obtain ⟨e, hse, he⟩ := tyN_sl e1
    have he' := tyN_int he
    obtain ⟨ad, cap, e4, hl, _⟩ := Rd_ints hr
    have hval : a.eval x = .slice ad xs.length cap := by rw [ex, e4]; rfl
    refine DV.str.look hc.rel hc.dead hc.opIn hk ?_
    have hrun := run_bytes_str hse he' (ty_str e2) hr e4
    have hx : (execOp a.eval o).run E.P w = ((convert s t (a.eval x)).run E.P w).andThen (fun v w' => .ok (.value v) w') := by simp only [execOp, ho, Sem.run_bind, Sem.run_pure]
    rw [hx, hval]
    exact congrArg (fun r : Result Value => Result.andThen r fun v w' => Result.ok (Next.value v) w') hrun
   ·cases hk
  ·rename_i e1 e2 e3
   exact absurd ⟨e1, e2⟩ hno
  ·cases hk
theorem exec_builtin {ρ : Operand → Value} {c : Call} {b : Builtin} (ho : o.op = .call c) (hcal : c.callee = .builtin b) :
  (execOp ρ o).run P w = (builtin b c.argTypes o.type (c.args.map fun | .const _ => true | _ => false) (c.args.map ρ)).run P w := by
 unfold execOp
 simp only [ho, resolve, hcal, Sem.run_bind, Sem.run_pure, Result.andThen_ok]
 rfl
theorem exec_builtinV {ρ : Operand → Value} {c : Call} {b : Builtin} {val : Value} {s : Sem Value} (ho : o.op = .call c) (hcal : c.callee = .builtin b)
  (hb : builtin b c.argTypes o.type (c.args.map fun | .const _ => true | _ => false) (c.args.map ρ) = (do pure (.value (← s)))) (hr : s.run P w = .ok val w') :
  (execOp ρ o).run P w = .ok (.value val) w' := by
 rw [exec_builtin ho hcal, hb]
 simp only [Sem.run_bind, hr, Result.andThen_ok, Sem.run_pure]
theorem minI_eq (m n : Int) : minI m n = if n < m then n else m := by unfold minI; by_cases h : n < m <;> simp [h]
theorem lenK_sound {t ty : TypeId} {x : Operand} {c : Call} (hc : Ctx E.P H S β a w o g) (hs : Sub gv g) (ho : o.op = .call c) (hcal : c.callee = .builtin .len) (hargs : c.args = #[x]) (hts : c.argTypes = #[t])
  (hk : lenK gv o (E.ty t) x some = some us) : OpSound E.P H S β a w o (g.ups us) := by
 have run : ∀ val, (Builtin.len_ #[t] o.type #[a.eval x]).run E.P w = .ok val w → (execOp a.eval o).run E.P w = .ok (.value val) w := fun val h =>
  exec_builtinV ho hcal (s := Builtin.len_ #[t] o.type #[a.eval x]) (by rw [hargs, hts, show Array.map a.eval #[x] = #[a.eval x] by simp]; rfl) h
 unfold lenK at hk
 split at hk
 ·rename_i s f e1 e2
  obtain ⟨c', hcv, hr⟩ := dataOf_sound hc.rel (dataOf_mono hs e2)
  simp only [Rd] at hr; subst hr
  refine DV.int.look hc.rel hc.dead hc.opIn hk (run _ ?_)
  rw [evl_eval hcv]
  exact run_len_string w t o.type _ (ty_str e1)
 ·rename_i τ τ' s f e1 e2
  obtain ⟨c', hcv, hr⟩ := dataOf_sound hc.rel (dataOf_mono hs e2)
  simp only [Rd] at hr
  obtain ⟨ad, cap, rfl, _⟩ := hr
  obtain ⟨e, he, _⟩ := tyN_sl e1
  refine DV.int.look hc.rel hc.dead hc.opIn hk (run _ ?_)
  rw [evl_eval hcv]
  simp [valOf, Ty.agg, Builtin.len_, run_underlying' he, goInt]
 ·rename_i n τ e1
  obtain ⟨e, he, _⟩ := tyN_arr e1
  refine DV.int.look hc.rel hc.dead hc.opIn hk (run _ ?_)
  simp [Builtin.len_, run_underlying' he, goInt]
 ·rename_i n τ e1
  obtain ⟨e, he, h2⟩ := tyN_ptr e1
  obtain ⟨e', he', _⟩ := tyN_arr (d := 6) h2
  refine DV.int.look hc.rel hc.dead hc.opIn hk (run _ ?_)
  simp [Builtin.len_, run_underlying' he, run_underlying' he', goInt]
 ·split at hk
  ·rename_i τ _ _ _ _ e1 e2
   obtain ⟨e, he, _⟩ := tyN_sl e1
   have hx : a.eval x = .slice none 0 0 := by
    rcases opnd_nils (hs.sv e2 (by simp)) with ⟨s, rfl, h⟩ | rfl
    ·have := hc.rel.slots s
     rw [h] at this; exact this.elim
    ·rfl
   refine DV.int.look hc.rel hc.dead hc.opIn hk (run _ ?_)
   rw [hx]
   simp [Builtin.len_, run_underlying' he, goInt]
  ·cases hk
theorem run_min {ats : Array TypeId} {ty : TypeId} {k : IntKind} {m n : Int} : (Builtin.min_ ats ty #[.int k m, .int k n]).run P w = .ok (.int k (minI m n)) w := by
 rw [minI_eq]; simp [Builtin.min_, Builtin.min2]
theorem run_index_str {t : TypeId} {k : IntKind} {n : Int} {s : List UInt8} (h : P.underlying t = some .string) (h1 : nonneg n = true) (h2 : Nat.blt n.toNat s.length = true) :
  (Instr.index t (.string ⟨⟨s⟩⟩) (.int k n)).run P w = .ok (.int .u8 ((s.getD n.toNat 0).toNat : Int)) w := by
 simp only [nonneg, decide_eq_true_eq] at h1
 simp only [Nat.blt_eq] at h2
 have hsz : ((⟨⟨s⟩⟩ : ByteArray).size : Int) = s.length := rfl
 rw [run_index_string w t _ _ _ h, dif_pos ⟨h1, by rw [hsz]; omega⟩]
 congr 4
 show s.toArray[n.toNat]'(by simpa using h2) = _
 simp [List.getD, h2]
theorem run_part {e : TypeId} {d : Nat} {τ : Ty} {c : List Value} {i : Nat} (h7 : tyN P (d + 1) e = some τ) (hle : i + τ.size ≤ c.length) : (part e c.toArray i).run P w = .ok (valOf τ (win c i τ.size)) w := by
 unfold part
 simp only [Sem.run_bind, run_isAgg' h7, Result.andThen_ok]
 unfold valOf
 cases hag : τ.agg with
 | true =>
  simp only [if_true, Sem.run_bind, run_sizeOf' h7, Result.andThen_ok, Sem.run_pure]
  congr 2
  apply Array.toList_inj.1
  simp [win, List.extract_eq_take_drop]
 | false =>
  have hs1 : τ.size = 1 := by cases τ <;> simp_all [Ty.agg, Ty.size]
  rw [hs1] at hle ⊢
  have hw0 : (win c i 1)[0]? = c[i]? := by rw [win_get]; simp
  simp only [Bool.false_eq_true, if_false]
  have hi : i < c.length := by omega
  have hg : c.toArray[i]? = some c[i] := by simp [hi]
  rw [hg]
  simp only [Sem.run_pure]
  congr 1
  rw [List.headD_eq_head?_getD, List.head?_eq_getElem?, hw0]
  simp [hi]
theorem run_index_arr {t e : TypeId} {d : Nat} {τ : Ty} {k : IntKind} {n : Int} {m : Nat} {c : List Value} (he : P.underlying t = some (.array m e)) (h7 : tyN P (d + 1) e = some τ) (h1 : nonneg n = true) (h2 : Nat.blt n.toNat m = true)
  (hcl : c.length = m * τ.size) : (Instr.index t (.agg c.toArray) (.int k n)).run P w = .ok (valOf τ (win c (n.toNat * τ.size) τ.size)) w := by
 simp only [nonneg, decide_eq_true_eq] at h1
 simp only [Nat.blt_eq] at h2
 have hle : (n.toNat + 1) * τ.size ≤ m * τ.size := Nat.mul_le_mul_right _ h2
 rw [Nat.add_mul, Nat.one_mul] at hle
 simp only [Instr.index, asIntOf, Sem.run_bind, Sem.run_pure, Result.andThen_ok, run_underlying' he]
 have hn : 0 ≤ n ∧ n < (m : Int) := ⟨h1, by omega⟩
 rw [if_pos hn]
 simp only [Sem.run_bind, run_sizeOf' h7, Result.andThen_ok, run_part h7 (show n.toNat * τ.size + τ.size ≤ c.length by omega)]
theorem exec_index {ρ : Operand → Value} {t : TypeId} {x i : Operand} {val : Value} (ho : o.op = .index t x i) (hr : (Instr.index t (ρ x) (ρ i)).run P w = .ok val w) : (execOp ρ o).run P w = .ok (.value val) w := by
 simp only [execOp, ho, Sem.run_bind, hr, Result.andThen_ok, Sem.run_pure]
theorem minK_sound {xs : List Operand} {c : Call} (hc : Ctx E.P H S β a w o g) (hs : Sub gv g) (ho : o.op = .call c) (hcal : c.callee = .builtin .min) (hargs : c.args.toList = xs)
  (hk : minK gv o xs some = some us) : OpSound E.P H S β a w o (g.ups us) := by
 unfold minK at hk
 split at hk
 ·rename_i x y
  split at hk
  ·rename_i k m k' n hx hy
   split at hk
   ·rename_i e; subst e
    have ex := evl_eval (int_of hc.rel (hs.sv hx (by simp)) sh_ne)
    have ey := evl_eval (int_of hc.rel (hs.sv hy (by simp)) sh_ne)
    have hargs' : c.args = #[x, y] := Array.toList_inj.1 hargs
    refine DV.int.look hc.rel hc.dead hc.opIn hk ?_
    refine exec_builtinV ho hcal (s := Builtin.min_ c.argTypes o.type #[a.eval x, a.eval y]) (by rw [hargs', show Array.map a.eval #[x, y] = #[a.eval x, a.eval y] by simp]; rfl) ?_
    rw [ex, ey]
    exact run_min
   ·cases hk
  ·cases hk
 ·cases hk
theorem indexK_sound {t : TypeId} {x i : Operand} (hc : Ctx E.P H S β a w o g) (hs : Sub gv g) (ho : o.op = .index t x i)
  (hk : indexK gv o (E.ty t) x i some = some us) : OpSound E.P H S β a w o (g.ups us) := by
 unfold indexK at hk
 split at hk
 ·rename_i s k n e1 hx hi
  have ex := evl_eval (str_of hc.rel (hs.sv hx (by simp)) sh_ne)
  have ei := evl_eval (int_of hc.rel (hs.sv hi (by simp)) sh_ne)
  simp only [Bool.cond_eq_ite] at hk
  split at hk
  ·rename_i h1
   split at hk
   ·rename_i h2
    refine DV.int.look hc.rel hc.dead hc.opIn hk (exec_index ho ?_)
    rw [ex, ei]
    exact run_index_str (ty_str e1) h1 h2
   ·cases hk
  ·cases hk
 ·rename_i m τ m' τ' xs k n e1 hx hi
  split at hk
  ·rename_i hmt
   simp only [Bool.and_eq_true, decide_eq_true_eq] at hmt
   obtain ⟨rfl, rfl⟩ := hmt
   have ei := evl_eval (int_of hc.rel (hs.sv hi (by simp)) sh_ne)
   simp only [Bool.cond_eq_ite] at hk
   split at hk
   ·rename_i h1
    split at hk
    ·rename_i h2
     obtain ⟨e, he, h7⟩ := tyN_arr e1
     have hr : ∃ c, evl (vals a) x = some (valOf (.arr m τ') c) ∧ Rd S w (.arr m τ') xs c := by
      rcases opnd_dat hc.rel (hs.sv hx (by simp)) with ⟨s, rfl, hs'⟩ | ⟨_, c, hcc, hr⟩
      ·obtain ⟨c, hv, hV⟩ := hc.rel.dat hs'
       exact ⟨c, hV, VRel_sh.1 hv⟩
      ·exact ⟨c, hcc, hr⟩
     obtain ⟨c, hcv, hr⟩ := hr
     have ex : a.eval x = .agg c.toArray := evl_eval hcv
     simp only [Rd] at hr
     obtain ⟨hl, hcl, hr⟩ := hr
     have h2' := h2
     simp only [Nat.blt_eq] at h2'
     have hr := hr n.toNat _ (getD_nth (z := τ'.dflt) (by omega))
     refine DV.look (d := ⟨τ', List.getD xs n.toNat τ'.dflt, .sh⟩) ⟨rfl, _, hr, rfl⟩ hc.rel hc.dead hc.opIn hk (exec_index ho ?_)
     rw [ex, ei]
     exact run_index_arr he h7 h1 h2 hcl
    ·cases hk
   ·cases hk
  ·cases hk
 ·cases hk
end
end Go.Rf

end
section
namespace Go.Rf
set_option linter.unusedSectionVars false
variable [T : Laid]
section
variable {P : Program} {H : Nat → Option (List Value)} {N : Nat} {g g' σ : View} {V V' : Nat → Option Value} {w w' : World} {S S' : Nat → Prop} {β β' : Key → Option Nat} {a : Act} {o : Oper}
variable {E : Env} {gv : View} {us : List Up}
theorem eqI_beq (a b : Int) : (a == b) = eqI a b := by
 unfold eqI; rw [Bool.eq_iff_iff]; simp
theorem eqS_beq (a b : List UInt8) : (a == b) = eqS a b := by
 unfold eqS; rw [Bool.eq_iff_iff]; simp
theorem eqS_beq' (a b : List UInt8) : (ByteArray.toList ⟨⟨a⟩⟩ == ByteArray.toList ⟨⟨b⟩⟩) = eqS a b := by
 rw [ByteArray.toList_mk, ByteArray.toList_mk]; exact eqS_beq a b
theorem eq_fields {k m d : Nat} (IH : ∀ (t : TypeId) (τ : Ty) (x y : τ.D) (cx cy : List Value), eqOK P m t = true → tyN P k t = some τ → Rd S w τ x cx → Rd S w τ y cy → (Op.equalIn d t (valOf τ cx) (valOf τ cy)).run P w = .ok (eqD τ x y) w) {cx cy : List Value} :
  ∀ (fs : List Field) (off : Nat) (τ : Ty) (x y : τ.D), off ≤ cx.length → off ≤ cy.length → chain (tyN P k) fs off = some τ → (∀ f ∈ fs, f.name ≠ "_" ∧ eqOK P m f.type = true) → Rd S w τ x (cx.drop off) → Rd S w τ y (cy.drop off) →
   (Op.eqFields d cx.toArray cy.toArray fs).run P w = .ok (eqD τ x y) w
 | [], off, τ, x, y, _, _, hc, hall, hx, hy => by
  simp only [chain, Option.some.injEq] at hc
  subst hc
  simp [Op.eqFields, eqD]
 | f :: fs, off, τ, x, y, ox, oy, hc, hall, hx, hy => by
  simp only [chain] at hc
  split at hc
  ·rename_i b hb
   split at hc
   ·rename_i ho
    have ho : f.offset = off := by simpa [Nat.beq_eq] using ho
    obtain ⟨r, hr, rfl⟩ := Option.map_eq_some_iff.1 hc
    obtain ⟨hn, hk⟩ := hall f (List.mem_cons_self ..)
    simp only [Rd] at hx hy
    have lx := Rd_len hx.1
    have ly := Rd_len hy.1
    have e1 : (cx.drop off).take b.size = win cx off b.size := rfl
    have e2 : (cy.drop off).take b.size = win cy off b.size := rfl
    rw [e1] at hx lx
    rw [e2] at hy ly
    have bx : off + b.size ≤ cx.length := by simp [win] at lx; omega
    have by' : off + b.size ≤ cy.length := by simp [win] at ly; omega
    obtain ⟨k', rfl⟩ : ∃ k', k = k' + 1 := by
     cases k with
     | zero => simp [tyN] at hb
     | succ k' => exact ⟨k', rfl⟩
    have px : (part f.type cx.toArray f.offset).run P w = .ok (valOf b (win cx off b.size)) w := by
     rw [ho]; exact run_part hb bx
    have py : (part f.type cy.toArray f.offset).run P w = .ok (valOf b (win cy off b.size)) w := by
     rw [ho]; exact run_part hb by'
    have hi := IH f.type b x.1 y.1 _ _ hk hb hx.1 hy.1
    have hrest := eq_fields IH fs (off + b.size) r x.2 y.2 bx by' hr (fun g hg => hall g (List.mem_cons_of_mem _ hg)) (by rw [← List.drop_drop]; exact hx.2) (by rw [← List.drop_drop]; exact hy.2)
    simp only [Op.eqFields, hn, ne_eq, not_false_eq_true, if_true, Sem.run_bind, px, py, hi, Result.andThen_ok]
    show _ = Result.ok (eqD b x.1 y.1 && eqD r x.2 y.2) w
    cases eqD b x.1 y.1 with
    | false => simp
    | true => simpa using hrest
   ·cases hc
  ·cases hc
theorem equal_run : ∀ (m k d : Nat) (t : TypeId) (τ : Ty) (x y : τ.D) (cx cy : List Value), eqOK P m t = true → tyN P k t = some τ → m ≤ d → Rd S w τ x cx → Rd S w τ y cy → (Op.equalIn d t (valOf τ cx) (valOf τ cy)).run P w = .ok (eqD τ x y) w
 | 0, _, _, _, _, _, _, _, _, h, _, _, _, _ => by simp [eqOK] at h
 | m + 1, 0, _, _, _, _, _, _, _, _, h, _, _, _ => by simp [tyN] at h
 | m + 1, k + 1, 0, _, _, _, _, _, _, _, _, h, _, _ => by omega
 | m + 1, k + 1, d + 1, t, τ, x, y, cx, cy, hok, ht, hd, hx, hy => by
  obtain ⟨i, u, h1, h2, h3, h4⟩ := tyN_inv ht
  unfold eqOK at hok
  rw [h2] at hok
  unfold TyShape at h4
  cases u <;> simp only [reduceCtorEq, Bool.false_eq_true] at hok h4
  case int j =>
   subst h4
   simp only [Rd] at hx hy
   subst hx; subst hy
   show (Op.equalIn (d + 1) t (.int j x) (.int j y)).run P w = _
   rw [run_equalIn_int w d t j j x y h2]
   exact congrArg (fun z => Result.ok z w) (eqI_beq x y)
  case bool =>
   subst h4
   simp only [Rd] at hx hy
   subst hx; subst hy
   show (Op.equalIn (d + 1) t (.bool x) (.bool y)).run P w = _
   rw [run_equalIn_bool' w d t x y h2]
   cases x <;> cases y <;> rfl
  case string =>
   subst h4
   simp only [Rd] at hx hy
   subst hx; subst hy
   show (Op.equalIn (d + 1) t (.string ⟨⟨x⟩⟩) (.string ⟨⟨y⟩⟩)).run P w = _
   rw [run_equalIn_string w d t _ _ h2]
   exact congrArg (fun z => Result.ok z w) (eqS_beq' x y)
  case struct fs =>
   simp only [Bool.and_eq_true, Bool.not_eq_true', List.all_eq_true, bne_iff_ne, ne_eq] at hok
   have hag : τ.agg = true := by rcases chain_agg h4 with e | ⟨_, _, e⟩ <;> rw [e] <;> rfl
   have hf : P.fieldsOf t = fs := by unfold Program.fieldsOf; rw [h2]
   unfold valOf
   rw [hag]
   show (Op.equalIn (d + 1) t (.agg cx.toArray) (.agg cy.toArray)).run P w = _
   rw [run_equalIn_struct w d t _ _ (by rw [hf]; exact h2) hok.1, hf]
   exact eq_fields (fun t τ x y cx cy e1 e2 e3 e4 => equal_run m k d t τ x y cx cy e1 e2 (by omega) e3 e4) fs.toList 0 τ x y (Nat.zero_le _) (Nat.zero_le _) h4 (fun f hf => ⟨(hok.2 f hf).1, (hok.2 f hf).2⟩) hx hy
theorem binX_sound {op : BinOp} {t tq : TypeId} {x y : Operand} (hc : Ctx E.P H S β a w o g) (hs : Sub gv g) (ho : o.op = .binOp op t x y tq)
  (hk : binX E op t (sv gv x) (sv gv y) (fun d => outp o [] (.dat d) some) = some us) : OpSound E.P H S β a w o (g.ups us) := by
 unfold binX at hk
 split at hk
 ·rename_i A B p A' B' q hx hy
  split at hk
  ·rename_i q' hq
   unfold castD at hq
   split at hq
   ·rename_i e
    have free : ∀ (z : Operand) (τ : Ty) (v : τ.D), sv gv z = .dat ⟨τ, v, .sh⟩ → ∃ c, Rd S w τ v c ∧ a.eval z = valOf τ c := by
     intro z τ v hz
     rcases opnd_dat hc.rel (hs.sv hz (by simp)) with ⟨s, rfl, hs'⟩ | ⟨_, c, hcc, hr⟩
     ·obtain ⟨c, hv, hV⟩ := hc.rel.dat hs'
      rw [VRel_sh] at hv
      exact ⟨c, hv, evl_eval hV⟩
     ·exact ⟨c, hr, evl_eval hcc⟩
    obtain ⟨c1, r1, e1⟩ := free x _ p hx
    obtain ⟨c2, r2, e2⟩ := free y _ q hy
    cases e
    simp only [Option.some.injEq] at hq
    subst hq
    split at hk
    ·rename_i hcond
     obtain ⟨ht, hok, hg⟩ := hcond
     have hrun := equal_run (P := E.P) (S := S) (w := w) 8 8 10000 t _ p q c1 c2 hok ht (by omega) r1 r2
     have hgd : (eqGuard op t x y (.agg c1.toArray) (.agg c2.toArray)).run E.P w = .ok () w := run_eqGuard_agg w op t x y _ _ hg
     have hrun : (Op.equalIn 10000 t (.agg c1.toArray) (.agg c2.toArray)).run E.P w = .ok (eqD (.pair A B) p q) w := hrun
     split at hk
     ·refine DV.bool.look hc.rel hc.dead hc.opIn hk (exec_bin ⟨_, ho⟩ e1 e2 hgd ?_)
      show (binOp .eql t (.agg c1.toArray) (.agg c2.toArray)).run E.P w = _
      rw [run_eql_struct, hrun]; rfl
     ·refine DV.bool.look hc.rel hc.dead hc.opIn hk (exec_bin ⟨_, ho⟩ e1 e2 hgd ?_)
      show (binOp .neq t (.agg c1.toArray) (.agg c2.toArray)).run E.P w = _
      rw [run_neq_struct, hrun]; rfl
     ·cases hk
    ·cases hk
   ·cases hq
  ·cases hk
 ·exact binK_sound hc hs ho hk
theorem nilQ_sound {op : BinOp} {t tq : TypeId} {x y : Operand} (hc : Ctx E.P H S β a w o g) (hs : Sub gv g) (ho : o.op = .binOp op t x y tq) (hy : isNilC y = true)
  (hk : nilQ gv o op (E.ty t) x some = some us) : OpSound E.P H S β a w o (g.ups us) := by
 have hyv : a.eval y = .slice none 0 0 := by
  unfold isNilC at hy
  split at hy
  ·rfl
  ·cases hy
 have key : ∀ (τ τ' : Ty) (z : (Ty.sl τ').D) (f : Fl), E.ty t = some (.sl τ) → dataOf gv (sv gv x) = some ⟨.sl τ', z, f⟩ → ∃ ad l cap e, a.eval x = .slice ad l cap ∧ E.P.underlying t = some (.slice e) ∧ (Nat.beq (List.length z) 0 = false → ad.isNone = false) := by
  intro τ τ' z f h1 h2
  obtain ⟨c, hv, hr⟩ := dataOf_sound hc.rel (dataOf_mono hs h2)
  simp only [Rd] at hr
  obtain ⟨ad, cap, rfl, _, hz⟩ := hr
  obtain ⟨i, u, _, q2, _, q4⟩ := tyN_inv (P := E.P) h1
  unfold TyShape at q4
  cases u <;> simp only [reduceCtorEq, exists_false, and_false] at q4
  case slice e =>
   refine ⟨ad, _, cap, e, evl_eval hv, q2, fun hl => ?_⟩
   rcases hz with rfl | ⟨b, o, cs, rfl, _⟩
   ·cases hl
   ·rfl
  case struct fs =>
   exfalso
   rcases chain_agg q4 with e | ⟨_, _, e⟩ <;> cases e
 unfold nilQ at hk
 have fin : ∀ b : Bool, (execOp a.eval o).run E.P w = .ok (.value (.bool b)) w → outp o [] .unk some = some us → OpSound E.P H S β a w o (g.ups us) := by
  intro b hr hk
  obtain ⟨dd, hdst, rfl⟩ := outp_some hk
  have hd : dd < a.tmps.size := by
   have hi := hc.opIn
   unfold opIn at hi; rw [hdst] at hi
   simp only [Bool.and_eq_true] at hi
   simpa [Nat.blt_eq] using hi.1
  exact look0 hc.rel hc.dead hdst hd hr (by simp only [SVRel]; exact ⟨b, by simp [upd]⟩)
 split at hk
 ·rename_i h1 h2
  obtain ⟨ad, l, cap, e, ex, hu, hn⟩ := key _ _ _ _ h1 h2
  have hr := exec_bin (P := E.P) (w := w) (o := o) (ρ := a.eval) (val := .bool ad.isNone) ⟨_, ho⟩ ex hyv (by simp [eqGuard]) (by
   simp only [binOp]
   simp [run_equal_slice_nil w t e ad l cap hu])
  revert hk
  cases hb : Nat.beq _ 0 with
  | true => exact fun hk => fin _ hr hk
  | false => exact fun hk => DV.bool.look hc.rel hc.dead hc.opIn hk (by rw [← hn hb]; exact hr)
 ·rename_i h1 h2
  obtain ⟨ad, l, cap, e, ex, hu, hn⟩ := key _ _ _ _ h1 h2
  have hr := exec_bin (P := E.P) (w := w) (o := o) (ρ := a.eval) (val := .bool (!ad.isNone)) ⟨_, ho⟩ ex hyv (by simp [eqGuard]) (by
   simp only [binOp]
   simp [run_equal_slice_nil w t e ad l cap hu])
  revert hk
  cases hb : Nat.beq _ 0 with
  | true => exact fun hk => fin _ hr hk
  | false => exact fun hk => DV.bool.look hc.rel hc.dead hc.opIn hk (by rw [show true = !ad.isNone by rw [hn hb]; rfl]; exact hr)
 ·cases hk
end
end Go.Rf

end
section
namespace Go.Rf
set_option linter.unusedSectionVars false
variable [T : Laid]
section
variable {P : Program} {H : Nat → Option (List Value)} {N : Nat} {g g' σ : View} {V V' : Nat → Option Value} {w w' : World} {S S' : Nat → Prop} {β β' : Key → Option Nat} {a : Act} {o : Oper}
variable {E : Env} {gv : View} {us : List Up}
theorem opIn_dst {n d : Nat} (h : opIn n o = true) (ho : o.dst = some d) : d < n := by
 unfold opIn at h; rw [ho] at h
 simp only [Bool.and_eq_true] at h
 simpa [Nat.blt_eq] using h.1
theorem Rel.land {g1 : View} {V1 : Nat → Option Value} {n d : Nat} {e : Dat} {val : Value} (h : Rel H N g1 V1 w S β) (hn : (g1 n).sv = .dat e) (hN : N ≤ n) (hval : V1 n = some val)
  (hg : ∀ i, i < N → g1 i = g i) (hD : DeadFrom N g) (hV : ∀ i, i < N → V1 i = V i) (hd : d < N) : Rel H N (g.up (.put d (.dat e))) (upd V d val) w S (Rf.rekey β [n] [d]) := by
 obtain ⟨c, hv, hc⟩ := h.dat hn
 have h1 : Rel H N (g1.up (.put n .dead)) V1 w S β := h.kill fun _ _ => rfl
 refine h1.finish (V1 := V1) (fun i hi => ?_) hD hV hd (h1.sane.rekey _ _) (fun b hb => ⟨hb, rfl⟩) (fun j s b hj ha hb => ⟨?_, rfl⟩) ⟨c, VRel_rekey hv, ?_⟩
 ·rw [put_at (by omega)]; exact hg i hi
 ·have hjn : j ≠ n := fun e' => by subst e'; exact ha (by rw [put_self])
  rw [rekey_else (strip_head hj) (strip_head hjn)]; exact hb
 ·rw [hval] at hc
  simp only [upd, if_true, Option.some.injEq] at hc ⊢
  exact hc
theorem upN_at {n i : Nat} {d : Dat} (h : i ≠ n) : upN g n d i = g i := put_at h
theorem upN_self {n : Nat} {d : Dat} : (upN g n d n).sv = .dat d := by rw [upN, put_self]
theorem take_alive {mv : Bool} {t : Option Ty} {x : Operand} {d : Dat} {us : List Up} (ht : take g mv t x (sv g x) = some (d, us)) : ∀ u ∈ us, (g u.slot).sv ≠ .dead := by
 cases hv : sv g x with
 | dead => rw [hv] at ht; simp [take] at ht
 | und => rw [hv] at ht; simp [take] at ht
 | unk => rw [hv] at ht; simp [take] at ht
 | tup d => rw [hv] at ht; simp [take] at ht
 | adr _ _ _ _ => rw [hv] at ht; simp [take] at ht
 | nils =>
  rw [hv] at ht
  simp only [take] at ht
  split at ht
  ·simp only [Option.some.injEq, Prod.mk.injEq] at ht; rw [← ht.2]; simp
  ·cases ht
 | clo f rs =>
  rw [hv] at ht
  cases rs with
  | nil => simp only [take, Option.some.injEq, Prod.mk.injEq] at ht; rw [← ht.2]; simp
  | cons a rs => simp [take] at ht
 | dat e =>
  rw [hv] at ht
  simp only [take] at ht
  split at ht
  ·simp only [Option.some.injEq, Prod.mk.injEq] at ht; rw [← ht.2]; simp
  ·split at ht
   ·split at ht
    ·rename_i s
     simp only [Option.some.injEq, Prod.mk.injEq] at ht; rw [← ht.2]
     have : (g s).sv = .dat e := hv
     simp [Up.slot, this]
    ·cases ht
   ·cases ht
 | als r p c s =>
  rw [hv] at ht
  simp only [take] at ht
  split at ht
  ·split at ht
   ·rename_i e he
    split at ht
    ·split at ht
     ·simp only [Option.some.injEq, Prod.mk.injEq] at ht; rw [← ht.2]; simp
     ·split at ht
      ·split at ht <;> simp only [Option.some.injEq, Prod.mk.injEq] at ht <;> rw [← ht.2] <;> simp [Up.slot, he]
      ·cases ht
    ·cases ht
   ·cases ht
  ·cases ht
 | pend r p c s u e =>
  rw [hv] at ht
  simp only [take] at ht
  split at ht
  ·rename_i j
   split at ht
   ·split at ht
    ·rename_i e' he
     simp only [Option.some.injEq, Prod.mk.injEq] at ht; rw [← ht.2]
     have : (g j).sv = _ := hv
     simp [Up.slot, he, this]
    ·cases ht
   ·cases ht
  ·cases ht
theorem take_op {mv : Bool} {t : Option Ty} {x : Operand} {d : Dat} {dd : Nat} (hc : Ctx P H S β a w o g) (hs : Sub gv g) (ht : take gv mv t x (sv gv x) = some (d, us)) (ho : o.dst = some dd)
  (hr : ∀ v, a.eval x = v → (execOp a.eval o).run P w = .ok (.value v) w) : OpSound P H S β a w o (g.ups (us ++ [.put dd (.dat d)])) := by
 obtain ⟨ht', _⟩ := take_mono hs ht
 obtain ⟨S1, β1, c, h1, h2, h3, h4⟩ := take_sound hc.rel ht' (n := a.tmps.size) (hc.dead _ (Nat.le_refl _)) (Nat.le_refl _)
 intro K Q hK
 have hd := opIn_dst hc.opIn ho
 have hD : DeadFrom a.tmps.size (g.ups us) := hc.dead.ups fun u hu => hc.dead.lt (take_alive ht' u hu)
 refine wp_value (hr _ (evl_eval h3)) (hK _ _ S1 (rekey β1 [a.tmps.size] [dd]) put_size put_defers ?_ (h2.trans (.rekey _ _)))
 rw [ho, vals_put hd, ups_append]
 exact h1.land upN_self (Nat.le_refl _) (by simp [upd]) (fun i hi => upN_at (by omega)) hD (fun i hi => by simp only [upd]; rw [if_neg (by omega)]) hd
theorem als_put {d r c s : Nat} {p : List PS} {v : SV} {val : Value} (h0 : r < N) (h1 : c ≤ (g r).c) (h2 : s ≤ (g r).s) (h : okA g r c s = true → AlsB g V w r p (some val)) :
  SVRel H N (g.up (.put d v)) (upd V d val) w S β d (.als r p c s) := by
 refine ⟨h0, ?_⟩
 by_cases e : r = d
 ·subst e
  refine ⟨by rw [put_self]; simp; omega, by rw [put_self]; simp; omega, fun ok => ?_⟩
  have := (okA_iff.1 ok).2
  rw [put_self] at this; simp at this; omega
 ·refine ⟨by rw [put_at e]; exact h1, by rw [put_at e]; exact h2, fun ok dr hdr => ?_⟩
  rw [put_at e] at hdr
  rw [Sub.okA (put_at e)] at ok
  obtain ⟨cr, d', L, c', k1, k⟩ := h ok dr hdr
  refine ⟨cr, d', L, c', by simp only [upd]; rw [if_neg e]; exact k1, ?_⟩
  simpa [upd] using k
theorem adr_put {d r c s : Nat} {p : List PS} {v : SV} {val : Value} (h0 : r < N) (h1 : c ≤ (g r).c) (h2 : s ≤ (g r).s) (h : okB g r p c s = true → AdrB g V w r p (some val)) :
  SVRel H N (g.up (.put d v)) (upd V d val) w S β d (.adr r p c s) := by
 refine ⟨h0, ?_⟩
 by_cases e : r = d
 ·subst e
  refine ⟨by rw [put_self]; simp; omega, by rw [put_self]; simp; omega, fun ok => ?_⟩
  have := (okB_iff.1 ok).1
  rw [put_self] at this; simp at this; omega
 ·refine ⟨by rw [put_at e]; exact h1, by rw [put_at e]; exact h2, fun ok dr hdr => ?_⟩
  rw [put_at e] at hdr
  rw [Sub.okB (put_at e)] at ok
  obtain ⟨cr, t, b, o, k1, k⟩ := h ok dr hdr
  refine ⟨cr, t, b, o, by simp only [upd]; rw [if_neg e]; exact k1, ?_⟩
  simpa [upd] using k
theorem clo_put {d : Nat} {f : FuncId} {rs : List (Nat × Nat)} {v : SV} {val : Value} (h1 : ∀ x ∈ rs, x.1 < N ∧ x.2 ≤ (g x.1).s) (h : (∀ x ∈ rs, (g x.1).s = x.2) → CloB V f rs (some val)) :
  SVRel H N (g.up (.put d v)) (upd V d val) w S β d (.clo f rs) := by
 have hmem : ∀ x ∈ rs, x.2 ≤ ((g.up (.put d v)) x.1).s ∧ (((g.up (.put d v)) x.1).s = x.2 → x.1 ≠ d ∧ (g x.1).s = x.2) := fun x hx => by
  have := (h1 x hx).2
  by_cases e : x.1 = d
  ·rw [e, put_self]
   rw [e] at this
   simp only
   exact ⟨by omega, fun h => by omega⟩
  ·rw [put_at e]; exact ⟨this, fun h => ⟨e, h⟩⟩
 refine ⟨fun x hx => ⟨(h1 x hx).1, (hmem x hx).1⟩, fun hall vs hvs => ?_⟩
 have : (upd V d val) d = some val := by simp [upd]
 rw [this]
 refine h (fun x hx => ((hmem x hx).2 (hall x hx)).2) vs ?_
 rw [← hvs]
 refine List.map_congr_left fun x hx => ?_
 simp only [upd]; rw [if_neg ((hmem x hx).2 (hall x hx)).1]
theorem DeadFrom.root (hD : DeadFrom N g) {r : Nat} {e : Dat} (he : (g r).sv = .dat e) : r < N := hD.lt (by rw [he]; simp)
theorem alias_put {d r : Nat} {p : List PS} {v : SV} {val : Value} {e dd : Dat} {cr c : List Value} {L : Loc} (hr : r < N) (he : (g r).sv = .dat e) (hg : getP p e.t e.f e.x = some dd) (hn : dd.f.base ≠ .gone) (hb : inB p e.t e.x)
  (hV : V r = some (valOf e.t cr)) (hl : cr.length = e.t.size) (hw : walk w e.t (.reg cr) p = some (dd.t, L)) (hc : cellsAt w dd.t.size L = some c) (hv : val = valOf dd.t c) :
  SVRel H N (g.up (.put d v)) (upd V d val) w S β d (alias g (r, p)) := by
 refine als_put hr (Nat.le_refl _) (Nat.le_refl _) fun _ dr hdr => ?_
 rw [he] at hdr
 simp only [SV.dat.injEq] at hdr
 subst hdr
 exact ⟨cr, dd, L, c, hV, hl, hg, hn, hb, hw, hc, by rw [hv]⟩
theorem ptr_value {k : Key} {t : Ty} {f : Fl} {y : (Ty.ptr t).D} {c : List Value} (hf : f.base ≠ .gone) (h : VRel S β H w k (.ptr t) f y c) : ∃ b, c = [.pointer (some ⟨b, 0, none⟩)] := by
 simp only [VRel] at h
 replace h := h.2
 cases hb : f.base with
 | own e => rw [hb] at h; obtain ⟨b, cs, rfl, _⟩ := h; exact ⟨b, rfl⟩
 | gone => exact absurd hb hf
 | _ => rw [hb] at h; simp only [Rd] at h; obtain ⟨b, cs, rfl, _⟩ := h; exact ⟨b, rfl⟩
theorem run_nil {x : Operand} {ad : Addr} (ho : o.op = .nilCheck x) (hx : a.eval x = .pointer (some ad)) : (execOp a.eval o).run P w = .ok (.value (.pointer (some ad))) w := by
 simp [execOp, ho, hx]
theorem run_move {x : Operand} (ho : o.op = .move x ∨ o.op = .assign x) : (execOp a.eval o).run P w = .ok (.value (a.eval x)) w := by
 rcases ho with ho | ho <;> simp [execOp, ho]
theorem look_als {i r c s d : Nat} {p : List PS} {val : Value} (hc : Ctx P H S β a w o g) (hi : (g i).sv = .als r p c s) (hv : vals a i = some val) (ho : o.dst = some d)
  (hr : (execOp a.eval o).run P w = .ok (.value val) w) : OpSound P H S β a w o (g.ups [.put d (.als r p c s)]) := by
 have hss := hc.rel.slots i
 rw [hi] at hss
 obtain ⟨h0, h1, h2, h3⟩ := hss
 exact look0 hc.rel hc.dead ho (opIn_dst hc.opIn ho) hr (als_put h0 h1 h2 (by rw [hv] at h3; exact h3))
theorem look_adr {i r c s d : Nat} {p : List PS} {val : Value} (hc : Ctx P H S β a w o g) (hi : (g i).sv = .adr r p c s) (hv : vals a i = some val) (ho : o.dst = some d)
  (hr : (execOp a.eval o).run P w = .ok (.value val) w) : OpSound P H S β a w o (g.ups [.put d (.adr r p c s)]) := by
 have hss := hc.rel.slots i
 rw [hi] at hss
 obtain ⟨h0, h1, h2, h3⟩ := hss
 exact look0 hc.rel hc.dead ho (opIn_dst hc.opIn ho) hr (adr_put h0 h1 h2 (by rw [hv] at h3; exact h3))
theorem als_val {i r c s : Nat} {p : List PS} (h : Rel H N g V w S β) (hi : (g i).sv = .als r p c s) (hok : okA g r c s = true) {e d : Dat} (he : (g r).sv = .dat e) (hg : getP p e.t e.f e.x = some d) : ∃ v, V i = some v := by
 obtain ⟨_, _, _, _, _, c', _, _, _, _, _, _, k7⟩ := h.als hi hok he hg
 exact ⟨_, k7⟩
theorem eval_vals {s : Nat} (hs : s < a.tmps.size) : vals a s = some (a.eval (.tmp s)) := by
 simp [vals, Act.eval, hs]
theorem look_alias {s d : Nat} {e : Dat} {val : Value} (hc : Ctx P H S β a w o g) (hs : (g s).sv = .dat e) (hn : e.f.base ≠ .gone) (hv : vals a s = some val) (ho : o.dst = some d)
  (hr : (execOp a.eval o).run P w = .ok (.value val) w) : OpSound P H S β a w o (g.ups [.put d (alias g (s, []))]) := by
 obtain ⟨c, hvr, hV⟩ := hc.rel.dat hs
 have hl := VRel_len hvr
 refine look0 hc.rel hc.dead ho (opIn_dst hc.opIn ho) hr ?_
 rw [hv] at hV
 exact alias_put (hc.dead.root hs) hs rfl hn (by simp [inB]) (hv.trans hV) hl rfl (by simp [cellsAt, hl]) (Option.some.inj hV)
theorem look_ptr {s d : Nat} {t : Ty} {y : t.D} {f F : Fl} {val : Value} (hc : Ctx P H S β a w o g) (hF : F.base = .own f) (hs : (g s).sv = .dat ⟨.ptr t, y, F⟩) (hv : vals a s = some val) (ho : o.dst = some d)
  (hr : (execOp a.eval o).run P w = .ok (.value val) w) : OpSound P H S β a w o (g.ups [.put d (.adr s [.der] 0 (g s).s)]) := by
 obtain ⟨c, hvr, hV⟩ := hc.rel.dat hs
 refine look0 hc.rel hc.dead ho (opIn_dst hc.opIn ho) hr (adr_put (hc.dead.root hs) (Nat.zero_le _) (Nat.le_refl _) fun _ dr hdr => ?_)
 rw [hs] at hdr
 cases hdr
 have hvr' := hvr
 simp only [VRel, hF] at hvr'
 obtain ⟨_, b, cs, rfl, _⟩ := hvr'
 rw [hv] at hV
 exact ⟨_, t, b, 0, hv.trans hV, VRel_len hvr, by simp [walk, stepL, cellsAt], hV, by simp [inB], fun h => by simp [boxed, jumps] at h⟩
theorem moveK_sound {mv : Bool} {t : Option Ty} {x : Operand} (hc : Ctx P H S β a w o g) (hs : Sub gv g) (hm : o.op = .move x)
  (hk : moveK gv mv o t x some = some us) : OpSound P H S β a w o (g.ups us) := by
 have hr := run_move (P := P) (w := w) (a := a) (.inl hm)
 unfold moveK at hk
 split at hk
 ·rename_i s hs1
  obtain ⟨dd, ho, rfl⟩ := outp_some hk
  unfold softS at hs1
  split at hs1
  ·rename_i s'
   split at hs1
   ·rename_i hp
    cases hs1
    simp only [Bool.and_eq_true] at hp
    obtain ⟨t', ht'⟩ := Option.isSome_iff_exists.1 hp.2
    unfold ptrOwn at ht'
    split at ht'
    ·rename_i t1 y f hx
     have hsub : g s = gv s := hs.get hx (by simp)
     have hs' : (g s).sv = .dat ⟨.ptr t1, y, .own f⟩ := by rw [hsub]; exact hx
     rw [← hsub]
     exact look_ptr hc rfl hs' (eval_vals (hc.dead.root hs')) ho hr
    ·rename_i t1 y k f hx
     have hsub : g s = gv s := hs.get hx (by simp)
     have hs' : (g s).sv = .dat ⟨.ptr t1, y, .pin k (.own f)⟩ := by rw [hsub]; exact hx
     rw [← hsub]
     exact look_ptr hc rfl hs' (eval_vals (hc.dead.root hs')) ho hr
    ·cases ht'
   ·cases hs1
  ·cases hs1
 rename_i hnn; clear hnn
 split at hk
 ·rename_i d hx
  have hx' := hs.sv hx (by simp)
  split at hk
  ·rename_i hf
   have hf := setD_of_free hf
   rcases opnd_dat hc.rel hx' with ⟨s, rfl, hs'⟩ | ⟨_, c, hcc, hrd⟩
   ·obtain ⟨c, hv, hV⟩ := hc.rel.dat hs'
    rw [hf, VRel_sh] at hv
    exact DV.look ⟨hf, c, hv, evl_eval (x := .tmp s) hV⟩ hc.rel hc.dead hc.opIn hk hr
   ·exact DV.look ⟨hf, c, hrd, evl_eval hcc⟩ hc.rel hc.dead hc.opIn hk hr
  ·split at hk
   ·cases hk
   ·rename_i hg
    split at hk
    ·rename_i s
     obtain ⟨dd, ho, rfl⟩ := outp_some hk
     have hsub : g s = gv s := hs.get hx (by simp)
     have hs' : (g s).sv = .dat d := by rw [hsub]; exact hx
     have := look_alias hc hs' (isGone_base (by simpa using hg)) (eval_vals (hc.dead.root hs')) ho hr
     have e : alias gv (s, []) = alias g (s, []) := by simp [alias, hsub]
     rw [e]; exact this
    ·cases hk
 ·rename_i r p c s hx
  obtain ⟨dd, ho, rfl⟩ := outp_some hk
  obtain ⟨i, rfl, hi⟩ := opnd_tmp (hs.sv hx (by simp)) (by simp) (by simp) (by simp)
  exact look_als hc hi (eval_vals (hc.dead.lt (by rw [hi]; simp))) ho hr
 ·rename_i r p c s hx
  obtain ⟨dd, ho, rfl⟩ := outp_some hk
  obtain ⟨i, rfl, hi⟩ := opnd_tmp (hs.sv hx (by simp)) (by simp) (by simp) (by simp)
  exact look_adr hc hi (eval_vals (hc.dead.lt (by rw [hi]; simp))) ho hr
 ·rename_i f rs hx
  obtain ⟨dd, ho, rfl⟩ := outp_some hk
  obtain ⟨i, rfl, hi⟩ := opnd_tmp (hs.sv hx (by simp)) (by simp) (by simp) (by simp)
  have hss := hc.rel.slots i
  rw [hi] at hss
  obtain ⟨h1, h2⟩ := hss
  refine look0 hc.rel hc.dead ho (opIn_dst hc.opIn ho) hr (clo_put h1 ?_)
  rw [eval_vals (hc.dead.lt (by rw [hi]; simp))] at h2
  exact h2
 ·rename_i r p c s u d hx
  split at hk
  ·rename_i j e ho
   split at hk
   ·cases hk
   ·rename_i hje
    simp only [Nat.beq_eq] at hje
    simp only [Option.some.injEq] at hk; subst hk
    have hj : (g j).sv = .pend r p c s u d := by
     have := hs.sv hx (by simp)
     exact this
    have hjN := hc.dead.lt (show (g j).sv ≠ .dead by rw [hj]; simp)
    have hd := opIn_dst hc.opIn ho
    have hss := hc.rel.slots j
    rw [hj] at hss
    obtain ⟨h0, h1, h2, h3, h4⟩ := hss
    intro K Q hK
    refine wp_value hr (hK _ _ S (rekey β [j] [e]) put_size put_defers ?_ (.rekey _ _))
    rw [ho, vals_put hd]
    have hk1 : Rel H a.tmps.size (g.up (.put j .dead)) (vals a) w S β := hc.rel.kill fun _ _ => rfl
    refine hk1.finish (fun _ _ => rfl) (hc.dead.up hjN) (fun _ _ => rfl) hd (hc.rel.sane.rekey _ _) (fun b hb => ⟨hb, rfl⟩) (fun i s b hi ha hb => ⟨?_, rfl⟩) ?_
    ·have hij : i ≠ j := fun e' => by subst e'; exact ha (by rw [put_self])
     rw [rekey_else (strip_head hi) (strip_head hij)]; exact hb
    ·have hrj : ∀ dr, (g r).sv = .dat dr → r ≠ j := fun dr hdr e' => by rw [e', hj] at hdr; cases hdr
     refine ⟨h0, ?_⟩
     by_cases hre : r = e
     ·subst hre
      rw [put_self]
      have hh : (g.up (.put j .dead)) r = g r := put_at (fun e' => hje e'.symm)
      rw [hh]
      refine ⟨by simp; omega, by simp; omega, by simp; omega, fun ok => ?_⟩
      have := (okU_iff.1 ok).2
      rw [put_self, hh] at this; simp at this; omega
     ·rw [put_at hre]
      by_cases hrj' : r = j
      ·subst hrj'
       rw [put_self]
       refine ⟨by simp; omega, by simp; omega, by simp; omega, fun ok => ?_⟩
       intro dr hdr
       rw [put_at hre, put_self] at hdr; simp at hdr
      ·have hh : (g.up (.put j .dead)) r = g r := put_at hrj'
       rw [hh]
       refine ⟨h1, h2, h3, fun ok dr hdr => ?_⟩
       have hh2 : ((g.up (.put j .dead)).up (.put e (.pend r p c s u d))) r = g r := by rw [put_at hre, hh]
       rw [Sub.okU hh2] at ok
       rw [hh2] at hdr
       obtain ⟨k1, β2, cc, k2, k3, k4⟩ := h4 ok dr hdr
       rw [eval_vals hjN] at k4
       refine ⟨k1, ?_⟩
       have e4 : (upd (vals a) e (a.eval (.tmp j))) e = some (valOf d.t cc) := by simp only [upd, if_true]; exact k4
       have hother : ∀ s b, β (r :: s) = some b → rekey β [j] [e] (r :: s) = some b := fun s b hb => by
        rw [rekey_else (strip_head hre) (strip_head hrj')]; exact hb
       rcases k2 with rfl | ⟨b, hb, rfl⟩
       ·exact ⟨_, cc, .inl rfl, VRel_trans (fun b hb => ⟨hb, rfl⟩) (fun s b hb => ⟨hother _ _ (by simpa using hb), rfl⟩) k3, e4⟩
       ·refine ⟨_, cc, .inr ⟨b, ?_, rfl⟩, VRel_trans (fun b hb => ⟨hb, rfl⟩) (fun s b2 hb2 => ⟨?_, rfl⟩) k3, e4⟩
        ·have := rekey_dst (β := β) (src := [j]) (dst := [e]) (s := [])
         simp only [List.append_nil] at this
         rw [this]; exact hb
        ·unfold repl at hb2 ⊢
         split at hb2
         ·rename_i e5; rw [if_pos e5]; exact hb2
         ·rename_i e5
          rw [if_neg e5, if_neg (by simp [hre])]
          split at hb2
          ·cases hb2
          ·exact hother _ _ (by simpa using hb2)
  ·cases hk
 ·rename_i hx
  split at hk
  ·rename_i τ
   obtain ⟨dd, ho, rfl⟩ := outp_some hk
   have hxv : a.eval x = .slice none 0 0 := by
    rcases opnd_nils (hs.sv hx (by simp)) with ⟨s, rfl, h⟩ | rfl
    ·have := hc.rel.slots s
     rw [h] at this; exact this.elim
    ·rfl
   rw [hxv] at hr
   refine look0 hc.rel hc.dead ho (opIn_dst hc.opIn ho) hr ⟨[.slice none 0 0], ?_, by simp [upd, valOf, Ty.agg]⟩
   simp only [VRel, Fl.base, Pins, Fl.pins]
   exact ⟨by simp, none, 0, rfl, by simp, .inl rfl⟩
  ·cases hk
 ·rename_i d hx
  split at hk
  ·rename_i j e ho
   split at hk
   ·cases hk
   ·rename_i hje
    simp only [Nat.beq_eq] at hje
    simp only [Option.some.injEq] at hk; subst hk
    have hj : (g j).sv = .tup d := hs.sv hx (by simp)
    have hjN := hc.dead.lt (show (g j).sv ≠ .dead by rw [hj]; simp)
    have hd := opIn_dst hc.opIn ho
    have hss := hc.rel.slots j
    rw [hj] at hss
    obtain ⟨c, hv, hV⟩ := hss
    intro K Q hK
    refine wp_value hr (hK _ _ S (rekey β [j] [e]) put_size put_defers ?_ (.rekey _ _))
    rw [ho, vals_put hd]
    have hk1 : Rel H a.tmps.size (g.up (.put j .dead)) (vals a) w S β := hc.rel.kill fun _ _ => rfl
    refine hk1.finish (fun _ _ => rfl) (hc.dead.up hjN) (fun _ _ => rfl) hd (hc.rel.sane.rekey _ _) (fun b hb => ⟨hb, rfl⟩) (fun i s b hi ha hb => ⟨?_, rfl⟩) ?_
    ·have hij : i ≠ j := fun e' => by subst e'; exact ha (by rw [put_self])
     rw [rekey_else (strip_head hi) (strip_head hij)]; exact hb
    ·refine ⟨c, VRel_rekey hv, ?_⟩
     simp only [upd, if_true]
     rw [eval_vals hjN] at hV; exact hV
  ·cases hk
 ·cases hk
theorem nilK_sound {x : Operand} (hc : Ctx P H S β a w o g) (hs : Sub gv g) (hm : o.op = .nilCheck x)
  (hk : nilK gv o x some = some us) : OpSound P H S β a w o (g.ups us) := by
 unfold nilK at hk
 split at hk
 ·rename_i r p c s hx
  split at hk
  ·rename_i hok
   simp only [Bool.and_eq_true] at hok
   obtain ⟨dd, ho, rfl⟩ := outp_some hk
   obtain ⟨i, rfl, hi⟩ := opnd_tmp (hs.sv hx (by simp)) (by simp) (by simp) (by simp)
   have hss := hc.rel.slots i
   rw [hi] at hss
   obtain ⟨h0, h1, h2, h3⟩ := hss
   obtain ⟨hok, hdat⟩ := hok
   unfold isDat at hdat
   split at hdat
   ·rename_i dr hdr
    have hr := hs.get hdr (by simp)
    obtain ⟨cr, t, b, oo, k1, k2, k3, k4, _⟩ := h3 (by rw [Sub.okB hr]; exact hok) dr (by rw [hr]; exact hdr)
    exact look_adr hc hi k4 ho (run_nil hm (evl_eval (x := .tmp i) k4))
   ·cases hdat
  ·cases hk
 ·rename_i r p c s hx
  split at hk
  ·rename_i hok
   split at hk
   ·rename_i t y f hat
    obtain ⟨dd, ho, rfl⟩ := outp_some hk
    obtain ⟨i, rfl, hi⟩ := opnd_tmp (hs.sv hx (by simp)) (by simp) (by simp) (by simp)
    obtain ⟨hat', hr⟩ := hs.atP hat
    obtain ⟨e, he, hg⟩ := atP_some hat'
    obtain ⟨_, _, hn, cr, L, c', _, _, _, _, _, k6, k7⟩ := hc.rel.als hi (by rw [Sub.okA hr]; exact hok) he hg
    obtain ⟨b, rfl⟩ := ptr_value hn k6
    exact look_als hc hi k7 ho (run_nil hm (evl_eval (x := .tmp i) k7))
   ·cases hk
  ·cases hk
 ·rename_i t y f hx
  have hx' := hs.sv hx (by simp)
  split at hk
  ·rename_i hf
   have hf := setD_of_free hf
   subst hf
   rcases opnd_dat hc.rel hx' with ⟨s, rfl, hs'⟩ | ⟨_, c, hcc, hrd⟩
   ·obtain ⟨c, hv, hV⟩ := hc.rel.dat hs'
    have hv0 := hv
    rw [VRel_sh] at hv
    obtain ⟨b, rfl⟩ := ptr_value sh_ne hv0
    exact DV.look (d := ⟨.ptr t, y, .sh⟩) ⟨rfl, _, hv, rfl⟩ hc.rel hc.dead hc.opIn hk (run_nil hm (evl_eval (x := .tmp s) hV))
   ·obtain ⟨b, rfl⟩ := ptr_value (H := H) (β := β) (k := []) sh_ne (VRel_sh.2 hrd)
    exact DV.look (d := ⟨.ptr t, y, .sh⟩) ⟨rfl, _, hrd, rfl⟩ hc.rel hc.dead hc.opIn hk (run_nil hm (evl_eval hcc))
  ·split at hk
   ·cases hk
   ·rename_i hg
    split at hk
    ·rename_i s
     obtain ⟨dd, ho, rfl⟩ := outp_some hk
     have hsub : g s = gv s := hs.get hx (by simp)
     have hs' : (g s).sv = .dat ⟨.ptr t, y, f⟩ := by rw [hsub]; exact hx
     obtain ⟨c, hv, hV⟩ := hc.rel.dat hs'
     obtain ⟨b, rfl⟩ := ptr_value (isGone_base (by simpa using hg)) hv
     have := look_alias hc hs' (isGone_base (by simpa using hg)) hV ho (run_nil hm (evl_eval (x := .tmp s) hV))
     have e : alias gv (s, []) = alias g (s, []) := by simp [alias, hsub]
     rw [e]; exact this
    ·cases hk
 ·cases hk
end
end Go.Rf

end
section
namespace Go.Rf
set_option linter.unusedSectionVars false
variable [T : Laid]
section
variable {P : Program} {H : Nat → Option (List Value)} {N : Nat} {g g' σ : View} {V V' : Nat → Option Value} {w w' : World} {S S' : Nat → Prop} {β β' : Key → Option Nat} {a : Act} {o : Oper}
variable {E : Env} {gv : View} {us : List Up}
theorem loadK_sound {t : TypeId} {x : Operand} (hc : Ctx E.P H S β a w o g) (hs : Sub gv g) (hm : o.op = .load t x)
  (hk : loadK gv o (E.ty t) x some = some us) : OpSound E.P H S β a w o (g.ups us) := by
 unfold loadK at hk
 split at hk
 ·rename_i q hq
  split at hk
  ·rename_i d hat
   split at hk
   ·rename_i hcond
    simp only [Bool.and_eq_true, decide_eq_true_eq, Bool.not_eq_true'] at hcond
    obtain ⟨hty, hgn⟩ := hcond
    have hn := isGone_base hgn
    obtain ⟨hq', hat', hr⟩ := target_mono hs hq hat
    obtain ⟨e, cr, b, oo, he, hg, hb, hV, hl, hw, hx, _⟩ := target_sound hc.rel hq' hat'
    obtain ⟨cr', L, c, k1, k2, k3, k4, k5, k6⟩ := hc.rel.place he hg hb hn
    have := valOf_inj (Option.some.inj (k1.symm.trans hV)) k2 hl
    subst this
    rw [hw] at k4
    simp only [Option.some.injEq, Prod.mk.injEq, true_and] at k4
    subst k4
    have hrun : (execOp a.eval o).run E.P w = .ok (.value (valOf d.t c)) w := by
     simp only [execOp, hm, evl_eval hx, Instr.loadAt, Instr.sureAddr, Sem.run_bind, Sem.run_pure, Result.andThen_ok, run_loadVar' hty k5]
    split at hk
    ·rename_i hf
     have hf := setD_of_free hf
     rw [hf, VRel_sh] at k6
     exact DV.look ⟨hf, c, k6, rfl⟩ hc.rel hc.dead hc.opIn hk hrun
    ·obtain ⟨dd, ho, rfl⟩ := outp_some hk
     have ea : alias gv q = alias g q := by simp [alias, hr]
     rw [ea]
     exact look0 hc.rel hc.dead ho (opIn_dst hc.opIn ho) hrun (alias_put (hc.dead.root he) he hg hn hb hV hl hw k5 rfl)
   ·cases hk
  ·cases hk
 ·cases hk
theorem look_addr {r : Nat} {p : List PS} {e d : Dat} {cr : List Value} {b oo dd : Nat} (hc : Ctx P H S β a w o g) (he : (g r).sv = .dat e) (hV : vals a r = some (valOf e.t cr)) (hl : cr.length = e.t.size)
  (hw : walk w e.t (.reg cr) p = some (d.t, .mem b oo)) (hb : inB p e.t e.x) (hg : getP p e.t e.f e.x = some d) (hn : boxed p = true ∨ d.f.base ≠ .gone) (ho : o.dst = some dd)
  (hr : (execOp a.eval o).run P w = .ok (.value (.pointer (some ⟨b, oo, none⟩))) w) : OpSound P H S β a w o (g.ups [.put dd (addr g (r, p))]) := by
 refine look0 hc.rel hc.dead ho (opIn_dst hc.opIn ho) hr ?_
 refine adr_put (hc.dead.root he) (Nat.le_refl _) (Nat.le_refl _) fun _ dr hdr => ?_
 rw [he] at hdr
 simp only [SV.dat.injEq] at hdr
 subst hdr
 exact ⟨cr, _, b, oo, hV, hl, hw, rfl, hb, fun hbx => ⟨d, hg, hn.resolve_left (by rw [hbx]; simp)⟩⟩
theorem chain_walk {ty : TypeId → Option Ty} : ∀ {i : Nat} {fs : List Field} {off : Nat} {τ : Ty} {f : Fl} {x : τ.D} {d : Dat} {b o : Nat}, chain ty fs off = some τ → getP (fieldPath i) τ f x = some d →
  ∃ fl, fs[i]? = some fl ∧ ty fl.type = some d.t ∧ off ≤ fl.offset ∧ walk w τ (.mem b o) (fieldPath i) = some (d.t, .mem b (o + (fl.offset - off))) ∧ inB (fieldPath i) τ x
 | i, [], off, τ, f, x, d, b, o, h, hg => by
  simp only [chain, Option.some.injEq] at h; subst h
  cases i <;> simp [fieldPath, getP] at hg
 | i, fl :: fs, off, τ, f, x, d, b, o, h, hg => by
  simp only [chain] at h
  split at h
  ·rename_i a ha
   split at h
   ·rename_i ho
    simp only [Nat.beq_eq] at ho
    simp only [Option.map_eq_some_iff] at h
    obtain ⟨τ', h, rfl⟩ := h
    cases i with
    | zero =>
     simp only [fieldPath, getP, Option.some.injEq] at hg
     subst hg
     exact ⟨fl, rfl, ha, by omega, by simp [fieldPath, walk, stepL, subL, ho], by simp [fieldPath, inB]⟩
    | succ i =>
     simp only [fieldPath, getP] at hg
     obtain ⟨fl', h1, h2, h3, h4, h5⟩ := chain_walk (b := b) (o := o + a.size) h hg
     refine ⟨fl', by simpa using h1, h2, by omega, ?_, by simpa [fieldPath, inB] using h5⟩
     simp only [fieldPath, walk, stepL, subL]
     rw [h4]
     congr 3
     omega
   ·cases h
  ·cases h
theorem jumps_field : ∀ {i : Nat}, jumps (fieldPath i) = false
 | 0 => rfl
 | i + 1 => by simp only [fieldPath, jumps, PS.jumps, Bool.false_or]; exact jumps_field
theorem tyN_pair {d : Nat} {t : TypeId} {x y : Ty} (h : tyN P (d + 1) t = some (.pair x y)) : ∃ fs, P.underlying t = some (.struct fs) ∧ chain (tyN P d) fs.toList 0 = some (.pair x y) := by
 obtain ⟨i, u, _, h2, _, h4⟩ := tyN_inv h
 unfold TyShape at h4
 cases u <;> simp only [reduceCtorEq] at h4 <;> first
  | exact ⟨_, h2, h4⟩
  | (obtain ⟨a, _, h⟩ := h4; cases h)
theorem run_fieldAt {s : TypeId} {fs : Array Field} {fl : Field} {i b oo d : Nat} {τ : Ty} (hs : P.underlying s = some (.struct fs)) (hf : fs.toList[i]? = some fl) (ht : tyN P (d + 1) fl.type = some τ) (hz : τ.size ≠ 0) :
  (Instr.fieldAt s (.pointer (some ⟨b, oo, none⟩)) i).run P w = .ok (.pointer (some ⟨b, oo + fl.offset, none⟩)) w := by
 have hf' : fs[i]? = some fl := by simpa using hf
 simp only [Instr.fieldAt, Sem.run_bind, run_underlying' hs, Result.andThen_ok, hf', Instr.sureAddr, Sem.run_pure, fieldPlace, run_sizeOf' ht]
 rw [if_neg hz]
 simp only [Sem.run_pure, Result.andThen_ok, addr_add]
theorem fieldAddrK_sound {t : TypeId} {x : Operand} {i : Nat} (hc : Ctx E.P H S β a w o g) (hs : Sub gv g) (hm : o.op = .fieldAddr t x i)
  (hk : fieldAddrK gv o (E.ty t) x i some = some us) : OpSound E.P H S β a w o (g.ups us) := by
 unfold fieldAddrK at hk
 split at hk
 ·rename_i q hq
  split at hk
  ·rename_i hta
   split at hk
   ·rename_i d hat
    split at hk
    ·rename_i hcond
     simp only [Bool.and_eq_true, Bool.not_eq_true', Bool.or_eq_true] at hcond
     obtain ⟨hgn, hz⟩ := hcond
     obtain ⟨dd, ho, rfl⟩ := outp_some hk
     unfold typeAt at hta
     cases hp : atP gv q.1 q.2 with
     | none =>
      rw [hp] at hta
      have hnot := hs.atP hat
      obtain ⟨e, he, hg⟩ := atP_some hat
      rw [Option.map_none] at hta
      exfalso
      have hpar : ∀ (p : List PS) (t : Ty) (f : Fl) (x : t.D) (j : Nat) (d : Dat), getP (p ++ fieldPath j) t f x = some d → getP p t f x ≠ none := by
       intro p
       induction p with
       | nil => intro t f x j d _; simp [getP]
       | cons s p ih =>
        intro t f x j d h
        cases s <;> cases t <;> simp only [List.cons_append, getP, reduceCtorEq] at h ⊢ <;> exact ih _ _ _ _ _ h
      unfold atP at hp
      rw [he] at hp
      exact hpar _ _ _ _ _ _ hg hp
     | some d0 =>
      rw [hp] at hta
      simp only [Option.map_some] at hta
      obtain ⟨hq', hat', hr⟩ := target_mono hs hq hp
      obtain ⟨e, cr, b, oo, he, hg, hb, hV, hl, hw, hx, hsol⟩ := target_sound hc.rel hq' hat'
      obtain ⟨hat2, _⟩ := hs.atP hat
      obtain ⟨e', he', hg'⟩ := atP_some hat2
      rw [he] at he'
      simp only [SV.dat.injEq] at he'
      subst he'
      rw [getP_append hg] at hg'
      have hpair : ∃ x y, d0.t = .pair x y := by
       obtain ⟨t0, x0, f0⟩ := d0
       cases t0 <;> cases i <;> simp only [fieldPath, getP, reduceCtorEq] at hg' <;> exact ⟨_, _, rfl⟩
      obtain ⟨tx, ty, hpair⟩ := hpair
      rw [hpair] at hta
      obtain ⟨fs, hfs, hch⟩ := tyN_pair (hta.symm : tyN E.P (7 + 1) t = _)
      rw [← hpair] at hch
      obtain ⟨fl, h1, h2, h3, h4, h5⟩ := chain_walk (w := w) (b := b) (o := oo) hch hg'
      have ea : addr gv (q.1, q.2 ++ fieldPath i) = addr g (q.1, q.2 ++ fieldPath i) := by simp [addr, hr]
      rw [ea]
      have hz' : d.t.size ≠ 0 := fun e => by rw [e] at hz; cases hz
      refine look_addr (d := d) hc he hV hl (by rw [walk_append hw, h4]) (inB_append hg hb h5) (by rw [getP_append hg]; exact hg') ?_ ho ?_
      ·rcases hgn with h | h
       ·exact .inl (boxed_append h jumps_field)
       ·exact .inr (isGone_base h)
      ·simp only [execOp, hm, evl_eval hx, Sem.run_bind, run_fieldAt hfs h1 (d := 6) h2 hz', Result.andThen_ok, Sem.run_pure]
       simp
    ·cases hk
   ·cases hk
  ·cases hk
 ·cases hk
theorem run_indexAt_sl {t e : TypeId} {d : Nat} {τ : Ty} {k : IntKind} {n : Int} {b oo len cap : Nat} (he : P.underlying t = some (.slice e)) (ht : tyN P (d + 1) e = some τ) (h1 : nonneg n = true) (h2 : n.toNat < len) :
  (Instr.indexAt t (.slice (some ⟨b, oo, none⟩) len cap) (.int k n)).run P w = .ok (.pointer (some ⟨b, oo + n.toNat * τ.size, none⟩)) w := by
 simp only [nonneg, decide_eq_true_eq] at h1
 simp only [Instr.indexAt, asIntOf, Sem.run_bind, Sem.run_pure, Result.andThen_ok, run_underlying' he]
 rw [if_pos ⟨h1, by omega⟩]
 simp only [Sem.run_bind, run_sizeOf' ht, Result.andThen_ok, Sem.run_pure, addr_add]
theorem run_indexAt_arr {t e : TypeId} {d : Nat} {τ : Ty} {k : IntKind} {n : Int} {b oo len : Nat} (he : P.underlying t = some (.array len e)) (ht : tyN P (d + 1) e = some τ) (h1 : nonneg n = true) (h2 : n.toNat < len) :
  (Instr.indexAt t (.pointer (some ⟨b, oo, none⟩)) (.int k n)).run P w = .ok (.pointer (some ⟨b, oo + n.toNat * τ.size, none⟩)) w := by
 simp only [nonneg, decide_eq_true_eq] at h1
 simp only [Instr.indexAt, asIntOf, Sem.run_bind, Sem.run_pure, Result.andThen_ok, run_underlying' he, Instr.sureAddr]
 rw [if_pos ⟨h1, by omega⟩]
 simp only [Sem.run_bind, run_sizeOf' ht, Result.andThen_ok, Sem.run_pure, addr_add]
theorem exec_indexAddr {ρ : Operand → Value} {t : TypeId} {x i : Operand} {val : Value} (ho : o.op = .indexAddr t x i) (hr : (Instr.indexAt t (ρ x) (ρ i)).run P w = .ok val w) : (execOp ρ o).run P w = .ok (.value val) w := by
 simp only [execOp, ho, Sem.run_bind, hr, Result.andThen_ok, Sem.run_pure]
theorem whole_ne {f : Fl} (h : f.whole = true) : f.base ≠ .gone := whole_base h
theorem indexAddrK_sound {t : TypeId} {x i : Operand} (hc : Ctx E.P H S β a w o g) (hs : Sub gv g) (hm : o.op = .indexAddr t x i)
  (hk : indexAddrK gv o (E.ty t) x i some = some us) : OpSound E.P H S β a w o (g.ups us) := by
 unfold indexAddrK at hk
 split at hk
 ·rename_i τ k n ht hi
  have ei := evl_eval (int_of hc.rel (hs.sv hi (by simp)) sh_ne)
  split at hk
  ·rename_i q hq
   split at hk
   ·rename_i τ' xs f hat
    split at hk
    ·rename_i hcond
     simp only [Bool.and_eq_true, decide_eq_true_eq, Bool.not_eq_true'] at hcond
     obtain ⟨⟨rfl, hew⟩, hgn⟩ := hcond
     simp only [Bool.cond_eq_ite] at hk
     split at hk
     ·rename_i h1
      split at hk
      ·rename_i h2
       obtain ⟨dd, ho, rfl⟩ := outp_some hk
       simp only [Nat.blt_eq] at h2
       obtain ⟨hq', hat', hr⟩ := placeOf_mono hs hq hat
       obtain ⟨e, cr, L, c, he, hg, hb, hV, hl, hvr, hw, hcc, hvp, hx⟩ := placeOf_sound hc.rel hq' hat' (isGone_base hgn)
       obtain ⟨el, hel, htl⟩ := tyN_sl ht
       obtain ⟨b, oo, cs, m, cap, rfl, him, hsb, hB, hz, hv⟩ := VRel_elm (whole_ne hew) hvp (getD_nth (z := τ'.dflt) h2)
       have ea : addr gv (q.1, q.2 ++ [.elm (Int.toNat n)]) = addr g (q.1, q.2 ++ [.elm (Int.toNat n)]) := by simp [addr, hr]
       rw [ea]
       have hlen : m = List.length xs := by
        have h3 := hvp
        simp only [VRel] at h3
        replace h3 := h3.2
        cases hfb : Fl.base f with
        | own e2 => rw [hfb] at h3; obtain ⟨ad, cap', e5, _⟩ := h3; simp only [List.cons.injEq, Value.slice.injEq, and_true] at e5; exact e5.2.1
        | gone => exact absurd hfb (isGone_base hgn)
        | _ => rw [hfb] at h3; simp only [Rd] at h3; obtain ⟨ad, cap', e5, _⟩ := h3; simp only [List.cons.injEq, Value.slice.injEq, and_true] at e5; exact e5.2.1
       have hg2 : getP (q.2 ++ [.elm (Int.toNat n)]) e.t e.f e.x = some ⟨τ', List.getD xs (Int.toNat n) τ'.dflt, f.e⟩ := by rw [getP_append hg]; rfl
       refine look_addr (d := ⟨τ', List.getD xs (Int.toNat n) τ'.dflt, f.e⟩) (b := b) (oo := oo + Int.toNat n * τ'.size) hc he hV hl ?_ (inB_append hg hb (by simp only [inB]; exact ⟨h2, trivial⟩)) hg2 (.inr (whole_ne hew)) ho (exec_indexAddr hm ?_)
       ·rw [walk_append hw]
        simp only [Ty.size] at hcc
        simp only [walk, stepL, hcc, him, if_true]
       ·rw [evl_eval hx, ei]
        exact run_indexAt_sl hel htl h1 (by omega)
      ·cases hk
     ·cases hk
    ·cases hk
   ·cases hk
  ·cases hk
 ·rename_i m τ k n ht hi
  have ei := evl_eval (int_of hc.rel (hs.sv hi (by simp)) sh_ne)
  split at hk
  ·rename_i q hq
   split at hk
   ·rename_i n' τ' xs f hat
    split at hk
    ·rename_i hcond
     simp only [Bool.and_eq_true, decide_eq_true_eq, Bool.not_eq_true', Bool.or_eq_true] at hcond
     obtain ⟨⟨rfl, rfl⟩, hgn⟩ := hcond
     simp only [Bool.cond_eq_ite] at hk
     split at hk
     ·rename_i h1
      split at hk
      ·rename_i h2
       obtain ⟨dd, ho, rfl⟩ := outp_some hk
       simp only [Nat.blt_eq] at h2
       obtain ⟨hq', hat', hr⟩ := target_mono hs hq hat
       obtain ⟨e, cr, b, oo, he, hg, hb, hV, hl, hw, hx, hsol⟩ := target_sound hc.rel hq' hat'
       obtain ⟨el, hel, htl⟩ := tyN_arr ht
       have ea : addr gv (q.1, q.2 ++ [.idx (Int.toNat n)]) = addr g (q.1, q.2 ++ [.idx (Int.toNat n)]) := by simp [addr, hr]
       rw [ea]
       have hg2 : getP (q.2 ++ [.idx (Int.toNat n)]) e.t e.f e.x = some ⟨τ', List.getD xs (Int.toNat n) τ'.dflt, f.a⟩ := by rw [getP_append hg]; rfl
       refine look_addr (d := ⟨τ', List.getD xs (Int.toNat n) τ'.dflt, f.a⟩) (b := b) (oo := oo + Int.toNat n * τ'.size) hc he hV hl ?_ (inB_append hg hb (by simp only [inB]; exact ⟨h2, trivial⟩)) hg2 ?_ ho (exec_indexAddr hm ?_)
       ·rw [walk_append hw]
        simp only [walk, stepL, h2, if_true, subL]
       ·rcases hgn with h | h
        ·exact .inl (boxed_append h rfl)
        ·exact .inr (isGone_base h)
       ·rw [evl_eval hx, ei]
        exact run_indexAt_arr hel htl h1 h2
      ·cases hk
     ·cases hk
    ·cases hk
   ·cases hk
  ·cases hk
 ·cases hk
end
end Go.Rf

end
section
namespace Go.Rf
set_option linter.unusedSectionVars false
variable [T : Laid]
section
variable {P : Program} {H : Nat → Option (List Value)} {N : Nat} {g g' σ : View} {V V' : Nat → Option Value} {w w' : World} {S S' : Nat → Prop} {β β' : Key → Option Nat} {a : Act} {o : Oper}
variable {E : Env} {gv : View} {us : List Up}
theorem walk_own : ∀ {p : List PS} {t : Ty} {f : Fl} {x : t.D} {d : Dat} {y : Fl × t.D} {k ko : Key} {L : Loc} {c : List Value} {t' : Ty} {b o : Nat},
  modP p t f x d = some y → inB p t x → cellsAt w t.size L = some c → VRel S β H w k t f x c → walk w t L p = some (t', .mem b o) →
  (∀ b' o', L = .mem b' o' → β ko = some b' ∧ ∃ q cs, OBlk q w b' cs) →
  β (ownKey k ko p) = some b ∧ ∃ q cs, OBlk q w b cs ∧ o + t'.size ≤ cs.size
 | [], t, f, x, d, y, k, ko, L, c, t', b, o, _, _, hc, _, hw, hL => by
  simp only [walk, Option.some.injEq, Prod.mk.injEq] at hw
  obtain ⟨rfl, rfl⟩ := hw
  obtain ⟨h1, q0, cs, h2⟩ := hL _ _ rfl
  exact ⟨h1, q0, cs, h2, (cellsAt_inv hc h2.blk).2⟩
 | .fst :: p, .pair s u, f, x, d, y, k, ko, L, c, t', b, o, hm, hi, hc, hv, hw, hL => by
  simp only [modP] at hm
  cases hm' : modP p s f.l x.1 d with
  | none => simp [hm'] at hm
  | some z =>
   have h' := (VRel_parts hv).1
   rw [take_win] at h'
   simp only [walk, stepL] at hw
   simp only [ownKey]
   refine walk_own hm' (by simpa [inB] using hi) (cellsAt_sub (i := 0) (m := s.size) hc (by simp [Ty.size])) h' hw (fun b' o' e => ?_)
   cases L with
   | reg _ => simp [subL] at e
   | mem b2 o2 => simp only [subL, Loc.mem.injEq] at e; rw [← e.1]; exact hL _ _ rfl
 | .snd :: p, .pair s u, f, x, d, y, k, ko, L, c, t', b, o, hm, hi, hc, hv, hw, hL => by
  simp only [modP] at hm
  cases hm' : modP p u f.r x.2 d with
  | none => simp [hm'] at hm
  | some z =>
   have h' := (VRel_parts hv).2
   have hl := VRel_len hv
   rw [drop_win (by simpa [Ty.size] using hl)] at h'
   simp only [walk, stepL] at hw
   simp only [ownKey]
   refine walk_own hm' (by simpa [inB] using hi) (cellsAt_sub (i := s.size) (m := u.size) hc (by simp [Ty.size])) h' hw (fun b' o' e => ?_)
   cases L with
   | reg _ => simp [subL] at e
   | mem b2 o2 => simp only [subL, Loc.mem.injEq] at e; rw [← e.1]; exact hL _ _ rfl
 | .idx i :: p, .arr n t, f, x, d, y, k, ko, L, c, t', b, o, hm, hi, hc, hv, hw, hL => by
  simp only [modP] at hm
  cases hm' : modP p t f.a (List.getD x i t.dflt) d with
  | none => simp [hm'] at hm
  | some z =>
   simp only [hm', Option.bind_some] at hm
   split at hm
   ·rename_i hcond
    simp only [inB] at hi
    simp only [Bool.and_eq_true] at hcond
    obtain ⟨hx, hcl, h'⟩ := VRel_elems (whole_base hcond.1) hv
    have hlt : (i + 1) * t.size ≤ n * t.size := Nat.mul_le_mul_right _ hi.1
    rw [Nat.add_mul] at hlt
    simp only [walk, stepL, hi.1, if_true] at hw
    simp only [ownKey]
    refine walk_own hm' hi.2 (cellsAt_sub (i := i * t.size) (m := t.size) hc (by simp only [Ty.size]; omega)) (h' i _ (getD_nth (by omega))) hw (fun b' o' e => ?_)
    cases L with
    | reg _ => simp [subL] at e
    | mem b2 o2 => simp only [subL, Loc.mem.injEq] at e; rw [← e.1]; exact hL _ _ rfl
   ·cases hm
 | .der :: p, .ptr t, f, x, d, y, k, ko, L, c, t', b, o, hm, hi, hc, hv, hw, hL => by
  have main : ∀ e, f.base = .own e → modP p t e x d ≠ none → β (ownKey (k ++ [0]) k p) = some b ∧ ∃ q cs, OBlk q w b cs ∧ o + t'.size ≤ cs.size := by
   intro e hf hm'
   cases hm'' : modP p t e x d with
   | none => exact absurd hm'' hm'
   | some z =>
    simp only [VRel] at hv
    replace hv := hv.2
    rw [hf] at hv
    obtain ⟨b1, cs, rfl, hk, ho, hz, hv⟩ := hv
    simp only [Ty.size] at hc
    simp only [walk, stepL, hc] at hw
    have hc' := cellsAt_mem (o := 0) (n := t.size) ho.blk (by omega)
    have : win cs.toList 0 t.size = cs.toList := by rw [← hz, ← Array.length_toList]; exact win_all _
    rw [this] at hc'
    exact walk_own hm'' (by simpa [inB] using hi) hc' hv hw (fun b' o' e => by simp only [Loc.mem.injEq] at e; rw [← e.1]; exact ⟨hk, _, cs, ho⟩)
  simp only [ownKey]
  cases f with
  | own e => exact main e rfl (fun e => by simp [modP, e] at hm)
  | pin j g => cases g with
   | own e => exact main e rfl (fun e => by simp [modP, e] at hm)
   | _ => simp [modP] at hm
  | _ => simp [modP] at hm
 | .elm i :: p, .sl t, f, x, d, y, k, ko, L, c, t', b, o, hm, hi, hc, hv, hw, hL => by
  simp only [inB] at hi
  have main : ∀ e, f.base = .own e → modP p t e (List.getD x i t.dflt) d ≠ none → β (ownKey (k ++ [i]) k p) = some b ∧ ∃ q cs, OBlk q w b cs ∧ o + t'.size ≤ cs.size := by
   intro e hf hm'
   cases hm'' : modP p t e (List.getD x i t.dflt) d with
   | none => exact absurd hm'' hm'
   | some z =>
    simp only [VRel] at hv
    replace hv := hv.2
    rw [hf] at hv
    obtain ⟨ad, cap, rfl, hlc, hv⟩ := hv
    rcases hv with hv | ⟨b1, o1, cs, rfl, hk, ho, hz, hv⟩
    ·have := hi.1; omega
    ·simp only [Ty.size] at hc
     simp only [walk, stepL, hc, hi.1, if_true] at hw
     have hlt : (i + 1) * t.size ≤ cap * t.size := Nat.mul_le_mul_right _ (by have := hi.1; omega)
     rw [Nat.add_mul] at hlt
     have hc' := cellsAt_mem (o := o1 + i * t.size) (n := t.size) ho.blk (by omega)
     exact walk_own hm'' hi.2 hc' (hv i _ (getD_nth hi.1)) hw (fun b' o' e => by simp only [Loc.mem.injEq] at e; rw [← e.1]; exact ⟨hk, _, cs, ho⟩)
  simp only [ownKey]
  cases f with
  | own e => exact main e rfl (fun e => by simp [modP, e] at hm)
  | pin j g => cases g with
   | own e => exact main e rfl (fun e => by simp [modP, e] at hm)
   | _ => simp [modP] at hm
  | _ => simp [modP] at hm
theorem ownKey_len : ∀ {p : List PS} {k ko : Key}, ko.length < k.length → (ownKey k ko p).length < (k ++ keyP p).length
 | [], k, ko, h => by simpa [ownKey, keyP] using h
 | .fst :: p, k, ko, h => by
  have := ownKey_len (p := p) (k := k ++ [0]) (ko := ko) (by simp; omega)
  simpa [ownKey, keyP] using this
 | .snd :: p, k, ko, h => by
  have := ownKey_len (p := p) (k := k ++ [1]) (ko := ko) (by simp; omega)
  simpa [ownKey, keyP] using this
 | .idx i :: p, k, ko, h => by
  have := ownKey_len (p := p) (k := k ++ [i]) (ko := ko) (by simp; omega)
  simpa [ownKey, keyP] using this
 | .der :: p, k, ko, h => by
  have := ownKey_len (p := p) (k := k ++ [0]) (ko := k) (by simp)
  simpa [ownKey, keyP] using this
 | .elm i :: p, k, ko, h => by
  have := ownKey_len (p := p) (k := k ++ [i]) (ko := k) (by simp)
  simpa [ownKey, keyP] using this
theorem jumps_of_walk {p : List PS} {t t' : Ty} {c : List Value} {b o : Nat} (h : walk w t (.reg c) p = some (t', .mem b o)) : jumps p = true := by
 cases hj : jumps p with
 | true => rfl
 | false => have := walk_flat hj h; simp at this
open Classical in
theorem Rel.store {r : Nat} {p : List PS} {e d : Dat} {f2 : Fl} {x2 : e.t.D} {cr cd : List Value} {t' : Ty} {b₀ o₀ : Nat} (h : Rel H N g V w S β) (he : (g r).sv = .dat e) (hm : modP p e.t e.f e.x d = some (f2, x2)) (hb : inB p e.t e.x)
  (hV : V r = some (valOf e.t cr)) (hl : cr.length = e.t.size) (hw : walk w e.t (.reg cr) p = some (t', .mem b₀ o₀)) (ht : t'.size = d.t.size)
  (hs : Sane w S' β') (hSS : ∀ b, S b → S' b) (hβ1 : ∀ j s b, j ≠ r → (g j).sv ≠ .dead → β (j :: s) = some b → β' (j :: s) = some b) (hβ2 : ∀ s b, ¬ keyP p <+: s → β (r :: s) = some b → β' (r :: s) = some b)
  (hd : VRel S' β' H w (r :: keyP p) d.t d.f d.x cd) (hchg : Chg w w' b₀ o₀ cd) (hsz : w'.heap.size = w.heap.size) :
  Rel H N (g.up (.mod r (.dat ⟨e.t, x2, f2⟩))) V w' S' β' := by
 have hj := jumps_of_walk hw
 obtain ⟨c, hv, hV2⟩ := h.dat he
 have := valOf_inj (Option.some.inj (hV2.symm.trans hV)) (VRel_len hv) hl
 subst this
 have hcells : cellsAt w e.t.size (.reg c) = some c := by simp [cellsAt, hl]
 obtain ⟨hown, cs, hB, _⟩ := walk_own (k := [r]) (ko := []) hm hb hcells hv hw (by simp)
 have hlen := ownKey_len (p := p) (k := [r]) (ko := []) (by simp)
 obtain ⟨s0, hs0⟩ := ownKey_jump (p := p) (k := [r]) (ko := []) hj
 have hnp : ¬ (r :: keyP p) <+: ownKey [r] [] p := fun hp => by have := hp.length_le; simp at this hlen; omega
 have hown' : β' (ownKey [r] [] p) = some b₀ := by
  rw [hs0] at hown hnp ⊢
  simp only [List.cons_append, List.nil_append] at hown hnp ⊢
  exact hβ2 s0 b₀ (fun hp => hnp ((List.prefix_cons_inj r).2 hp)) hown
 have hSb : ¬ S' b₀ := hs.sep _ _ hown'
 let β0 : Key → Option Nat := fun key => if (r :: keyP p) <+: key then β key else β' key
 have hv0 : VRel S' β0 H w [r] e.t e.f e.x c := VRel_trans (fun b hb => ⟨hSS b hb, rfl⟩) (fun s b hb => ⟨by
  simp only [List.cons_append, List.nil_append] at hb ⊢
  show (if _ then _ else _) = _
  split
  ·exact hb
  ·rename_i hnp'; exact hβ2 s b (fun hp => hnp' ((List.prefix_cons_inj r).2 hp)) hb, rfl⟩) hv
 obtain ⟨c2, g1, g2, g3⟩ := walk_set (S := S') (β := β0) (β' := β') (H := H) (k := [r]) (ko := []) (cd := cd) hm hb hcells hv0 hw ht (by simp) (by simp)
  (fun key hk => by show _ = (if _ then _ else _); rw [if_neg (by simpa using hk)])
  (fun key hk => by
   have hk : (if (r :: keyP p) <+: key then β key else β' key) = some b₀ := hk
   split at hk
   ·exact h.sane.inj _ _ _ hk hown
   ·exact hs.inj _ _ _ hk hown')
  (fun key hk => hs.inj _ _ _ hk hown') hSb hchg (by simpa using hd)
 have := g2 hj
 subst this
 have hne : ∀ b, S b → b ≠ b₀ := fun b hb e => hSb (e ▸ hSS b hb)
 refine h.mod he rfl ⟨hs.inj, hs.sep, fun k b hk => by rw [hsz]; exact hs.live k b hk, fun b hk => by rw [hsz]; exact hs.liveS b hk, hs.tabs fun b hb => ⟨hb, hchg.other b (fun e => hSb (e ▸ hb))⟩⟩ (fun b hb => ⟨hSS b hb, hchg.other b (hne b hb)⟩)
  (fun j s b hjr ha hb => ⟨hβ1 j s b hjr ha hb, hchg.other b (fun e => ?_)⟩) ⟨c2, g3, hV⟩
 subst e
 have := h.sane.inj _ _ _ hb hown
 rw [hs0] at this
 simp at this
 exact hjr this.1
theorem Step.store {b₀ o₀ : Nat} {cd : List Value} {key : Key} (hk : β key = some b₀) (hchg : Chg w w' b₀ o₀ cd) (hsz : w'.heap.size = w.heap.size) : Step w S β w' S β where
 size := by omega
 old b hb hnot := hchg.other b (fun e => hnot key (e ▸ hk))
 new k b hb := .inl ⟨k, hb⟩
 keepS _ hb := hb
 newS _ hb := .inl hb
 out := hchg.out
def pubK (S : Nat → Prop) (β : Key → Option Nat) (k : Key) : Nat → Prop := fun b => S b ∨ ∃ s, β (k ++ s) = some b
def cutK (β : Key → Option Nat) (k : Key) : Key → Option Nat := fun k' => match strip k k' with | some _ => none | none => β k'
theorem cutK_cases {k k' : Key} {b : Nat} (h : cutK β k k' = some b) : strip k k' = none ∧ β k' = some b := by
 unfold cutK at h; split at h
 ·cases h
 ·rename_i e; exact ⟨e, h⟩
theorem Sane.cut (h : Sane w S β) (k : Key) : Sane w (pubK S β k) (cutK β k) where
 tab := h.tabs fun b hb => ⟨.inl hb, rfl⟩
 inj k1 k2 b h1 h2 := h.inj _ _ _ (cutK_cases h1).2 (cutK_cases h2).2
 sep k1 b h1 h2 := by
  obtain ⟨e, h1⟩ := cutK_cases h1
  rcases h2 with h2 | ⟨s, h2⟩
  ·exact h.sep _ _ h1 h2
  ·exact strip_none e s (h.inj _ _ _ h1 h2)
 live k1 b h1 := h.live _ _ (cutK_cases h1).2
 liveS b hb := hb.elim (h.liveS b) fun ⟨s, h'⟩ => h.live _ _ h'
theorem Step.cut (k : Key) : Step w S β w (pubK S β k) (cutK β k) where
 size := Nat.le_refl _
 old _ _ _ := rfl
 new _ _ hb := .inl ⟨_, (cutK_cases hb).2⟩
 keepS _ hb := .inl hb
 newS _ hb := hb.elim .inl fun ⟨s, h⟩ => .inr (.inl ⟨_, h⟩)
 out := .rfl'
theorem VRel_cut {k : Key} {t : Ty} {f : Fl} {x : t.D} {c : List Value} (hw : f.whole = true) (h : VRel S β H w k t f x c) : VRel (pubK S β k) (cutK β k) H w k t .sh x c :=
 VRel_sh.2 (VRel_read hw (fun _ => .inl) (fun s _ hb => .inr ⟨s, hb⟩) h)
theorem modP_ty : ∀ {p : List PS} {t : Ty} {f : Fl} {x : t.D} {d d0 : Dat} {y : Fl × t.D}, modP p t f x d = some y → getP p t f x = some d0 → d0.t = d.t
 | [], t, f, x, d, d0, y, hm, hg => by
  simp only [getP, Option.some.injEq] at hg; subst hg
  simp only [modP, Option.map_eq_some_iff] at hm
  obtain ⟨z, hz, _⟩ := hm
  exact (castD_some hz).1.symm
 | .fst :: p, .pair a b, f, x, d, d0, y, hm, hg => by
  simp only [modP, Option.map_eq_some_iff] at hm; obtain ⟨z, hz, _⟩ := hm
  simp only [getP] at hg; exact modP_ty hz hg
 | .snd :: p, .pair a b, f, x, d, d0, y, hm, hg => by
  simp only [modP, Option.map_eq_some_iff] at hm; obtain ⟨z, hz, _⟩ := hm
  simp only [getP] at hg; exact modP_ty hz hg
 | .idx i :: p, .arr n t, f, x, d, d0, y, hm, hg => by
  simp only [modP, Option.bind_eq_some_iff] at hm; obtain ⟨z, hz, _⟩ := hm
  simp only [getP] at hg; exact modP_ty hz hg
 | .der :: p, .ptr t, f, x, d, d0, y, hm, hg => by
  simp only [getP] at hg
  cases f with
  | own e => simp only [modP, Option.map_eq_some_iff] at hm; obtain ⟨z, hz, _⟩ := hm; exact modP_ty hz hg
  | pin j g => cases g with
   | own e => simp only [modP, Option.map_eq_some_iff] at hm; obtain ⟨z, hz, _⟩ := hm; exact modP_ty hz hg
   | _ => simp [modP] at hm
  | _ => simp [modP] at hm
 | .elm i :: p, .sl t, f, x, d, d0, y, hm, hg => by
  simp only [getP] at hg
  cases f with
  | own e => simp only [modP, Option.bind_eq_some_iff] at hm; obtain ⟨z, hz, _⟩ := hm; exact modP_ty hz hg
  | pin j g => cases g with
   | own e => simp only [modP, Option.bind_eq_some_iff] at hm; obtain ⟨z, hz, _⟩ := hm; exact modP_ty hz hg
   | _ => simp [modP] at hm
  | _ => simp [modP] at hm
theorem take_keeps {mv : Bool} {t : Option Ty} {x : Operand} {d : Dat} {us : List Up} {r : Nat} {e : Dat} (ht : take g mv t x (sv g x) = some (d, us)) (he : (g r).sv = .dat e) :
  ((g.ups us) r).sv = .dead ∨ ∃ f, ((g.ups us) r).sv = .dat ⟨e.t, e.x, f⟩ := by
 have same : ((g.ups []) r).sv = .dead ∨ ∃ f, ((g.ups []) r).sv = .dat ⟨e.t, e.x, f⟩ := .inr ⟨e.f, he⟩
 have dead : ∀ {g1 : View} {s : Nat}, ((g1 r).sv = .dead ∨ ∃ f, (g1 r).sv = .dat ⟨e.t, e.x, f⟩) → ((g1.up (.put s .dead)) r).sv = .dead ∨ ∃ f, ((g1.up (.put s .dead)) r).sv = .dat ⟨e.t, e.x, f⟩ := by
  intro g1 s h
  by_cases hr : r = s
  ·subst hr; left; rw [put_self]
  ·rw [put_at hr]; exact h
 have modc : ∀ {q : Nat} {e' : Dat} {f : Fl}, (g q).sv = .dat e' → ((g.up (.mod q (.dat ⟨e'.t, e'.x, f⟩))) r).sv = .dead ∨ ∃ f', ((g.up (.mod q (.dat ⟨e'.t, e'.x, f⟩))) r).sv = .dat ⟨e.t, e.x, f'⟩ := by
  intro q e' f hq
  by_cases hr : r = q
  ·subst hr
   rw [he] at hq
   simp only [SV.dat.injEq] at hq
   subst hq
   right
   exact ⟨f, by rw [show g.up (.mod r (.dat ⟨e.t, e.x, f⟩)) r = _ from up_eq (u := .mod r _)]; rfl⟩
  ·rw [up_ne (u := .mod q _) hr]; exact same
 have pubc : ∀ {q : Nat} {e' : Dat} {f : Fl}, (g q).sv = .dat e' → ((g.up (.pub q (.dat ⟨e'.t, e'.x, f⟩))) r).sv = .dead ∨ ∃ f', ((g.up (.pub q (.dat ⟨e'.t, e'.x, f⟩))) r).sv = .dat ⟨e.t, e.x, f'⟩ := by
  intro q e' f hq
  by_cases hr : r = q
  ·subst hr
   rw [he] at hq
   simp only [SV.dat.injEq] at hq
   subst hq
   right
   exact ⟨f, by rw [show g.up (.pub r (.dat ⟨e.t, e.x, f⟩)) r = _ from up_eq (u := .pub r _)]; rfl⟩
  ·rw [up_ne (u := .pub q _) hr]; exact same
 cases hv : sv g x with
 | dead => rw [hv] at ht; simp [take] at ht
 | und => rw [hv] at ht; simp [take] at ht
 | unk => rw [hv] at ht; simp [take] at ht
 | tup d => rw [hv] at ht; simp [take] at ht
 | adr _ _ _ _ => rw [hv] at ht; simp [take] at ht
 | nils =>
  rw [hv] at ht
  simp only [take] at ht
  split at ht
  ·simp only [Option.some.injEq, Prod.mk.injEq] at ht; rw [← ht.2]; exact same
  ·cases ht
 | clo f rs =>
  rw [hv] at ht
  cases rs with
  | nil => simp only [take, Option.some.injEq, Prod.mk.injEq] at ht; rw [← ht.2]; exact same
  | cons a rs => simp [take] at ht
 | dat e =>
  rw [hv] at ht
  simp only [take] at ht
  split at ht
  ·simp only [Option.some.injEq, Prod.mk.injEq] at ht; rw [← ht.2]; exact same
  ·split at ht
   ·split at ht
    ·simp only [Option.some.injEq, Prod.mk.injEq] at ht; rw [← ht.2]
     exact dead same
    ·cases ht
   ·cases ht
 | als r p c s =>
  rw [hv] at ht
  simp only [take] at ht
  split at ht
  ·split at ht
   ·rename_i e he
    split at ht
    ·split at ht
     ·simp only [Option.some.injEq, Prod.mk.injEq] at ht; rw [← ht.2]; exact same
     ·split at ht
      ·split at ht <;> simp only [Option.some.injEq, Prod.mk.injEq] at ht <;> rw [← ht.2]
       ·exact modc he
       ·exact pubc he
      ·cases ht
    ·cases ht
   ·cases ht
  ·cases ht
 | pend r p c s u e =>
  rw [hv] at ht
  simp only [take] at ht
  split at ht
  ·rename_i j
   split at ht
   ·split at ht
    ·rename_i e' he
     simp only [Option.some.injEq, Prod.mk.injEq] at ht; rw [← ht.2]
     exact dead (modc he)
    ·cases ht
   ·cases ht
  ·cases ht
end
end Go.Rf

end
section
namespace Go.Rf
set_option linter.unusedSectionVars false
variable [T : Laid]
section
variable {P : Program} {H : Nat → Option (List Value)} {N : Nat} {g g' σ : View} {V V' : Nat → Option Value} {w w' : World} {S S' : Nat → Prop} {β β' : Key → Option Nat} {a : Act} {o : Oper}
variable {E : Env} {gv : View} {us : List Up}
theorem Step.at (h : Step w S β w S' β') (hz : w'.heap.size = w.heap.size) : Step w' S β w' S' β' where
 size := Nat.le_refl _
 old _ _ _ := rfl
 new k b hb := by rw [hz]; exact h.new k b hb
 keepS := h.keepS
 newS b hb := by rw [hz]; exact h.newS b hb
 out := .rfl'
theorem putAt_inv {q : Pl} {d : Dat} {u : Up} (h : putAt g q d = some u) : ∃ e d' y, (g q.1).sv = .dat e ∧ modP q.2 e.t e.f e.x d' = some y ∧ u = .mod q.1 (.dat ⟨e.t, y.2, y.1⟩) ∧ (d' = d ∨ (d.f.whole = true ∧ d' = ⟨d.t, d.x, .sh⟩)) := by
 unfold putAt at h
 split at h
 ·rename_i e he
  split at h
  ·rename_i y hy
   simp only [Option.some.injEq] at h
   exact ⟨e, d, y, he, hy, h.symm, .inl rfl⟩
  ·split at h
   ·rename_i hw
    simp only [Option.map_eq_some_iff] at h
    obtain ⟨y, hy, rfl⟩ := h
    exact ⟨e, _, y, he, hy, rfl, .inr ⟨hw, rfl⟩⟩
   ·cases h
 ·cases h
theorem strip_keep {r : Nat} {p s : Key} (h : ¬ p <+: s) : strip (r :: p) (r :: s) = none := by
 cases hst : strip (r :: p) (r :: s) with
 | none => rfl
 | some s' =>
  have := strip_some.1 hst
  simp only [List.cons_append, List.cons.injEq, true_and] at this
  exact absurd ⟨s', this.symm⟩ h
theorem store_core {t : TypeId} {r : Nat} {p : List PS} {e d d' : Dat} {y : Fl × e.t.D} {cr c : List Value} {t' : Ty} {b₀ o₀ : Nat} {β1 : Key → Option Nat}
  (h : Rel H N g V w S β) (he : (g r).sv = .dat e) (hm : modP p e.t e.f e.x d' = some y) (hd' : d' = d ∨ (d.f.whole = true ∧ d' = ⟨d.t, d.x, .sh⟩)) (hwh : d.f.whole = true) (hb : inB p e.t e.x)
  (hV : V r = some (valOf e.t cr)) (hl : cr.length = e.t.size) (hw : walk w e.t (.reg cr) p = some (t', .mem b₀ o₀)) (ht : t' = d.t) (hty : tyN P 8 t = some d.t)
  (hs : Sane w S β1) (hst : Step w S β w S β1) (hβ1 : ∀ j s b, j ≠ r → (g j).sv ≠ .dead → β (j :: s) = some b → β1 (j :: s) = some b) (hβ2 : ∀ s b, ¬ keyP p <+: s → β (r :: s) = some b → β1 (r :: s) = some b)
  (hd : VRel S β1 H w (r :: keyP p) d.t d.f d.x c) :
  ∃ w' S2 β2, (storeVar t ⟨b₀, o₀, none⟩ (valOf d.t c)).run P w = .ok () w' ∧ Rel H N (g.up (.mod r (.dat ⟨e.t, y.2, y.1⟩))) V w' S2 β2 ∧ Step w S β w' S2 β2 := by
 obtain ⟨c1, hv, hV2⟩ := h.dat he
 have := valOf_inj (Option.some.inj (hV2.symm.trans hV)) (VRel_len hv) hl
 subst this
 have hcells : cellsAt w e.t.size (.reg c1) = some c1 := by simp [cellsAt, hl]
 obtain ⟨hown, q0, cs, hB, hz⟩ := walk_own (k := [r]) (ko := []) hm hb hcells hv hw (by simp)
 subst ht
 have hlen := VRel_len hd
 obtain ⟨w', hrun, hchg, hsz⟩ := run_storeVar' (P := P) hty hB hz hlen (VRel_one hwh hd)
 rcases hd' with rfl | ⟨_, rfl⟩
 ·exact ⟨w', S, β1, hrun, h.store he hm hb hV hl hw rfl hs (fun _ h => h) hβ1 hβ2 hd hchg hsz, (Step.store hown hchg hsz).trans (hst.at hsz)⟩
 ·refine ⟨w', pubK S β1 (r :: keyP p), cutK β1 (r :: keyP p), hrun, h.store he hm hb hV hl hw rfl (hs.cut _) (fun _ h => .inl h) (fun j s b hj ha hb => ?_) (fun s b hs hb => ?_) (VRel_cut hwh hd) hchg hsz,
   (Step.store hown hchg hsz).trans ((hst.trans (.cut _)).at hsz)⟩
  ·have := hβ1 j s b hj ha hb
   unfold cutK; rw [strip_head hj]; exact this
  ·have := hβ2 s b hs hb
   unfold cutK; rw [strip_keep hs]; exact this
theorem exec_store {ρ : Operand → Value} {t : TypeId} {x y : Operand} {ad : Addr} {v : Value} (ho : o.op = .store t x y) (hx : ρ x = .pointer (some ad)) (hy : ρ y = v) (hr : (storeVar t ad v).run P w = .ok () w') : (execOp ρ o).run P w = .ok .skip w' := by
 simp only [execOp, ho, hx, hy, Instr.storeAt, Instr.sureAddr, Sem.run_bind, Sem.run_pure, Result.andThen_ok, hr]
theorem pathEq_eq : ∀ {p q : List PS} {cs : List Bool}, pathEq p q = some cs → (∀ c ∈ cs, c = true) → p = q
 | [], [], _, _, _ => rfl
 | [], _ :: _, _, h, _ => by simp [pathEq] at h
 | _ :: _, [], _, h, _ => by simp [pathEq] at h
 | a :: p, b :: q, cs, h, hc => by
  simp only [pathEq] at h
  split at h
  ·rename_i l m hl hm
   simp only [Option.some.injEq] at h; subst h
   have ih := pathEq_eq hm (fun c h => hc c (by simp [h]))
   subst ih
   have : a = b := by
    cases a <;> cases b <;> simp only [PS.eqc, reduceCtorEq, Option.some.injEq] at hl <;> first
     | rfl
     | (subst hl; have := hc _ (List.mem_append_left _ (List.mem_singleton.2 rfl)); simp only [decide_eq_true_eq] at this; rw [this])
   rw [this]
  ·cases h
theorem conds_some {ρ : Type} {k : Option ρ} {v : ρ} : ∀ {cs : List Bool}, conds cs k = some v → (∀ c ∈ cs, c = true) ∧ k = some v
 | [], h => ⟨by simp, h⟩
 | true :: l, h => by
  obtain ⟨h1, h2⟩ := conds_some (cs := l) h
  exact ⟨by intro c hc; rcases List.mem_cons.1 hc with rfl | hc; rfl; exact h1 c hc, h2⟩
 | false :: l, h => by simp [conds] at h
theorem ne_whole {mv : Bool} {t : Ty} : (Fl.ne mv t).whole = true := by
 unfold Fl.ne; split
 ·assumption
 ·rfl
theorem take_whole {mv : Bool} {t : Option Ty} {x : Operand} {d : Dat} {us : List Up} (ht : take g mv t x (sv g x) = some (d, us)) : d.f.whole = true := by
 cases hv : sv g x with
 | dead => rw [hv] at ht; simp [take] at ht
 | und => rw [hv] at ht; simp [take] at ht
 | unk => rw [hv] at ht; simp [take] at ht
 | tup d => rw [hv] at ht; simp [take] at ht
 | adr _ _ _ _ => rw [hv] at ht; simp [take] at ht
 | nils =>
  rw [hv] at ht
  simp only [take] at ht
  split at ht
  ·simp only [Option.some.injEq, Prod.mk.injEq] at ht; rw [← ht.1]
   exact ne_whole
  ·cases ht
 | clo f rs =>
  rw [hv] at ht
  cases rs with
  | nil => simp only [take, Option.some.injEq, Prod.mk.injEq] at ht; rw [← ht.1]; rfl
  | cons a rs => simp [take] at ht
 | dat e =>
  rw [hv] at ht
  simp only [take] at ht
  split at ht
  ·rename_i hf
   simp only [Option.some.injEq, Prod.mk.injEq] at ht; rw [← ht.1, setD_of_free hf]; rfl
  ·split at ht
   ·rename_i hw
    split at ht
    ·simp only [Option.some.injEq, Prod.mk.injEq] at ht; rw [← ht.1]; exact hw
    ·cases ht
   ·cases ht
 | als r p c s =>
  rw [hv] at ht
  simp only [take] at ht
  split at ht
  ·split at ht
   ·split at ht
    ·split at ht
     ·rename_i hf
      simp only [Option.some.injEq, Prod.mk.injEq] at ht; rw [← ht.1, setD_of_free hf]; rfl
     ·split at ht
      ·rename_i hw
       split at ht <;> simp only [Option.some.injEq, Prod.mk.injEq] at ht <;> rw [← ht.1]
       ·exact hw
       ·rfl
      ·cases ht
    ·cases ht
   ·cases ht
  ·cases ht
 | pend r p c s u e =>
  rw [hv] at ht
  simp only [take] at ht
  split at ht
  ·split at ht
   ·rename_i hok
    split at ht
    ·simp only [Option.some.injEq, Prod.mk.injEq] at ht; rw [← ht.1]
     simp only [Bool.and_eq_true] at hok
     exact hok.1.2
    ·cases ht
   ·cases ht
  ·cases ht
theorem put_none : a.put none undef = a := rfl
theorem take_store {mv : Bool} {t : TypeId} {x y : Operand} {q : Pl} {d d0 : Dat} {us : List Up} {u : Up} (hc : Ctx E.P H S β a w o g) (hs : Sub gv g) (ho : o.op = .store t x y) (hdst : o.dst = none)
  (hq : target gv x (sv gv x) = some q) (hat : atP gv q.1 q.2 = some d0) (hty : E.ty t = some d0.t) {tt : Option Ty} (ht : take gv mv tt y (sv gv y) = some (d, us)) (hu : putAt (gv.ups us) q d = some u) : OpSound E.P H S β a w o (g.ups (us ++ [u])) := by
 obtain ⟨ht', hs'⟩ := take_mono hs ht
 obtain ⟨hq', hat', hr⟩ := target_mono hs hq hat
 obtain ⟨e, cr, b, oo, he, hg, hb, hV, hl, hw, hx, _⟩ := target_sound hc.rel hq' hat'
 obtain ⟨S1, β1, c, h1, h2, h3, h4⟩ := take_sound hc.rel ht' (n := a.tmps.size) (hc.dead _ (Nat.le_refl _)) (Nat.le_refl _)
 obtain ⟨e1, d', yy, he1, hm, rfl, hd'⟩ := putAt_inv hu
 have hq1 : q.1 < a.tmps.size := hc.dead.root he
 have he1' : ((g.ups us) q.1).sv = .dat e1 := by rw [hs'.get he1 (by simp)]; exact he1
 have hee : ∃ f, e1 = ⟨e.t, e.x, f⟩ := by
  rcases take_keeps ht' he with h | ⟨f, h⟩
  ·rw [he1'] at h; cases h
  ·rw [he1'] at h; simp only [SV.dat.injEq] at h; exact ⟨f, h⟩
 obtain ⟨f, rfl⟩ := hee
 have hwh := take_whole ht'
 obtain ⟨f1, hg1⟩ := getP_flags (g := f) hg
 have htyd : d0.t = d'.t := modP_ty (d0 := ⟨d0.t, d0.x, f1⟩) hm hg1
 have htyd2 : d0.t = d.t := by
  rcases hd' with rfl | ⟨_, rfl⟩ <;> exact htyd
 let g1 : View := (upN (g.ups us) a.tmps.size d).up (.put a.tmps.size .dead)
 have hk : Rel H a.tmps.size g1 (upd (vals a) a.tmps.size (valOf d.t c)) w S1 β1 := h1.kill fun _ _ => rfl
 obtain ⟨cc, hvr, hVn⟩ := h1.dat upN_self
 have hcc : cc = c := by
  simp only [upd, if_true] at hVn
  exact (valOf_inj (Option.some.inj hVn) h4 (VRel_len hvr)).symm
 subst hcc
 have hg1r : (g1 q.1).sv = .dat ⟨e.t, e.x, f⟩ := by
  show (((upN (g.ups us) a.tmps.size d).up (.put a.tmps.size .dead)) q.1).sv = _
  rw [put_at (by omega), upN_at (by omega)]; exact he1'
 have hV1 : (upd (vals a) a.tmps.size (valOf d.t cc)) q.1 = some (valOf e.t cr) := by
  simp only [upd]; rw [if_neg (by omega)]; exact hV
 have hn1 : ∀ j, (g1 j).sv ≠ .dead → j ≠ a.tmps.size := fun j hj e' => by
  subst e'; exact hj (by show (((upN (g.ups us) a.tmps.size d).up (.put a.tmps.size .dead)) a.tmps.size).sv = _; rw [put_self])
 obtain ⟨w', S2, β2, hrun, hrel, hstep⟩ := store_core (P := E.P) (t := t) hk hg1r hm hd' hwh hb hV1 hl hw htyd2 (by rw [← htyd2]; exact hty) (hk.sane.rekey [a.tmps.size] (q.1 :: keyP q.2)) (.rekey _ _)
  (fun j s b hj ha hbb => by rw [rekey_else (strip_head hj) (strip_head (hn1 j ha))]; exact hbb)
  (fun s b hsp hbb => by rw [rekey_else (strip_keep hsp) (strip_head (by omega))]; exact hbb) (VRel_rekey hvr)
 intro K Q hK
 have hy : a.eval y = valOf d.t cc := evl_eval h3
 refine wp_skip' (exec_store ho (evl_eval hx) hy hrun) ?_
 rw [hdst, put_none]
 refine hK a w' S2 β2 rfl rfl ?_ (h2.trans hstep)
 rw [ups_append]
 have hD : DeadFrom a.tmps.size (g.ups us) := hc.dead.ups fun u hu => hc.dead.lt (take_alive ht' u hu)
 refine hrel.fin (fun i hi => ?_) (hD.up hq1) (fun i hi => ?_)
 ·show ((g.ups us).up _) i = (g1.up _) i
  have hgi : g1 i = (g.ups us) i := by
   show ((upN (g.ups us) a.tmps.size d).up (.put a.tmps.size .dead)) i = _
   rw [put_at (by omega), upN_at (by omega)]
  by_cases e' : i = q.1
  ·subst e'
   rw [show (g.ups us).up (.mod q.1 _) q.1 = _ from up_eq (u := .mod q.1 _), show g1.up (.mod q.1 _) q.1 = _ from up_eq (u := .mod q.1 _)]
   show Up.on _ ((g.ups us) q.1) = Up.on _ (g1 q.1)
   rw [hgi]
  ·rw [up_ne (u := .mod q.1 _) e', up_ne (u := .mod q.1 _) e', hgi]
 ·simp only [upd]; rw [if_neg (by omega)]
theorem typeAt_some {q : Pl} {t : Ty} (h : typeAt g q = some t) : ∃ d, atP g q.1 q.2 = some d ∧ d.t = t := by
 unfold typeAt at h
 simp only [Option.map_eq_some_iff] at h
 exact h
theorem storeK_sound {mv : Bool} {t : TypeId} {x y : Operand} (hc : Ctx E.P H S β a w o g) (hs : Sub gv g) (hm : o.op = .store t x y)
  (hk : storeK gv mv o (E.ty t) x y some = some us) : OpSound E.P H S β a w o (g.ups us) := by
 unfold storeK at hk
 split at hk
 ·rename_i q hdst hq
  split at hk
  ·rename_i hta
   simp only [Bool.and_eq_true, decide_eq_true_eq] at hta
   obtain ⟨hta, hsome⟩ := hta
   obtain ⟨τ, hτ⟩ := Option.isSome_iff_exists.1 hsome
   rw [hτ] at hta
   obtain ⟨d0, hat, rfl⟩ := typeAt_some hta
   split at hk
   ·rename_i j r p c s u d hy
    split at hk
    ·rename_i cs hcs
     split at hcs
     ·rename_i hcond
      simp only [Bool.and_eq_true, Bool.not_eq_true', Nat.beq_eq] at hcond
      obtain ⟨⟨⟨hrq, hok⟩, hwh⟩, hjq⟩ := hcond
      split at hk
      ·rename_i uu hu
       obtain ⟨hall, hk⟩ := conds_some hk
       simp only [Option.some.injEq] at hk; subst hk
       have hpq := pathEq_eq hcs hall
       have hjq : j ≠ q.1 := fun e => by rw [e] at hjq; simp at hjq
       obtain ⟨hq', hat', hr⟩ := target_mono hs hq hat
       obtain ⟨e, cr, b, oo, he, hg, hb, hV, hl, hw, hx, _⟩ := target_sound hc.rel hq' hat'
       obtain ⟨e1, d', yy, he1, hmm, rfl, hd'⟩ := putAt_inv hu
       have : e1 = e := by rw [← hr, he] at he1; simp only [SV.dat.injEq] at he1; exact he1.symm
       subst this
       have htyd : d0.t = d'.t := modP_ty hmm hg
       have htyd2 : d0.t = d.t := by rcases hd' with rfl | ⟨_, rfl⟩ <;> exact htyd
       have hj : (g j).sv = .pend r p c s u d := hs.sv hy (by simp)
       have hss := hc.rel.slots j
       rw [hj] at hss
       obtain ⟨h0, _, _, _, h4⟩ := hss
       subst hrq
       subst hpq
       obtain ⟨_, β2, cc, hβ2, hvr, hVj⟩ := h4 (by rw [Sub.okU hr]; exact hok) e1 he
       have hk1 : Rel H a.tmps.size (g.up (.put j .dead)) (vals a) w S β := hc.rel.kill fun _ _ => rfl
       have hd1 : ((g.up (.put j .dead)) j).sv = .dead := by rw [put_self]
       have hd2 : ((g.up (.put j .dead)) q.1).sv = .dat e1 := by rw [put_at (Ne.symm hjq)]; exact he
       obtain ⟨hsane, hkeep⟩ := hk1.repl hβ2 hd1 hd2
       obtain ⟨w', S2, β3, hrun, hrel, hstep⟩ := store_core (P := E.P) (t := t) hk1 hd2 hmm hd' hwh hb hV hl hw htyd2 (by rw [← htyd2]; exact hτ) hsane (PendB.repl_or hβ2 hc.rel.sane).2 hkeep
        (fun s b hsp hbb => by
         rcases hβ2 with rfl | ⟨b2, hb2, rfl⟩
         ·exact hbb
         ·unfold repl
          rw [if_neg (fun e3 => hsp (by simp only [List.cons.injEq, true_and] at e3; rw [e3]; exact List.prefix_rfl)), if_neg (by simp [Ne.symm hjq])]; exact hbb) hvr
       intro K Q hK
       have hjN := hc.dead.lt (show (g j).sv ≠ .dead by rw [hj]; simp)
       have hyv : a.eval (.tmp j) = valOf d.t cc := evl_eval (x := .tmp j) hVj
       refine wp_skip' (exec_store hm (evl_eval hx) hyv hrun) ?_
       rw [hdst, put_none]
       exact hK a w' S2 β3 rfl rfl hrel hstep
      ·cases hk
     ·cases hcs
    ·rename_i hnone
     split at hk
     ·rename_i d' us' ht
      split at hk
      ·rename_i u' hu
       simp only [Option.some.injEq] at hk; subst hk
       rw [← hy] at ht
       exact take_store hc hs hm hdst hq hat hτ ht hu
      ·cases hk
     ·cases hk
   ·split at hk
    ·rename_i d' us' ht
     split at hk
     ·rename_i u' hu
      simp only [Option.some.injEq] at hk; subst hk
      exact take_store hc hs hm hdst hq hat hτ ht hu
     ·cases hk
    ·cases hk
  ·cases hk
 ·cases hk
theorem assignK_sound {mv : Bool} {t : Option Ty} {x : Operand} (hc : Ctx P H S β a w o g) (hs : Sub gv g) (hm : o.op = .assign x)
  (hk : assignK gv mv o t x some = some us) : OpSound P H S β a w o (g.ups us) := by
 have hr := run_move (P := P) (w := w) (a := a) (.inr hm)
 have tk : ∀ {d us dd}, take gv mv t x (sv gv x) = some (d, us) → o.dst = some dd → OpSound P H S β a w o (g.ups (us ++ [.put dd (.dat d)])) := fun ht ho =>
  take_op hc hs ht ho (fun v hv => by rw [← hv]; exact hr)
 unfold assignK at hk
 split at hk
 ·obtain ⟨dd, ho, rfl⟩ := outp_some hk
  exact look0 hc.rel hc.dead ho (opIn_dst hc.opIn ho) hr trivial
 rename_i hnn; clear hnn
 split at hk
 ·rename_i r p c s hx
  obtain ⟨dd, ho, rfl⟩ := outp_some hk
  obtain ⟨i, rfl, hi⟩ := opnd_tmp (hs.sv hx (by simp)) (by simp) (by simp) (by simp)
  exact look_adr hc hi (eval_vals (hc.dead.lt (by rw [hi]; simp))) ho hr
 ·rename_i f rs hx
  obtain ⟨dd, ho, rfl⟩ := outp_some hk
  obtain ⟨i, rfl, hi⟩ := opnd_tmp (hs.sv hx (by simp)) (by simp) (by simp) (by simp)
  have hss := hc.rel.slots i
  rw [hi] at hss
  obtain ⟨h1, h2⟩ := hss
  refine look0 hc.rel hc.dead ho (opIn_dst hc.opIn ho) hr (clo_put h1 ?_)
  rw [eval_vals (hc.dead.lt (by rw [hi]; simp))] at h2
  exact h2
 ·rename_i r p c s u d hx
  split at hk
  ·rename_i j e ho
   split at hk
   ·rename_i hcond
    simp only [Bool.and_eq_true, Bool.not_eq_true', Nat.beq_eq] at hcond
    obtain ⟨⟨⟨⟨hre, hp⟩, hok⟩, hdat⟩, hje⟩ := hcond
    simp only [Option.some.injEq] at hk; subst hk
    subst hre
    have hp : p = [] := by simpa using hp
    subst hp
    have hje : j ≠ r := fun e => by rw [e] at hje; simp at hje
    have hj : (g j).sv = .pend r [] c s u d := hs.sv hx (by simp)
    have hss := hc.rel.slots j
    rw [hj] at hss
    obtain ⟨h0, _, _, _, h4⟩ := hss
    have hd := opIn_dst hc.opIn ho
    intro K Q hK
    have hk1 : Rel H a.tmps.size (g.up (.put j .dead)) (vals a) w S β := hc.rel.kill fun _ _ => rfl
    have hjN := hc.dead.lt (show (g j).sv ≠ .dead by rw [hj]; simp)
    unfold isDat at hdat
    split at hdat
    ·rename_i dr hdr
     have hrr := hs.get hdr (by simp)
     have hdr' : (g r).sv = .dat dr := by rw [hrr]; exact hdr
     obtain ⟨_, β2, cc, hβ2, hvr, hVj⟩ := h4 (by rw [Sub.okU hrr]; exact hok) dr hdr'
     have hd1 : ((g.up (.put j .dead)) j).sv = .dead := by rw [put_self]
     have hd2 : ((g.up (.put j .dead)) r).sv = .dat dr := by rw [put_at (Ne.symm hje)]; exact hdr'
     obtain ⟨hsane, hkeep⟩ := hk1.repl hβ2 hd1 hd2
     refine wp_value hr (hK _ _ S β2 put_size put_defers ?_ (PendB.repl_or hβ2 hc.rel.sane).2)
     rw [ho, vals_put hd, evl_eval (x := .tmp j) hVj]
     exact hk1.finish (fun _ _ => rfl) (hc.dead.up hjN) (fun _ _ => rfl) hd hsane (fun b hb => ⟨hb, rfl⟩) (fun i s b hi ha hb => ⟨hkeep i s b hi ha hb, rfl⟩) ⟨cc, by simpa [keyP] using hvr, by simp [upd]⟩
    ·cases hdat
   ·split at hk
    ·rename_i d' us' ht
     simp only [Option.some.injEq] at hk; subst hk
     rw [← hx] at ht
     exact tk ht ho
    ·cases hk
  ·cases hk
 ·split at hk
  ·rename_i d' us' ht
   obtain ⟨dd, ho, rfl⟩ := outp_some hk
   exact tk ht ho
  ·cases hk
end
end Go.Rf

end
section
namespace Go.Rf
set_option linter.unusedSectionVars false
variable [T : Laid]
section
variable {P : Program} {H : Nat → Option (List Value)} {N : Nat} {g g' σ : View} {V V' : Nat → Option Value} {w w' : World} {S S' : Nat → Prop} {β β' : Key → Option Nat} {a : Act} {o : Oper}
variable {E : Env} {gv : View} {us : List Up}
theorem zarr_get {k : Nat} {z : List Value → Bool} (hz : ∀ c, z c = true → c.length = k) : ∀ {n : Nat} {c : List Value}, zcells.zarr k z n c = true → c.length = n * k ∧ ∀ i, i < n → z (win c (i * k) k) = true
 | 0, c, h => by
  simp only [zcells.zarr, List.isEmpty_iff] at h; subst h
  exact ⟨by simp, fun i hi => by omega⟩
 | n + 1, c, h => by
  simp only [zcells.zarr, Bool.and_eq_true] at h
  obtain ⟨h1, h2⟩ := h
  obtain ⟨h3, h4⟩ := zarr_get hz h2
  have h5 := hz _ h1
  simp only [List.length_take, List.length_drop] at h3 h5
  have hlen : c.length = (n + 1) * k := by rw [Nat.add_mul]; omega
  refine ⟨hlen, fun i hi => ?_⟩
  cases i with
  | zero => simpa [win] using h1
  | succ i =>
   have := h4 i (by omega)
   unfold win at this ⊢
   rw [List.drop_drop] at this
   rw [Nat.add_mul, Nat.one_mul, Nat.add_comm (i * k) k]; exact this
theorem zcells_one {t : Ty} {c : List Value} (ht : t.agg = false) (h : zcells t c = true) : ∃ v, c = [v] ∧ zval t v = true := by
 cases t <;> simp [Ty.agg] at ht <;> (cases c with
  | nil => simp [zcells] at h
  | cons v l => cases l with
   | nil => exact ⟨v, rfl, by simpa [zcells] using h⟩
   | cons _ _ => simp [zcells] at h)
theorem zero_VRel (deep : Bool) : ∀ {τ : Ty} {c : List Value} {k : Key}, zcells τ c = true → VRel S β H w k τ (Fl.nw deep τ) τ.dflt c
 | .int i, c, k, h => by
  obtain ⟨v, hv0, hz⟩ := zcells_one rfl h
  replace h := hz; clear hz; subst hv0
  cases v <;> first | (exfalso; simp [zval] at h; done) | skip
  simp only [zval, Bool.and_eq_true, decide_eq_true_eq] at h
  obtain ⟨rfl, rfl⟩ := h
  cases deep <;> simp [VRel, Fl.nw, Fl.full, Fl.half, Fl.base, Pins, Fl.pins, Rd, Ty.dflt]
 | .bool, c, k, h => by
  obtain ⟨v, hv0, hz⟩ := zcells_one rfl h
  replace h := hz; clear hz; subst hv0
  cases v <;> first | (exfalso; simp [zval] at h; done) | skip
  simp only [zval, Bool.not_eq_true'] at h
  subst h
  cases deep <;> simp [VRel, Fl.nw, Fl.full, Fl.half, Fl.base, Pins, Fl.pins, Rd, Ty.dflt]
 | .str, c, k, h => by
  obtain ⟨v, hv0, hz⟩ := zcells_one rfl h
  replace h := hz; clear hz; subst hv0
  cases v <;> first | (exfalso; simp [zval] at h; done) | skip
  simp only [zval, List.isEmpty_iff] at h
  rename_i s
  have : s = ⟨⟨[]⟩⟩ := by apply ByteArray.ext; apply Array.toList_inj.1; rw [h]
  subst this
  cases deep <;> simp [VRel, Fl.nw, Fl.full, Fl.half, Fl.base, Pins, Fl.pins, Rd, Ty.dflt]
 | .fn, c, k, h => by
  obtain ⟨v, hv0, hz⟩ := zcells_one rfl h
  replace h := hz; clear hz; subst hv0
  cases v <;> first | (exfalso; simp [zval] at h; done) | skip
  cases deep <;> simp [VRel, Fl.nw, Fl.full, Fl.half, Fl.base, Pins, Fl.pins, Rd, Ty.dflt, FnRd]
 | .unit, c, k, h => by
  simp only [zcells, List.isEmpty_iff] at h; subst h
  cases deep <;> simp [VRel, Fl.nw, Fl.full, Fl.half, Fl.base, Pins, Fl.pins, Rd]
 | .sl t, c, k, h => by
  obtain ⟨v, hv0, hz⟩ := zcells_one rfl h
  replace h := hz; clear hz; subst hv0
  have : v = .slice none 0 0 := by
   unfold zval at h
   split at h <;> first | rfl | (rename_i e _; cases e) | (rename_i e; cases e) | (cases h) | skip
   all_goals simp_all
  subst this
  cases deep <;> (simp only [VRel, Fl.nw, Fl.full, Fl.half, Fl.base, Pins, Fl.pins, Ty.dflt]; exact ⟨by simp, none, 0, rfl, by simp, .inl rfl⟩)
 | .ptr t, c, k, h => by
  obtain ⟨v, hv0, hz⟩ := zcells_one rfl h
  replace h := hz; clear hz; subst hv0
  cases deep <;> simp [VRel, Fl.nw, Fl.full, Fl.half, Fl.base, Pins, Fl.pins]
 | .arr n t, c, k, h => by
  simp only [zcells] at h
  obtain ⟨h1, h2⟩ := zarr_get (fun c hc => VRel_len (zero_VRel deep (k := []) hc)) h
  have : Fl.nw deep (.arr n t) = .mkar (Fl.nw deep t) := by cases deep <;> rfl
  rw [this, VRel_mkar]
  refine ⟨by simp [Ty.dflt], h1, fun i y hy => ?_⟩
  have hy' : (List.replicate n t.dflt)[i]? = some y := hy
  rw [List.getElem?_replicate] at hy'
  split at hy'
  ·rename_i hi
   simp only [Option.some.injEq] at hy'; subst hy'
   exact zero_VRel deep (h2 i hi)
  ·cases hy'
 | .pair s u, c, k, h => by
  simp only [zcells, Bool.and_eq_true] at h
  have : Fl.nw deep (.pair s u) = .mkpr (Fl.nw deep s) (Fl.nw deep u) := by cases deep <;> rfl
  rw [this, VRel_mkpr]
  exact ⟨zero_VRel deep h.1, zero_VRel deep h.2⟩
structure Pushed (w w' : World) (ob : Obj) : Prop where
 heap : w'.heap = w.heap.push ob
 out : SameOut w w'
def setK (β : Key → Option Nat) (k : Key) (b : Nat) : Key → Option Nat := fun k' => if k' = k then some b else β k'
theorem new_same {ob : Obj} (hw : Pushed w w' ob) {b : Nat} (hb : b < w.heap.size) : w'.heap[b]? = w.heap[b]? := by
 rw [hw.heap, Array.getElem?_push, if_neg (by omega)]
theorem new_at {ob : Obj} (hw : Pushed w w' ob) : w'.heap[w.heap.size]? = some ob := by rw [hw.heap]; simp
theorem new_size {ob : Obj} (hw : Pushed w w' ob) : w'.heap.size = w.heap.size + 1 := by rw [hw.heap]; simp
theorem Sane.new {ob : Obj} (h : Sane w S β) (hw : Pushed w w' ob) (k : Key) : Sane w' S (setK β k w.heap.size) where
 tab := h.tabs fun b hb => ⟨hb, new_same hw (h.liveS b hb)⟩
 inj k1 k2 b h1 h2 := by
  unfold setK at h1 h2
  split at h1 <;> split at h2
  ·rename_i e1 e2; rw [e1, e2]
  ·cases h1; have := h.live _ _ h2; omega
  ·cases h2; have := h.live _ _ h1; omega
  ·exact h.inj _ _ _ h1 h2
 sep k1 b h1 h2 := by
  unfold setK at h1
  split at h1
  ·cases h1; have := h.liveS _ h2; omega
  ·exact h.sep _ _ h1 h2
 live k1 b h1 := by
  rw [new_size hw]
  unfold setK at h1
  split at h1
  ·cases h1; omega
  ·have := h.live _ _ h1; omega
 liveS b hb := by rw [new_size hw]; have := h.liveS b hb; omega
theorem Step.newB {ob : Obj} (hw : Pushed w w' ob) (k : Key) : Step w S β w' S (setK β k w.heap.size) where
 size := by rw [new_size hw]; omega
 old b hb _ := new_same hw hb
 new k1 b h1 := by
  unfold setK at h1
  split at h1
  ·cases h1; exact .inr (Nat.le_refl _)
  ·exact .inl ⟨_, h1⟩
 keepS _ hb := hb
 newS _ hb := .inl hb
 out := hw.out
theorem OBlk.new {q : Bool} {cs : Array Value} {e : TypeId} {fz : Nat × Nat} (hw : Pushed w w' (.cells cs e fz)) (hf : fz = (0, 0) ∨ (q = true ∧ cs.size ≤ fz.1)) : OBlk q w' w.heap.size cs := by
 refine ⟨e, fz, new_at hw, fun o ho h => ?_, hf.elim .inr fun h => .inl h.1⟩
 rcases hf with rfl | hf
 ·exact absurd h.2 (Nat.not_lt_zero _)
 ·exact absurd h.1 (by omega)
theorem fresh0 {d : Nat} {v : SV} {val : Value} {ob : Obj} (hc : Ctx P H S β a w o g) (ho : o.dst = some d) (hr : (execOp a.eval o).run P w = .ok (.value val) w') (hw : Pushed w w' ob)
  (hn : SVRel H a.tmps.size (g.up (.put d v)) (upd (vals a) d val) w' S (setK β [d] w.heap.size) d v) : OpSound P H S β a w o (g.ups [.put d v]) := by
 intro K Q hK
 have hd := opIn_dst hc.opIn ho
 refine wp_value hr (hK _ _ S _ put_size put_defers ?_ (Step.newB hw [d]))
 rw [ho, vals_put hd]
 exact hc.rel.finish (fun _ _ => rfl) hc.dead (fun _ _ => rfl) hd (hc.rel.sane.new hw [d]) (fun b hb => ⟨hb, new_same hw (hc.rel.sane.liveS b hb)⟩)
  (fun j s b hj _ hb => ⟨by unfold setK; rw [if_neg (by simp [hj])]; exact hb, new_same hw (hc.rel.sane.live _ b hb)⟩) hn
theorem tz_inv {t : TypeId} {τ : Ty} (h : E.tz t = some τ) : E.ty t = some τ ∧ ∃ z, (∀ w, (zeroValue t).run E.P w = .ok z w) ∧ zcells τ z.cells.toList = true := by
 unfold Env.tz at h
 split at h
 ·rename_i τ' ht
  split at h
  ·rename_i hz
   simp only [Option.some.injEq] at h; subst h
   refine ⟨ht, ?_⟩
   unfold Env.zok at hz
   split at hz
   ·rename_i i hi
    split at hz
    ·rename_i v hv
     exact ⟨v, fun w => by unfold zeroValue; simp [run_typeInfo' hi, hv], hz⟩
    ·cases hz
   ·cases hz
  ·cases h
 ·cases h
theorem allocK_sound {mv : Bool} {t : TypeId} (hc : Ctx E.P H S β a w o g) (hm : o.op = .alloc t)
  (hk : allocK E mv o t some = some us) : OpSound E.P H S β a w o (g.ups us) := by
 unfold allocK at hk
 split at hk
 ·rename_i τ ht
  obtain ⟨d, ho, rfl⟩ := outp_some hk
  obtain ⟨hty, z, hz, hzc⟩ := tz_inv ht
  have hlen := VRel_len (zero_VRel (S := S) (β := β) (H := H) (w := w) mv (k := []) hzc)
  refine fresh0 (w' := { w with heap := w.heap.push (.cells z.cells t) }) (val := .pointer (some ⟨w.heap.size, 0, none⟩)) hc ho ?_ ⟨rfl, rfl, rfl, rfl⟩ ?_
  ·simp [execOp, hm, Instr.alloc, hz, newVar, newRow]
  ·refine ⟨[.pointer (some ⟨w.heap.size, 0, none⟩)], ?_, by simp [upd, valOf, Ty.agg]⟩
   simp only [VRel, Fl.base]
   exact ⟨by simp [Pins, Fl.pins], w.heap.size, z.cells, rfl, by simp [setK], OBlk.new ⟨rfl, rfl, rfl, rfl⟩ (.inl rfl), by simpa using hlen, zero_VRel mv hzc⟩
 ·cases hk
theorem boxK_sound {mv : Bool} {t : TypeId} {x : Operand} (hc : Ctx E.P H S β a w o g) (hs : Sub gv g) (hm : o.op = .box t x)
  (hk : boxK E gv mv o t x some = some us) : OpSound E.P H S β a w o (g.ups us) := by
 unfold boxK at hk
 split at hk
 ·rename_i τ d us' ht hti
  split at hk
  ·rename_i hty
   subst hty
   obtain ⟨dd, ho, rfl⟩ := outp_some hk
   obtain ⟨ht', _⟩ := take_mono hs hti
   obtain ⟨S1, β1, c, h1, h2, h3, h4⟩ := take_sound hc.rel ht' (n := a.tmps.size) (hc.dead _ (Nat.le_refl _)) (Nat.le_refl _)
   have hwh := take_whole ht'
   have hd := opIn_dst hc.opIn ho
   have hD : DeadFrom a.tmps.size (g.ups us') := hc.dead.ups fun u hu => hc.dead.lt (take_alive ht' u hu)
   obtain ⟨cc, hvr, hVn⟩ := h1.dat upN_self
   have hcc : cc = c := by
    simp only [upd, if_true] at hVn
    exact (valOf_inj (Option.some.inj hVn) h4 (VRel_len hvr)).symm
   subst hcc
   have hone := VRel_one hwh hvr
   let w' : World := { w with heap := w.heap.push (.cells (valOf d.t cc).cells t) }
   have hw' : Pushed w w' (.cells (valOf d.t cc).cells t) := ⟨rfl, rfl, rfl, rfl⟩
   have hr : (execOp a.eval o).run E.P w = .ok (.value (.pointer (some ⟨w.heap.size, 0, none⟩))) w' := by
    simp [execOp, hm, Instr.box, evl_eval h3, newVar, newRow, w']
   intro K Q hK
   have hk1 : Rel H a.tmps.size ((upN (g.ups us') a.tmps.size d).up (.put a.tmps.size .dead)) (upd (vals a) a.tmps.size (valOf d.t cc)) w S1 β1 := h1.kill fun _ _ => rfl
   have hsane := (hk1.sane.rekey [a.tmps.size] [dd, 0]).new hw' [dd]
   refine wp_value hr (hK _ _ S1 _ put_size put_defers ?_ (h2.trans ((Step.rekey [a.tmps.size] [dd, 0]).trans (Step.newB hw' [dd]))))
   rw [ho, vals_put hd, ups_append]
   refine hk1.finish (fun i hi => by rw [put_at (by omega), upN_at (by omega)]) hD (fun i hi => by simp only [upd]; rw [if_neg (by omega)]) hd hsane (fun b hb => ⟨hb, new_same hw' (hk1.sane.liveS b hb)⟩)
    (fun j s b hj ha hb => ⟨?_, new_same hw' (hk1.sane.live _ b hb)⟩) ?_
   ·have hjn : j ≠ a.tmps.size := fun e' => by subst e'; exact ha (by rw [put_self])
    unfold setK
    rw [if_neg (by simp [hj]), rekey_else (by simp [strip, Ne.symm hj]) (strip_head hjn)]; exact hb
   ·refine ⟨[.pointer (some ⟨w.heap.size, 0, none⟩)], ?_, by simp [upd, valOf, Ty.agg]⟩
    simp only [VRel, Fl.base]
    refine ⟨by simp [Pins, Fl.pins], w.heap.size, (valOf d.t cc).cells, rfl, by simp [setK], OBlk.new hw' (.inl rfl), ?_, ?_⟩
    ·rw [cells_valOf h4 hone]; simp [h4]
    ·rw [cells_valOf h4 hone]
     refine VRel_trans (fun b hb => ⟨hb, new_same hw' (hk1.sane.liveS b hb)⟩) (fun s b hb => ⟨?_, new_same hw' (hk1.sane.live _ b hb)⟩) hvr
     have : setK (rekey β1 [a.tmps.size] [dd, 0]) [dd] w.heap.size ([dd] ++ [0] ++ s) = rekey β1 [a.tmps.size] [dd, 0] ([dd, 0] ++ s) := by
      unfold setK; rw [if_neg (by simp)]; rfl
     rw [this, rekey_dst]; exact hb
  ·cases hk
 ·cases hk
end
end Go.Rf

end
section
namespace Go.Rf
set_option linter.unusedSectionVars false
variable [T : Laid]
section
variable {P : Program} {H : Nat → Option (List Value)} {N : Nat} {g g' σ : View} {V V' : Nat → Option Value} {w w' : World} {S S' : Nat → Prop} {β β' : Key → Option Nat} {a : Act} {o : Oper}
variable {E : Env} {gv : View} {us : List Up}
theorem publish_mono {x : Operand} (hs : Sub gv g) (h : publish gv x (sv gv x) = some us) : publish g x (sv g x) = some us ∧ Sub (gv.ups us) (g.ups us) ∧ ∀ u ∈ us, (g u.slot).sv ≠ .dead := by
 cases hv : sv gv x with
 | dat e =>
  rw [hs.sv hv (by simp)]; rw [hv] at h
  refine ⟨h, ?_⟩
  simp only [publish] at h
  split at h
  ·simp only [Option.some.injEq] at h; subst h; exact ⟨hs, by simp⟩
  ·split at h
   ·split at h
    ·rename_i s
     simp only [Option.some.injEq] at h; subst h
     have he : (gv s).sv = .dat e := hv
     exact ⟨hs.up (u := .pub s _) (by simp [Up.slot, he]), by simp [Up.slot, hs.get he (by simp), he]⟩
    ·cases h
   ·cases h
 | als r p c s =>
  rw [hs.sv hv (by simp)]; rw [hv] at h
  simp only [publish] at h ⊢
  split at h
  ·rename_i hok
   split at h
   ·rename_i e he
    have hr := hs.get he (by simp)
    rw [Sub.okA hr, hok, hr, he]
    refine ⟨h, ?_⟩
    split at h
    ·split at h
     ·simp only [Option.some.injEq] at h; subst h; exact ⟨hs, by simp⟩
     ·split at h
      ·simp only [Option.some.injEq] at h; subst h
       exact ⟨hs.up (u := .pub r _) (by simp [Up.slot, he]), by simp [Up.slot, hr, he]⟩
      ·cases h
    ·cases h
   ·cases h
  ·cases h
 | clo f rs =>
  rw [hs.sv hv (by simp)]; rw [hv] at h
  cases rs with
  | nil => refine ⟨h, ?_⟩; simp only [publish, Option.some.injEq] at h; subst h; exact ⟨hs, by simp⟩
  | cons _ _ => simp [publish] at h
 | _ => rw [hv] at h; simp [publish] at h
theorem publish_sound {x : Operand} {d : Dat} (h : Rel H N g V w S β) (hp : publish g x (sv g x) = some us) (hd : dataOf g (sv g x) = some d) :
  ∃ S1 β1 c, Rel H N (g.ups us) V w S1 β1 ∧ Step w S β w S1 β1 ∧ evl V x = some (valOf d.t c) ∧ Rd S1 w d.t d.x c := by
 cases hv : sv g x with
 | dat e =>
  rw [hv] at hp hd
  simp only [dataOf] at hd
  split at hd
  ·rename_i hw
   simp only [Option.some.injEq] at hd; subst hd
   simp only [publish] at hp
   split at hp
   ·rename_i hf
    simp only [Option.some.injEq] at hp; subst hp
    have hf := setD_of_free hf
    rcases opnd_dat h hv with ⟨s, rfl, hs⟩ | ⟨_, c, hc, hrd⟩
    ·obtain ⟨c, hvr, hV⟩ := h.dat hs
     rw [hf, VRel_sh] at hvr
     exact ⟨S, β, c, h, .refl, hV, hvr⟩
    ·exact ⟨S, β, c, h, .refl, hc, hrd⟩
   ·split at hp
    ·rename_i s
     simp only [Option.some.injEq] at hp; subst hp
     have he : (g s).sv = .dat e := hv
     obtain ⟨c, hvr, hV⟩ := h.dat he
     exact ⟨_, _, c, h.publish (p := []) he rfl hw, .pub _ _ _, hV, read_pub (p := []) (e := e) (d := e) rfl hw (by simpa [keyP] using hvr)⟩
    ·cases hp
  ·cases hd
 | als r p c s =>
  rw [hv] at hp hd
  obtain ⟨i, rfl, hi⟩ := opnd_tmp hv (by simp) (by simp) (by simp)
  simp only [dataOf] at hd
  split at hd
  ·rename_i hok
   split at hd
   ·rename_i e0 hat
    split at hd
    ·rename_i hw
     simp only [Option.some.injEq] at hd; subst hd
     obtain ⟨e, he, hg⟩ := atP_some hat
     obtain ⟨_, hb, hnd, cr, L, c', k1, k2, k3, k4, k5, k6, k7⟩ := h.als hi hok he hg
     simp only [publish, hok, if_true, he, hg] at hp
     split at hp
     ·rename_i hf
      simp only [Option.some.injEq] at hp; subst hp
      rw [setD_of_free hf, VRel_sh] at k6
      exact ⟨S, β, c', h, .refl, k7, k6⟩
     ·simp only [Option.some.injEq] at hp; subst hp
      exact ⟨_, _, c', h.publish he hg hw, .pub _ _ _, k7, read_pub hg hw k6⟩
    ·cases hd
   ·cases hd
  ·cases hd
 | clo f rs =>
  rw [hv] at hp hd
  cases rs with
  | nil =>
   simp only [publish, Option.some.injEq] at hp; subst hp
   obtain ⟨c, hc, hrd⟩ := dataOf_sound h (x := x) (d := d) (by rw [hv]; exact hd)
   simp only [dataOf, capsOf, Option.map_some, Option.some.injEq] at hd
   subst hd
   refine ⟨S, β, c, h, .refl, hc, ?_⟩
   simp only [Rd, FnRd, CapsRd] at hrd ⊢
   exact hrd
  | cons _ _ => simp [publish] at hp
 | _ => rw [hv] at hp; simp [publish] at hp
theorem boundK_inv {x : Option Operand} {dflt : Nat} {κ : Nat → Option (List Up)} (hc : Ctx P H S β a w o g) (hs : Sub gv g) (h : boundK (x.map (sv gv)) dflt κ = some us) :
  ∃ n, κ n = some us ∧ ((x = none ∧ n = dflt) ∨ ∃ op k i, x = some op ∧ a.eval op = .int k i ∧ 0 ≤ i ∧ n = i.toNat) := by
 cases x with
 | none => exact ⟨dflt, h, .inl ⟨rfl, rfl⟩⟩
 | some op =>
  simp only [Option.map_some] at h
  unfold boundK at h
  split at h
  ·rename_i e; cases e
  ·rename_i k i e
   simp only [Option.some.injEq] at e
   simp only [Bool.cond_eq_ite] at h
   split at h
   ·rename_i h1
    simp only [nonneg, decide_eq_true_eq] at h1
    exact ⟨_, h, .inr ⟨op, k, i, rfl, evl_eval (int_of hc.rel (hs.sv e (by simp)) sh_ne), h1, rfl⟩⟩
   ·cases h
  ·cases h
theorem run_sliceBounds {isSl : Bool} {len cap l h : Nat} {lo hi : Option Operand} {ρ : Operand → Value} (hh : (hi = none ∧ h = len) ∨ ∃ op k i, hi = some op ∧ ρ op = .int k i ∧ 0 ≤ i ∧ h = i.toNat)
  (hl : (lo = none ∧ l = 0) ∨ ∃ op k i, lo = some op ∧ ρ op = .int k i ∧ 0 ≤ i ∧ l = i.toNat) (h1 : h ≤ cap) (h2 : l ≤ h) :
  (Instr.sliceBounds isSl len cap (lo.map ρ) (hi.map ρ) none).run P w = .ok (l, h, cap) w := by
 have b : ∀ (k : IntKind) (i : Int) (y : Nat) (c : BoundsCode), 0 ≤ i → i.toNat ≤ y → (Instr.sliceBound (.int k i) y c).run P w = .ok i.toNat w := fun k i y c hi hy => by
  simp only [Instr.sliceBound, asIntOf, Sem.run_bind, Sem.run_pure, Result.andThen_ok]
  rw [if_pos ⟨hi, by omega⟩, Sem.run_pure]
 unfold Instr.sliceBounds
 rcases hh with ⟨rfl, rfl⟩ | ⟨op, k, i, rfl, ho, hi, rfl⟩ <;> rcases hl with ⟨rfl, rfl⟩ | ⟨op', k', i', rfl, ho', hi', rfl⟩
 ·simp
 ·simp [ho', b k' i' _ _ hi' h2]
 ·simp [ho, b k i _ _ hi h1]
 ·simp [ho, ho', b k i _ _ hi h1, b k' i' _ _ hi' h2]
theorem exec_slice {ρ : Operand → Value} {t : TypeId} {x : Operand} {lo hi : Option Operand} {val : Value} {u : TypeDesc} (ho : o.op = .slice t x lo hi none) (hu : P.underlying t = some u) (hn : ∀ n e, u ≠ .array n e)
  (hr : (Instr.slice t (ρ x) (lo.map ρ) (hi.map ρ) none).run P w = .ok val w) : (execOp ρ o).run P w = .ok (.value val) w := by
 have : (Instr.sliceAt t (ρ x) (lo.map ρ) (hi.map ρ) none).run P w = .ok val w := by
  unfold Instr.sliceAt
  simp only [Sem.run_bind, run_underlying' hu, Result.andThen_ok]
  cases u <;> first | exact hr | exact absurd rfl (hn _ _)
 simp only [execOp, ho, Option.map_none, Sem.run_bind, this, Result.andThen_ok, Sem.run_pure]
theorem slice_len {α : Type} {s : List α} {l h : Nat} (h1 : h ≤ s.length) (h2 : l ≤ h) : (List.drop l (List.take h s)).length = h - l := by simp; omega
theorem slice_nil {α : Type} {l h : Nat} : List.drop l (List.take h ([] : List α)) = [] := by simp
theorem slice_nth {α : Type} {s : List α} {l h i : Nat} {y : α} (hy : nth (List.drop l (List.take h s)) i = some y) : nth s (l + i) = some y := by
 unfold nth at hy ⊢
 rw [List.getElem?_drop, List.getElem?_take] at hy
 split at hy
 ·exact hy
 ·cases hy
theorem extract_eq {s : List UInt8} {l h : Nat} : (⟨⟨s⟩⟩ : ByteArray).extract l h = ⟨⟨List.drop l (List.take h s)⟩⟩ := by
 have := ByteArray.extract_mk s l h
 rw [List.drop_take]; exact this
theorem sliceK_sound {t : TypeId} {x : Operand} {lo hi : Option Operand} (hc : Ctx E.P H S β a w o g) (hs : Sub gv g) (hm : o.op = .slice t x lo hi none)
  (hk : sliceK gv o (E.ty t) x lo hi some = some us) : OpSound E.P H S β a w o (g.ups us) := by
 unfold sliceK at hk
 split at hk
 ·rename_i s f ht hd
  obtain ⟨h, hk, hh⟩ := boundK_inv hc hs hk
  obtain ⟨l, hk, hl⟩ := boundK_inv hc hs hk
  simp only [Bool.cond_eq_ite] at hk
  split at hk
  ·rename_i h1
   split at hk
   ·rename_i h2
    simp only [Nat.ble_eq] at h1 h2
    obtain ⟨c, hcv, hr⟩ := dataOf_sound hc.rel (dataOf_mono hs hd)
    simp only [Rd] at hr; subst hr
    have ex : a.eval x = .string ⟨⟨s⟩⟩ := evl_eval hcv
    have hu := ty_str ht
    refine DV.str.look hc.rel hc.dead hc.opIn hk (exec_slice hm hu (by simp) ?_)
    rw [ex]
    have hb := run_sliceBounds (P := E.P) (w := w) (isSl := false) (len := (⟨⟨s⟩⟩ : ByteArray).size) (cap := (⟨⟨s⟩⟩ : ByteArray).size) hh hl h1 h2
    unfold Instr.slice
    simp only [Sem.run_bind, run_underlying' hu, Result.andThen_ok, Option.isSome_none, Bool.false_eq_true, if_false, hb, Sem.run_pure]
    congr 2
    exact extract_eq
   ·cases hk
  ·cases hk
 ·rename_i τ τ' s f ht hd
  split at hk
  ·rename_i e; subst e
   split at hk
   ·rename_i us' hp
    obtain ⟨h, hk, hh⟩ := boundK_inv hc hs hk
    obtain ⟨l, hk, hl⟩ := boundK_inv hc hs hk
    simp only [Bool.cond_eq_ite] at hk
    split at hk
    ·rename_i h1
     split at hk
     ·rename_i h2
      simp only [Nat.ble_eq] at h1 h2
      obtain ⟨dd, ho, rfl⟩ := outp_some hk
      obtain ⟨hp', _, halive⟩ := publish_mono hs hp
      obtain ⟨S1, β1, c, hrel, hst, hcv, hr⟩ := publish_sound hc.rel hp' (dataOf_mono hs hd)
      simp only [Rd] at hr
      obtain ⟨ad, cap, rfl, hlc, hr⟩ := hr
      have ex : a.eval x = .slice ad (List.length s) cap := evl_eval hcv
      obtain ⟨e, he, h7⟩ := tyN_sl ht
      have hb := run_sliceBounds (P := E.P) (w := w) (isSl := true) (len := List.length s) (cap := cap) hh hl (by omega) h2
      have hrun : (execOp a.eval o).run E.P w = .ok (.value (.slice (if cap = l then ad else ad.map (·.add (l * τ.size))) (h - l) (cap - l))) w := by
       refine exec_slice hm he (by simp) ?_
       rw [ex]
       unfold Instr.slice
       simp only [Sem.run_bind, run_underlying' he, Result.andThen_ok, hb, run_sizeOf' h7, Sem.run_pure]
      refine look_sound (g := g) (g1 := g.ups us') (V1 := vals a) ho (opIn_dst hc.opIn ho) hrel hst (fun _ _ => rfl) (hc.dead.ups fun u hu => hc.dead.lt (halive u hu)) (fun _ _ => rfl) hrun ?_
      have hlen : List.length (List.drop l (List.take h s)) = h - l := slice_len h1 h2
      refine dat_free (c := [.slice (if cap = l then ad else ad.map (·.add (l * τ.size))) (h - l) (cap - l)]) ?_ rfl
      simp only [Rd]
      refine ⟨_, _, by rw [hlen], by rw [hlen]; omega, ?_⟩
      rcases hr with hr | ⟨b, oo, cs, rfl, hS, hB, hz, hr⟩
      ·left; rw [hr]; exact slice_nil
      ·by_cases hcl : cap = l
       ·left
        have : h = l := by omega
        apply List.length_eq_zero_iff.1; omega
       ·right
        refine ⟨b, oo + l * τ.size, cs, by rw [if_neg hcl]; simp [addr_add], hS, hB, ?_, fun i y hy => ?_⟩
        ·rw [hlen]
         have : (h - l) * τ.size + l * τ.size ≤ List.length s * τ.size := by rw [← Nat.add_mul]; exact Nat.mul_le_mul_right _ (by omega)
         omega
        ·have hy' : nth s (l + i) = some y := slice_nth hy
         have := hr (l + i) y hy'
         rw [Nat.add_mul, ← Nat.add_assoc] at this
         exact this
     ·cases hk
    ·cases hk
   ·cases hk
  ·cases hk
 ·cases hk
theorem tup_get : ∀ {i : Nat} {t : Ty} {f : Fl} {x : t.D} {c : List Value} {k : Key} {e : Dat}, VRel S β H w k t f x c → getP (fieldPath i) t f x = some e →
  ∃ ci, (tupL t c)[i]? = some (valOf e.t ci) ∧ VRel S β H w (k ++ keyP (fieldPath i)) e.t e.f e.x ci
 | 0, .pair s u, f, x, c, k, e, hv, hg => by
  simp only [fieldPath, getP, Option.some.injEq] at hg; subst hg
  exact ⟨_, rfl, by simpa [fieldPath, keyP] using (VRel_parts hv).1⟩
 | i + 1, .pair s u, f, x, c, k, e, hv, hg => by
  simp only [fieldPath, getP] at hg
  obtain ⟨ci, h1, h2⟩ := tup_get (VRel_parts hv).2 hg
  exact ⟨ci, by simpa [tupL] using h1, by simpa [fieldPath, keyP] using h2⟩
theorem hasElm_field : ∀ {i : Nat}, hasElm (fieldPath i) = false
 | 0 => rfl
 | i + 1 => by simp only [fieldPath, hasElm, PS.isElm, Bool.false_or]; exact hasElm_field
theorem extractK_sound {x : Operand} {i : Nat} (hc : Ctx P H S β a w o g) (hs : Sub gv g) (hm : o.op = .extract x i)
  (hk : extractK gv o x i some = some us) : OpSound P H S β a w o (g.ups us) := by
 unfold extractK at hk
 split at hk
 ·rename_i s
  split at hk
  ·rename_i d hd
   have hsub := hs.get hd (by simp)
   have hd' : (g s).sv = .tup d := by rw [hsub]; exact hd
   have hss := hc.rel.slots s
   rw [hd'] at hss
   obtain ⟨c, hv, hV⟩ := hss
   split at hk
   ·rename_i e hg
    obtain ⟨ci, h1, h2⟩ := tup_get hv hg
    have ex : a.eval (.tmp s) = tupOf d.t c := evl_eval (x := .tmp s) hV
    have hr : (execOp a.eval o).run P w = .ok (.value (valOf e.t ci)) w := by
     have h1' : (tupL d.t c).toArray[i]? = some (valOf e.t ci) := by simpa using h1
     simp only [execOp, hm, ex, tupOf, Instr.extract, h1', Sem.run_bind, Sem.run_pure, Result.andThen_ok]
    split at hk
    ·rename_i hf
     have hf := setD_of_free hf
     rw [hf, VRel_sh] at h2
     exact DV.look ⟨hf, ci, h2, rfl⟩ hc.rel hc.dead hc.opIn hk hr
    ·split at hk
     ·rename_i hw
      obtain ⟨dd, ho, rfl⟩ := outp_some hk
      have hN := hc.dead a.tmps.size (Nat.le_refl _)
      have hsN := hc.dead.lt (show (g s).sv ≠ .dead by rw [hd']; simp)
      have hstep : Rel H a.tmps.size (g.up (.put s (.tup ⟨d.t, d.x, setF (fieldPath i) d.f .gone⟩))) (vals a) w S (rekey β (s :: keyP (fieldPath i)) [a.tmps.size]) := by
       refine hc.rel.put (hc.rel.sane.rekey _ _) (fun b hb => ⟨hb, rfl⟩) (fun j k b hj ha hb => ⟨?_, rfl⟩) (fun _ _ => rfl) ?_
       ·have hjn : j ≠ a.tmps.size := fun e' => ha (e' ▸ hN)
        rw [rekey_else (strip_head hjn) (strip_head hj)]; exact hb
       ·refine ⟨c, VRel_gone_at (fun b hb => ⟨hb, rfl⟩) hasElm_field hg (whole_base hw) (fun k b hk hb => ⟨?_, rfl⟩) hv, hV⟩
        simp only [List.cons_append, List.nil_append] at hb ⊢
        rw [rekey_else (strip_head (by omega)) (strip_keep hk)]; exact hb
      have hhand := hstep.hand (n := a.tmps.size) (d := e) (c := ci) (VRel_rekey (by simpa using h2))
      intro K Q hK
      have hdd := opIn_dst hc.opIn ho
      refine wp_value hr (hK _ _ S _ put_size put_defers ?_ ((Step.rekey (s :: keyP (fieldPath i)) [a.tmps.size]).trans (Step.rekey [a.tmps.size] [dd])))
      rw [ho, vals_put hdd]
      exact hhand.land upN_self (Nat.le_refl _) (by simp [upd]) (fun i hi => upN_at (by omega)) (hc.dead.up hsN) (fun i hi => by simp only [upd]; rw [if_neg (by omega)]) hdd
     ·cases hk
   ·cases hk
  ·cases hk
 ·cases hk
end
end Go.Rf

end
section
namespace Go.Rf
set_option linter.unusedSectionVars false
variable [T : Laid]
section
variable {P : Program} {H : Nat → Option (List Value)} {N : Nat} {g g' σ : View} {V V' : Nat → Option Value} {w w' : World} {S S' : Nat → Prop} {β β' : Key → Option Nat} {a : Act} {o : Oper}
variable {E : Env} {gv : View} {us : List Up}
def again (z : Array Value) (n : Nat) : Array Value := (Array.range n).map fun i => z[i % z.size]!
theorem again_size {z : Array Value} {n : Nat} : (again z n).size = n := by simp [again]
theorem again_win {z : Array Value} {m i : Nat} (hi : i < m) : win (again z (m * z.size)).toList (i * z.size) z.size = z.toList := by
 rcases Nat.eq_zero_or_pos z.size with e | e
 ·have : z = #[] := Array.size_eq_zero_iff.1 e
  subst this; simp [win]
 ·have hle : (i + 1) * z.size ≤ m * z.size := Nat.mul_le_mul_right _ hi
  rw [Nat.add_mul, Nat.one_mul] at hle
  apply List.ext_getElem?
  intro j
  rw [win_get]
  by_cases hj : j < z.size
  ·rw [if_pos hj]
   have h1 : i * z.size + j < (again z (m * z.size)).size := by rw [again_size]; omega
   rw [Array.getElem?_toList, Array.getElem?_eq_getElem h1]
   simp only [again, Array.getElem_map, Array.getElem_range]
   have : (i * z.size + j) % z.size = j := by rw [Nat.mul_comm, Nat.mul_add_mod, Nat.mod_eq_of_lt hj]
   rw [this, Array.getElem?_toList, Array.getElem?_eq_getElem hj, getElem!_pos z j hj]
  ·rw [if_neg hj]; simp; omega
structure SlOK (E : Env) (t e : TypeId) (τ : Ty) (z : Value) : Prop where
 und : E.P.underlying t = some (.slice e)
 elem : tyN E.P 7 e = some τ
 zero : ∀ w, (zeroValue e).run E.P w = .ok z w
 cells : zcells τ z.cells.toList = true
 bytes : ∃ i, E.P.info? e = some i ∧ i.bytes ≤ 128
theorem sl_inv {t : TypeId} {τ' : Ty} (h : E.sl t = some τ') : ∃ τ e z, τ' = .sl τ ∧ SlOK E t e τ z := by
 unfold Env.sl at h
 split at h
 ·rename_i τ e ht hu
  split at h
  ·rename_i hz
   simp only [Option.some.injEq] at h
   simp only [Bool.and_eq_true] at hz
   obtain ⟨hz, hb⟩ := hz
   obtain ⟨e', he', h7⟩ := tyN_sl ht
   rw [hu] at he'
   simp only [Option.some.injEq, TypeDesc.slice.injEq] at he'
   subst he'
   unfold Env.zok at hz
   split at hz
   ·rename_i i hi
    split at hz
    ·rename_i v hv
     refine ⟨τ, e, v, h.symm, hu, h7, fun w => by unfold zeroValue; simp [run_typeInfo' hi, hv], hz, i, hi, ?_⟩
     unfold Env.small at hb
     rw [hi] at hb
     simpa [Nat.ble_eq] using hb
    ·cases hz
   ·cases hz
  ·cases h
 ·cases h
theorem SlOK.size {t e : TypeId} {τ : Ty} {z : Value} (h : SlOK E t e τ z) : z.cells.size = τ.size := by
 have := VRel_len (zero_VRel (S := fun _ => False) (β := fun _ => none) (H := fun _ => none) (w := default) false (k := []) h.cells)
 simpa using this
theorem wrap_small {n : Int} (h0 : 0 ≤ n) (h1 : n ≤ 1099511627776) : IntKind.i64.wrap n = n := by
 simp only [IntKind.wrap, IntKind.bits, IntKind.signed]
 have : n % (2 ^ 64 : Int) = n := Int.emod_eq_of_lt h0 (by omega)
 simp only [this]
 simp
 intro h
 omega
theorem rows_zero {τ : Ty} {z : Value} {k : Key} {mv : Bool} {m : Nat} (hz : zcells τ z.cells.toList = true) (hs : z.cells.size = τ.size) {i : Nat} (hi : i < m) :
  VRel S β H w k τ (Fl.nw mv τ) τ.dflt (win (again z.cells (m * τ.size)).toList (i * τ.size) τ.size) := by
 rw [← hs, again_win hi]; exact zero_VRel mv hz
theorem run_makeSlice {t e : TypeId} {τ : Ty} {z : Value} {n m : Int} (h : SlOK E t e τ z) (h0 : nonneg n = true) (h1 : leI n m = true) (h2 : lenOK m.toNat = true) :
  (Instr.makeSlice t (.int .i64 n) (.int .i64 m)).run E.P w = .ok (.slice (some ⟨w.heap.size, 0, none⟩) n.toNat m.toNat) { w with heap := w.heap.push (.cells (again z.cells (m.toNat * τ.size)) e) } := by
 simp only [nonneg, leI, decide_eq_true_eq] at h0 h1
 have h2 := lenOK_le h2
 obtain ⟨i, hi, hb⟩ := h.bytes
 have wn : IntKind.i64.wrap n = n := wrap_small h0 (by omega)
 have wm : IntKind.i64.wrap m = m := wrap_small (by omega) (by omega)
 have hsz : (sizeOf e).run E.P w = .ok τ.size w := run_sizeOf' h.elem
 have hmul : (i.bytes : Int) * m ≤ 2 ^ 48 := by
  have : (i.bytes : Int) * m ≤ 128 * 1099511627776 := Int.mul_le_mul (by omega) (by omega) (by omega) (by omega)
  omega
 unfold Instr.makeSlice
 simp only [Sem.run_bind, run_underlying' h.und, Result.andThen_ok, asInt, asIntOf, Sem.run_pure, run_typeInfo' hi, wn, wm]
 have hc : ¬ ((((decide (m < 0) || decide ((i.bytes : Int) * m > 2 ^ 48)) || decide (n < 0)) || decide (n > m)) = true) := by
  simp only [Bool.or_eq_true, decide_eq_true_eq]
  omega
 rw [if_neg hc]
 by_cases hn : m.toNat * τ.size = 0
 ·have e0 : Array.range 0 = #[] := rfl
  simp [run_askRoom, hsz, hn, newRow, again, e0]
 ·simp [run_askRoom, hsz, hn, newRow, again, h.zero]
theorem makeSliceK_sound {mv : Bool} {t : TypeId} {l c : Operand} (hc : Ctx E.P H S β a w o g) (hs : Sub gv g) (hm : o.op = .makeSlice t l c)
  (hk : makeSliceK E gv mv o t l c some = some us) : OpSound E.P H S β a w o (g.ups us) := by
 unfold makeSliceK at hk
 split at hk
 ·rename_i τ n m ht hl hcap
  simp only [Bool.cond_eq_ite] at hk
  split at hk
  ·rename_i h0
   split at hk
   ·rename_i h1
    split at hk
    ·rename_i h2
     obtain ⟨d, ho, rfl⟩ := outp_some hk
     obtain ⟨τ2, e, z, heq, hok⟩ := sl_inv ht
     simp only [Ty.sl.injEq] at heq
     subst heq
     have el := evl_eval (int_of hc.rel (hs.sv hl (by simp)) sh_ne)
     have ec := evl_eval (int_of hc.rel (hs.sv hcap (by simp)) sh_ne)
     have hrun := run_makeSlice (w := w) hok h0 h1 h2
     have h01 : n.toNat ≤ m.toNat := by simp only [leI, decide_eq_true_eq] at h1; omega
     refine fresh0 (w' := { w with heap := w.heap.push (.cells (again z.cells (Int.toNat m * τ.size)) e) }) (val := .slice (some ⟨w.heap.size, 0, none⟩) (Int.toNat n) (Int.toNat m)) hc ho ?_ ⟨rfl, rfl, rfl, rfl⟩ ?_
     ·simp only [execOp, hm, el, ec, Sem.run_bind]
      exact congrArg (fun r : Result Value => Result.andThen r fun v w' => Result.ok (Next.value v) w') hrun
     ·refine ⟨[.slice (some ⟨w.heap.size, 0, none⟩) (Int.toNat n) (Int.toNat m)], ?_, by simp [upd, valOf, Ty.agg]⟩
      simp only [VRel, Fl.base]
      refine ⟨by simp [Pins, Fl.pins], some ⟨w.heap.size, 0, none⟩, Int.toNat m, by rw [List.length_replicate], by rw [List.length_replicate]; exact h01, .inr ⟨w.heap.size, 0, _, rfl, by simp [setK], OBlk.new ⟨rfl, rfl, rfl, rfl⟩ (.inl rfl), ?_, fun i y hy => ?_⟩⟩
      ·rw [again_size]; omega
      ·have hy' : (List.replicate (Int.toNat n) τ.dflt)[i]? = some y := hy
       rw [List.getElem?_replicate] at hy'
       split at hy'
       ·rename_i hi
        simp only [Option.some.injEq] at hy'; subst hy'
        simp only [Nat.zero_add]
        exact rows_zero hok.cells hok.size (by omega)
       ·cases hy'
    ·cases hk
   ·cases hk
  ·cases hk
 ·cases hk
theorem nth_map {α γ : Type} {f : α → γ} {l : List α} {i : Nat} {y : γ} (h : nth (l.map f) i = some y) : ∃ b, l[i]? = some b ∧ y = f b := by
 unfold nth at h
 rw [List.getElem?_map, Option.map_eq_some_iff] at h
 obtain ⟨b, h1, h2⟩ := h
 exact ⟨b, h1, h2.symm⟩
theorem strBytes_VRel {xd : List UInt8} {e : TypeId} {d cap : Nat} (hcap0 : cap = grownCap w xd.length 0 e) :
  VRel S (setK β [d] w.heap.size) H (w.drew.alloc (.cells (bytesRow ⟨⟨xd⟩⟩ cap) e ((bytesRow ⟨⟨xd⟩⟩ cap).size, (bytesRow ⟨⟨xd⟩⟩ cap).size + 1))) [d] (.sl (.int .u8)) (.own .sh) (List.map (fun b : UInt8 => (b.toNat : Int)) xd)
   [.slice (some ⟨w.heap.size, 0, none⟩) (⟨⟨xd⟩⟩ : ByteArray).size cap] := by
 have hcap : xd.length ≤ cap := by rw [hcap0]; exact grownCap_ge w _ 0 e
 have hlen : (List.map (fun b : UInt8 => (b.toNat : Int)) xd).length = (⟨⟨xd⟩⟩ : ByteArray).size := by rw [List.length_map]; rfl
 have hsz : (bytesRow ⟨⟨xd⟩⟩ cap).size = cap := by
  simp only [bytesRow, Array.size_append, Array.size_map, Array.size_replicate]
  have h3 : (⟨⟨xd⟩⟩ : ByteArray).data.size = xd.length := rfl
  have h2 : (⟨⟨xd⟩⟩ : ByteArray).size = xd.length := rfl
  rw [h3, h2]
  omega
 simp only [VRel, Fl.base]
 refine ⟨by simp [Pins, Fl.pins], some ⟨w.heap.size, 0, none⟩, cap, congrArg (fun n => [Value.slice (some ⟨w.heap.size, 0, none⟩) n cap]) hlen.symm, Nat.le_trans (Nat.le_of_eq hlen) hcap, .inr ⟨w.heap.size, 0, _, rfl, by simp [setK], OBlk.new ⟨rfl, rfl, rfl, rfl⟩ (.inr ⟨rfl, Nat.le_refl _⟩), ?_, fun i y hy => ?_⟩⟩
 ·rw [hsz]; simp [Ty.size]
 ·obtain ⟨b, hb1, hb2⟩ := nth_map hy
  subst hb2
  have hi : i < xd.length := (List.getElem?_eq_some_iff.1 hb1).1
  have hbr := bytesRow_at ⟨⟨xd⟩⟩ cap i hi
  refine ⟨by simp [Pins, Fl.pins], ?_⟩
  simp only [Rd, Ty.size, Nat.mul_one, Nat.zero_add]
  apply List.ext_getElem?
  intro j
  rw [win_get]
  cases j with
  | zero =>
   rw [if_pos (by decide), Nat.add_zero, Array.getElem?_toList, hbr]
   have : b = xd[i] := (List.getElem?_eq_some_iff.1 hb1).2.symm
   subst this
   rfl
  | succ j => rw [if_neg (by omega)]; simp
theorem strBytes_sound {s t : TypeId} {x : Operand} (hc : Ctx E.P H S β a w o g) (hs : Sub gv g) (ho : o.op = .convert s t x) (h1 : E.ty s = some .str) (h2 : E.ty t = some (.sl (.int .u8)))
  (hk : convK (E.ty s) (E.ty t) (dataOf gv (sv gv x)) (fun d => outp o [] (.dat d) some) = some us) : OpSound E.P H S β a w o (g.ups us) := by
 cases hd : dataOf gv (sv gv x) with
 | none => rw [hd, h1, h2] at hk; simp [convK] at hk
 | some d =>
  obtain ⟨c, hcv, hr⟩ := dataOf_sound hc.rel (dataOf_mono hs hd)
  have ex := evl_eval hcv
  rw [hd, h1, h2] at hk
  obtain ⟨td, xd, fd⟩ := d
  cases td <;> simp only [convK, reduceCtorEq] at hk
  obtain ⟨dd, hdst, rfl⟩ := outp_some hk
  simp only [Rd] at hr; subst hr
  have hx : a.eval x = .string ⟨⟨xd⟩⟩ := ex
  obtain ⟨e, hse, he⟩ := tyN_sl h2
  have hrun := run_bytes_of_string (P := E.P) w s t e ⟨⟨xd⟩⟩ (ty_str h1) hse (tyN_int he)
  refine fresh0 (ob := .cells (bytesRow ⟨⟨xd⟩⟩ (grownCap w (⟨⟨xd⟩⟩ : ByteArray).size 0 e)) e ((bytesRow ⟨⟨xd⟩⟩ (grownCap w (⟨⟨xd⟩⟩ : ByteArray).size 0 e)).size, (bytesRow ⟨⟨xd⟩⟩ (grownCap w (⟨⟨xd⟩⟩ : ByteArray).size 0 e)).size + 1))
   (w' := w.drew.alloc (.cells (bytesRow ⟨⟨xd⟩⟩ (grownCap w (⟨⟨xd⟩⟩ : ByteArray).size 0 e)) e ((bytesRow ⟨⟨xd⟩⟩ (grownCap w (⟨⟨xd⟩⟩ : ByteArray).size 0 e)).size, (bytesRow ⟨⟨xd⟩⟩ (grownCap w (⟨⟨xd⟩⟩ : ByteArray).size 0 e)).size + 1)))
   (val := .slice (some ⟨w.heap.size, 0, none⟩) (⟨⟨xd⟩⟩ : ByteArray).size (grownCap w (⟨⟨xd⟩⟩ : ByteArray).size 0 e)) hc hdst ?_ ⟨rfl, rfl, rfl, rfl⟩ ?_
  ·simp only [execOp, ho, hx, Sem.run_bind]
   exact congrArg (fun r : Result Value => Result.andThen r fun v w' => Result.ok (Next.value v) w') hrun
  ·exact ⟨_, strBytes_VRel rfl, by simp [upd, valOf, Ty.agg]⟩
end
end Go.Rf

end
section
namespace Go.Rf
set_option linter.unusedSectionVars false
variable [T : Laid]
section
variable {P : Program} {H : Nat → Option (List Value)} {N : Nat} {g g' σ : View} {V V' : Nat → Option Value} {w w' : World} {S S' : Nat → Prop} {β β' : Key → Option Nat} {a : Act} {o : Oper}
variable {E : Env} {gv : View} {us : List Up}
theorem fold_splice {off : Nat} : ∀ {vs : List Value} {k : Nat} {cells : Array Value}, off + k + vs.length ≤ cells.size →
  ((vs.zipIdx k).foldl (fun (cs : Array Value) (x : Value × Nat) => cs.setIfInBounds (off + x.2) x.1) cells).toList = splice cells.toList (off + k) vs
 | [], k, cells, _ => by simp [splice]
 | v :: vs, k, cells, h => by
  simp only [List.length_cons] at h
  simp only [List.zipIdx_cons, List.foldl_cons]
  rw [fold_splice (by simp; omega)]
  apply List.ext_getElem?
  intro j
  rw [splice_get (by simp; omega), splice_get (by simp; omega), Array.toList_setIfInBounds, List.getElem?_set]
  simp only [List.length_cons]
  by_cases h1 : j < off + k
  ·rw [if_pos (by omega), if_neg (by omega), if_pos h1]
  ·rw [if_neg h1]
   by_cases h2 : j = off + k
   ·subst h2
    rw [if_pos (by omega), if_pos rfl, if_pos (by simp; omega), if_pos (by omega)]
    simp
   ·have e : j - (off + k) = (j - (off + (k + 1))) + 1 := by omega
    rw [if_neg (show ¬ j < off + (k + 1) by omega), e, List.getElem?_cons_succ]
    by_cases h3 : j < off + (k + 1) + vs.length
    ·rw [if_pos h3, if_pos (show j < off + k + (vs.length + 1) by omega)]
    ·rw [if_neg h3, if_neg (show ¬ off + k = j by omega), if_neg (show ¬ j < off + k + (vs.length + 1) by omega)]
def apartW (place : Nat → Option (Nat × Nat)) (i j : Nat) : Prop := ∀ o s o' s', place i = some (o, s) → place j = some (o', s') → o + s ≤ o' ∨ o' + s' ≤ o
theorem fill_ok {place : Nat → Option (Nat × Nat)} : ∀ {ps : List (Nat × Value)} {cells : Array Value}, (∀ p ∈ ps, ∃ off, place p.1 = some (off, p.2.cells.size) ∧ off + p.2.cells.size ≤ cells.size) → ps.Pairwise (fun p q => apartW place p.1 q.1) →
  ∃ r, Instr.fill place cells ps = some r ∧ r.size = cells.size ∧ (∀ p ∈ ps, ∀ off s, place p.1 = some (off, s) → win r.toList off s = p.2.cells.toList) ∧
   (∀ o m, (∀ p ∈ ps, ∀ off s, place p.1 = some (off, s) → o + m ≤ off ∨ off + s ≤ o) → win r.toList o m = win cells.toList o m)
 | [], cells, _, _ => ⟨cells, rfl, rfl, by simp, fun _ _ _ => rfl⟩
 | (i, v) :: ps, cells, h, hp => by
  obtain ⟨off, h1, h2⟩ := h (i, v) (by simp)
  simp only at h1 h2
  rw [List.pairwise_cons] at hp
  let c1 := v.cells.zipIdx.foldl (fun (cs : Array Value) (x : Value × Nat) => cs.setIfInBounds (off + x.2) x.1) cells
  have hc1 : c1.toList = splice cells.toList off v.cells.toList := by
   have := fold_splice (off := off) (vs := v.cells.toList) (k := 0) (cells := cells) (by simpa using h2)
   rw [Nat.add_zero] at this
   rw [← this]
   show (v.cells.zipIdx.foldl _ cells).toList = _
   rw [← Array.foldl_toList, Array.toList_zipIdx]
  have hs1 : c1.size = cells.size := by
   have := congrArg List.length hc1
   rw [splice_len (by simpa using h2)] at this
   simpa using this
  obtain ⟨r, k1, k2, k3, k4⟩ := fill_ok (place := place) (ps := ps) (cells := c1) (fun p hpm => by
   obtain ⟨off', e1, e2⟩ := h p (by simp [hpm])
   exact ⟨off', e1, by rw [hs1]; exact e2⟩) hp.2
  refine ⟨r, ?_, k2.trans hs1, ?_, ?_⟩
  ·unfold Instr.fill
   rw [h1]
   simp only
   rw [if_neg (by simp; omega)]
   exact k1
  ·intro p hpm off' s hpl
   rcases List.mem_cons.1 hpm with rfl | hpm
   ·simp only at hpl
    rw [h1] at hpl
    simp only [Option.some.injEq, Prod.mk.injEq] at hpl
    obtain ⟨rfl, rfl⟩ := hpl
    rw [k4 off v.cells.size (fun q hq o' s' hq' => hp.1 q hq off _ o' s' h1 hq'), hc1]
    have := win_splice_in (c := cells.toList) (d := v.cells.toList) (o := off) (by simpa using h2)
    simpa using this
   ·exact k3 p hpm off' s hpl
  ·intro oo m hall
   rw [k4 oo m (fun p hpm => hall p (by simp [hpm])), hc1]
   exact win_splice_out (by simpa using h2) (by simpa using hall (i, v) (by simp) off _ h1)
structure Hand where
 n : Nat
 d : Dat
 c : List Value
theorem sub_hand (hs : Sub gv g) {n : Nat} {d : Dat} (hn : (gv n).sv = .dead) : Sub gv (upN g n d) := fun i => by
 by_cases e : i = n
 ·subst e; exact .inl hn
 ·rw [upN_at e]; exact hs i
theorem takeParts_sound {mv : Bool} {ts : Nat → Option Ty} : ∀ {l : List (Nat × Operand)} {g gv : View} {V : Nat → Option Value} {S : Nat → Prop} {β : Key → Option Nat} {n : Nat} {ds : List (Nat × Dat)} {us : List Up},
  Rel H N g V w S β → Sub gv g → DeadFrom N gv → (∀ i, n ≤ i → (g i).sv = .dead) → N ≤ n → takeParts gv mv ts l = some (ds, us) →
  ∃ (S1 : Nat → Prop) (β1 : Key → Option Nat) (g1 : View) (V1 : Nat → Option Value) (cs : List (List Value)), Rel H N g1 V1 w S1 β1 ∧ Step w S β w S1 β1 ∧ Sub (gv.ups us) g1 ∧ DeadFrom N (gv.ups us) ∧ (∀ i, i < N → g1 i = (g.ups us) i ∧ V1 i = V i) ∧ (∀ i, N ≤ i → i < n → g1 i = g i ∧ V1 i = V i) ∧
   (∀ i, n + ds.length ≤ i → (g1 i).sv = .dead) ∧ cs.length = ds.length ∧ (∀ u ∈ us, u.slot < N) ∧
   ds.map (·.1) = l.map (·.1) ∧
   (∀ j (p : Nat × Dat) (c : List Value), ds[j]? = some p → cs[j]? = some c → (g1 (n + j)).sv = .dat p.2 ∧ V1 (n + j) = some (valOf p.2.t c) ∧ c.length = p.2.t.size ∧ p.2.f.whole = true ∧
    ∃ x, l[j]? = some x ∧ ((∀ q ∈ l, ∀ s, q.2 = .tmp s → s < N) → evl V x.2 = some (valOf p.2.t c)))
 | [], g, gv, V, S, β, n, ds, us, h, hs, hD, hdead, hN, ht => by
  simp only [takeParts, Option.some.injEq, Prod.mk.injEq] at ht
  obtain ⟨rfl, rfl⟩ := ht
  exact ⟨S, β, g, V, [], h, .refl, hs, hD, fun _ _ => ⟨rfl, rfl⟩, fun _ _ _ => ⟨rfl, rfl⟩, by simpa using hdead, rfl, by simp, rfl, by simp⟩
 | (i, x) :: l, g, gv, V, S, β, n, ds, us, h, hs, hD, hdead, hN, ht => by
  simp only [takeParts] at ht
  split at ht
  ·rename_i d us1 ht1
   simp only [Option.map_eq_some_iff, Prod.mk.injEq] at ht
   obtain ⟨⟨ds2, us2⟩, ht2, rfl, rfl⟩ := ht
   simp only at *
   obtain ⟨ht1', hsub1⟩ := take_mono hs ht1
   have hnd := hdead n (Nat.le_refl _)
   have halive := take_alive ht1
   have hslot : ∀ u ∈ us1, u.slot < N := fun u hu => hD.lt (halive u hu)
   have hD1 : DeadFrom N (gv.ups us1) := hD.ups hslot
   obtain ⟨S1, β1, c, k1, k2, k3, k4⟩ := take_sound h ht1' hnd hN
   have hdead' : ∀ i, n + 1 ≤ i → ((upN (g.ups us1) n d) i).sv = .dead := fun i hi => by
    rw [upN_at (by omega)]
    have : ∀ (us : List Up) (g : View), (∀ u ∈ us, u.slot < N) → (g i).sv = .dead → ((g.ups us) i).sv = .dead := by
     intro us
     induction us with
     | nil => intro g _ h; exact h
     | cons u us ih => intro g hu h; exact ih (g.up u) (fun v hv => hu v (by simp [hv])) (by rw [up_ne (by have := hu u (by simp); omega)]; exact h)
    exact this us1 g hslot (hdead i (by omega))
   obtain ⟨S2, β2, g2, V2, cs, q1, q2, q3, q4, q5, q6, q7, q8, q9, q10, q11⟩ := takeParts_sound (l := l) (g := upN (g.ups us1) n d) (gv := gv.ups us1) (n := n + 1) k1 (sub_hand hsub1 (hD1 n hN)) hD1 hdead' (by omega) ht2
   have upsN : ∀ (us : List Up) (g : View) (j : Nat), j ≠ n → ((upN g n d).ups us) j = (g.ups us) j := by
    intro us
    induction us with
    | nil => intro g j hj; exact upN_at hj
    | cons u us ih =>
     intro g j hj
     show (((upN g n d).up u).ups us) j = ((g.up u).ups us) j
     have : ∀ (g1 g2 : View), (∀ k, k ≠ n → g1 k = g2 k) → ∀ k, k ≠ n → (g1.ups us) k = (g2.ups us) k := by
      clear ih
      induction us with
      | nil => intro g1 g2 h; exact h
      | cons v vs ih2 =>
       intro g1 g2 h
       refine ih2 _ _ fun k hk => ?_
       by_cases e : k = v.slot
       ·subst e; rw [up_eq, up_eq, h _ hk]
       ·rw [up_ne e, up_ne e, h _ hk]
     refine this _ _ (fun k hk => ?_) j hj
     by_cases e : k = u.slot
     ·subst e; rw [up_eq, up_eq, upN_at hk]
     ·rw [up_ne e, up_ne e, upN_at hk]
   refine ⟨S2, β2, g2, V2, c :: cs, q1, k2.trans q2, by rw [ups_append]; exact q3, by rw [ups_append]; exact q4, fun j hj => ?_, fun j h1 h2 => ?_, fun j hj => q7 j (by simp at hj ⊢; omega), by simp [q8], ?_, by simp [q10], ?_⟩
   ·obtain ⟨e1, e2⟩ := q5 j hj
    rw [e1, e2, ups_append, upsN us2 _ j (by omega)]
    exact ⟨rfl, by simp only [upd]; rw [if_neg (by omega)]⟩
   ·obtain ⟨e1, e2⟩ := q6 j h1 (by omega)
    rw [e1, e2, upN_at (by omega)]
    have : ∀ (us : List Up) (g : View), (∀ u ∈ us, u.slot < N) → (g.ups us) j = g j := by
     intro us
     induction us with
     | nil => intro g _; rfl
     | cons u us ih => intro g hu; rw [show g.ups (u :: us) = (g.up u).ups us from rfl, ih (g.up u) (fun v hv => hu v (by simp [hv])), up_ne (by have := hu u (by simp); omega)]
    exact ⟨this us1 g hslot, by simp only [upd]; rw [if_neg (by omega)]⟩
   ·intro u hu
    rcases List.mem_append.1 hu with hu | hu
    ·exact hslot u hu
    ·exact q9 u hu
   ·intro j p cc hp hc
    cases j with
    | zero =>
     simp only [List.getElem?_cons_zero, Option.some.injEq] at hp hc
     subst hp; subst hc
     obtain ⟨e1, e2⟩ := q6 n hN (by omega)
     refine ⟨by rw [Nat.add_zero, e1, upN_self], by rw [Nat.add_zero, e2]; simp [upd], k4, take_whole ht1', (i, x), rfl, fun _ => k3⟩
    | succ j =>
     simp only [List.getElem?_cons_succ] at hp hc
     obtain ⟨e1, e2, e3, e4, y, e5, e6⟩ := q11 j p cc hp hc
     rw [show n + (j + 1) = n + 1 + j by omega]
     refine ⟨e1, e2, e3, e4, y, by simpa using e5, fun hlt => ?_⟩
     have hy : ∀ s, y.2 = .tmp s → s < N := hlt y (by simp [List.mem_of_getElem? e5])
     have := e6 (fun q hq => hlt q (by simp [hq]))
     revert this
     cases hyx : y.2 with
     | tmp s =>
      intro this
      simp only [evl, upd] at this ⊢
      rw [if_neg (fun e => absurd (hy s hyx) (by rw [e]; exact Nat.not_lt.2 hN))] at this; exact this
     | _ => exact fun h => h
  ·cases ht
end
end Go.Rf

end
section
namespace Go.Rf
set_option linter.unusedSectionVars false
variable [T : Laid]
section
variable {P : Program} {H : Nat → Option (List Value)} {N : Nat} {g g' σ : View} {V V' : Nat → Option Value} {w w' : World} {S S' : Nat → Prop} {β β' : Key → Option Nat} {a : Act} {o : Oper}
variable {E : Env} {gv : View} {us : List Up}
structure Mover where
 n : Nat
 dst : Key
 d : Dat
 c : List Value
theorem rename_all : ∀ {ps : List Mover} {β : Key → Option Nat}, Sane w S β → (∀ p ∈ ps, VRel S β H w [p.n] p.d.t p.d.f p.d.x p.c) →
  ps.Pairwise (fun p q => p.n ≠ q.n ∧ (∀ s, strip p.dst (q.dst ++ s) = none) ∧ ∀ s, strip q.dst (p.dst ++ s) = none) → (∀ p ∈ ps, ∀ q ∈ ps, ∀ s, strip [p.n] (q.dst ++ s) = none ∧ strip q.dst (p.n :: s) = none) →
  ∃ β', Sane w S β' ∧ Step w S β w S β' ∧ (∀ k b, (∀ p ∈ ps, strip p.dst k = none ∧ strip [p.n] k = none) → β k = some b → β' k = some b) ∧ ∀ p ∈ ps, VRel S β' H w p.dst p.d.t p.d.f p.d.x p.c
 | [], β, hs, _, _, _ => ⟨β, hs, .refl, fun _ _ _ h => h, by simp⟩
 | p :: ps, β, hs, hv, hp, hn => by
  rw [List.pairwise_cons] at hp
  obtain ⟨β', k1, k2, k3, k4⟩ := rename_all (ps := ps) (hs.rekey [p.n] p.dst) (fun q hq => by
   refine VRel_trans (fun b hb => ⟨hb, rfl⟩) (fun s b hb => ⟨?_, rfl⟩) (hv q (by simp [hq]))
   have h1 := hp.1 q hq
   rw [rekey_else]
   ·exact hb
   ·exact (hn q (by simp [hq]) p (by simp) s).2
   ·simp [strip, h1.1]) hp.2 (fun q hq r hr => hn q (by simp [hq]) r (by simp [hr]))
  refine ⟨β', k1, (Step.rekey _ _).trans k2, fun k b hk hb => ?_, fun q hq => ?_⟩
  ·refine k3 k b (fun q hq => hk q (by simp [hq])) ?_
   have := hk p (by simp)
   rw [rekey_else this.1 this.2]; exact hb
  ·rcases List.mem_cons.1 hq with rfl | hq
   ·refine VRel_trans (p := q.dst) (fun b hb => ⟨hb, rfl⟩) (fun s b hb => ⟨?_, rfl⟩) (VRel_rekey (hv q (by simp)))
    refine k3 _ b (fun r hr => ⟨(hp.1 r hr).2.2 s, (hn r (by simp [hr]) q (by simp) s).1⟩) hb
   ·exact k4 q hq
def HandsAt (g : View) (V : Nat → Option Value) (n : Nat) (ds : List (Nat × Dat)) (cs : List (List Value)) : Prop :=
 cs.length = ds.length ∧ ∀ j (p : Nat × Dat) (c : List Value), ds[j]? = some p → cs[j]? = some c → (g (n + j)).sv = .dat p.2 ∧ V (n + j) = some (valOf p.2.t c) ∧ c.length = p.2.t.size ∧ p.2.f.whole = true
def movers (n : Nat) (dst : Nat → Key) (ds : List (Nat × Dat)) (cs : List (List Value)) : List Mover :=
 ((ds.zip cs).zipIdx).map fun x => ⟨n + x.2, dst x.1.1.1, x.1.1.2, x.1.2⟩
theorem mem_movers {n : Nat} {dst : Nat → Key} {ds : List (Nat × Dat)} {cs : List (List Value)} {m : Mover} (h : m ∈ movers n dst ds cs) :
  ∃ (j : Nat) (p : Nat × Dat) (c : List Value), ds[j]? = some p ∧ cs[j]? = some c ∧ m = ⟨n + j, dst p.1, p.2, c⟩ := by
 unfold movers at h
 rw [List.mem_map] at h
 obtain ⟨⟨⟨p, c⟩, j⟩, hx, rfl⟩ := h
 rw [List.mem_zipIdx_iff_getElem?] at hx
 simp only [List.getElem?_zip_eq_some] at hx
 exact ⟨j, p, c, hx.1, hx.2, rfl⟩
theorem movers_mem {n : Nat} {dst : Nat → Key} {ds : List (Nat × Dat)} {cs : List (List Value)} {j : Nat} {p : Nat × Dat} {c : List Value} (h1 : ds[j]? = some p) (h2 : cs[j]? = some c) :
  (⟨n + j, dst p.1, p.2, c⟩ : Mover) ∈ movers n dst ds cs := by
 unfold movers
 rw [List.mem_map]
 exact ⟨((p, c), j), by rw [List.mem_zipIdx_iff_getElem?]; simp only [List.getElem?_zip_eq_some]; exact ⟨h1, h2⟩, rfl⟩
theorem nodups_nodup : ∀ {l : List Nat}, nodups l = true → l.Nodup
 | [], _ => List.nodup_nil
 | a :: l, h => by
  simp only [nodups, Bool.and_eq_true, Bool.not_eq_true', List.any_eq_false, Nat.beq_eq] at h
  exact List.nodup_cons.2 ⟨fun hm => h.1 a hm rfl, nodups_nodup h.2⟩
theorem place_all {n d : Nat} {dst : Nat → Key} {ds : List (Nat × Dat)} {cs : List (List Value)} (h : Rel H N g V w S β) (hh : HandsAt g V n ds cs) (hd : d < N) (hN : N ≤ n) (hnd : nodups (ds.map (·.1)) = true)
  (hdst : ∀ i, ∃ k, dst i = d :: k) (hfree : ∀ i j s, i ≠ j → strip (dst i) (dst j ++ s) = none) :
  ∃ β2, Sane w S β2 ∧ Step w S β w S β2 ∧ (∀ j s b, j ≠ d → j < N → β (j :: s) = some b → β2 (j :: s) = some b) ∧
   ∀ (j : Nat) (p : Nat × Dat) (c : List Value), ds[j]? = some p → cs[j]? = some c → VRel S β2 H w (dst p.1) p.2.t p.2.f p.2.x c := by
 have hnod := nodups_nodup hnd
 obtain ⟨β2, k1, k2, k3, k4⟩ := rename_all (H := H) (ps := movers n dst ds cs) h.sane (fun m hm => by
  obtain ⟨j, p, c, h1, h2, rfl⟩ := mem_movers hm
  obtain ⟨e1, e2, e3, _⟩ := hh.2 j p c h1 h2
  obtain ⟨cc, hv, hV⟩ := h.dat e1
  have := valOf_inj (Option.some.inj (hV.symm.trans e2)) (VRel_len hv) e3
  subst this; exact hv)
  (by
   unfold movers
   rw [List.pairwise_map]
   rw [List.pairwise_iff_getElem]
   intro i j hi hj hij
   simp only [List.length_zipIdx, List.length_zip] at hi hj
   simp only [List.getElem_zipIdx, List.getElem_zip, Nat.zero_add]
   have hne : (ds[i]'(by omega)).1 ≠ (ds[j]'(by omega)).1 := by
    intro e
    have := (List.pairwise_iff_getElem.1 hnod) i j (by simp; omega) (by simp; omega) hij
    simp only [List.getElem_map] at this
    exact this e
   exact ⟨by omega, fun s => hfree _ _ s hne, fun s => hfree _ _ s (Ne.symm hne)⟩)
  (fun m hm q hq s => by
   obtain ⟨j, p, c, h1, h2, rfl⟩ := mem_movers hm
   obtain ⟨j', p', c', h1', h2', rfl⟩ := mem_movers hq
   obtain ⟨k, hk⟩ := hdst p'.1
   simp only [hk]
   exact ⟨by simp [strip]; omega, by simp [strip]; intro e; omega⟩)
 refine ⟨β2, k1, k2, fun j s b hj hjN hb => k3 _ b (fun m hm => ?_) hb, fun j p c h1 h2 => k4 _ (movers_mem h1 h2)⟩
 obtain ⟨i, p, c, h1, h2, rfl⟩ := mem_movers hm
 obtain ⟨k, hk⟩ := hdst p.1
 simp only [hk]
 exact ⟨by simp [strip, Ne.symm hj], by simp [strip]; omega⟩
theorem pub_hands {n : Nat} : ∀ {m : Nat} {ds : List (Nat × Dat)} {cs : List (List Value)} {g : View} {S : Nat → Prop} {β : Key → Option Nat}, ds.length = m → Rel H N g V w S β → HandsAt g V n ds cs → N ≤ n →
  ∃ S1 β1 g1, Rel H N g1 V w S1 β1 ∧ Step w S β w S1 β1 ∧ (∀ i, i < n → g1 i = g i) ∧ (∀ i, n + m ≤ i → g1 i = g i) ∧ HandsAt g1 V n (ds.map fun p => (p.1, ⟨p.2.t, p.2.x, .sh⟩)) cs ∧ ∀ j s b, j < n → β (j :: s) = some b → β1 (j :: s) = some b := by
 intro m
 induction m with
 | zero =>
  intro ds cs g S β hm h hh hN
  have : ds = [] := List.length_eq_zero_iff.1 hm
  subst this
  exact ⟨S, β, g, h, .refl, fun _ _ => rfl, fun _ _ => rfl, by simpa using hh, fun _ _ _ _ h => h⟩
 | succ m ih =>
  intro ds cs g S β hm h hh hN
  have hds : ds ≠ [] := fun e => by rw [e] at hm; simp at hm
  obtain ⟨ds0, p, rfl⟩ : ∃ l p, ds = l ++ [p] := ⟨ds.dropLast, ds.getLast hds, (List.dropLast_concat_getLast hds).symm⟩
  have hcs : cs ≠ [] := fun e => by have := hh.1; rw [e] at this; simp at this
  obtain ⟨cs0, c, rfl⟩ : ∃ l p, cs = l ++ [p] := ⟨cs.dropLast, cs.getLast hcs, (List.dropLast_concat_getLast hcs).symm⟩
  have hl0 : ds0.length = m := by simpa using hm
  have hlc : cs0.length = m := by have := hh.1; simp at this; omega
  obtain ⟨S1, β1, g1, k1, k2, k3, k4, k5, k6⟩ := ih (ds := ds0) (cs := cs0) hl0 h ⟨by omega, fun j p c h1 h2 => hh.2 j p c (by rw [List.getElem?_append_left (by have := (List.getElem?_eq_some_iff.1 h1).1; exact this)]; exact h1)
   (by rw [List.getElem?_append_left (by have := (List.getElem?_eq_some_iff.1 h2).1; exact this)]; exact h2)⟩ hN
  obtain ⟨e1, e2, e3, e4⟩ := hh.2 m p c (by rw [List.getElem?_append_right (by omega)]; simp [hl0]) (by rw [List.getElem?_append_right (by omega)]; simp [hlc])
  have hg1 : (g1 (n + m)).sv = .dat p.2 := by rw [k4 _ (by omega)]; exact e1
  have hp := k1.publish (p := []) hg1 rfl e4
  refine ⟨_, _, _, hp, k2.trans (.pub _ _ _), fun i hi => ?_, fun i hi => ?_, ⟨by simp [hl0, hlc], fun j q c' h1 h2 => ?_⟩, fun j s b hj hb => ?_⟩
  ·rw [up_ne (u := .pub (n + m) _) (by simp only [Up.slot]; omega)]; exact k3 i hi
  ·rw [up_ne (u := .pub (n + m) _) (by simp only [Up.slot]; omega)]; exact k4 i (by omega)
  ·rw [List.map_append, List.map_singleton] at h1
   by_cases hj : j < m
   ·rw [List.getElem?_append_left (by simp [hl0, hj])] at h1
    rw [List.getElem?_append_left (by omega)] at h2
    rw [up_ne (u := .pub (n + m) _) (by simp only [Up.slot]; omega)]
    exact k5.2 j q c' h1 h2
   ·have hjm : j = m := by
     have := (List.getElem?_eq_some_iff.1 h2).1
     simp at this; omega
    subst hjm
    rw [List.getElem?_append_right (by simp [hl0])] at h1
    rw [List.getElem?_append_right (by omega)] at h2
    simp only [List.length_map, hl0, Nat.sub_self, List.getElem?_cons_zero, Option.some.injEq, hlc] at h1 h2
    subst h1; subst h2
    refine ⟨?_, e2, e3, rfl⟩
    rw [show (g1.up (.pub (n + j) (.dat ⟨p.2.t, p.2.x, setF [] p.2.f .sh⟩))) (n + j) = _ from up_eq (u := .pub (n + j) _)]
    rfl
  ·have := k6 j s b hj hb
   simp only [pubβ]; rw [if_neg (by omega)]; exact this
end
end Go.Rf

end
section
namespace Go.Rf
set_option linter.unusedSectionVars false
variable [T : Laid]
section
variable {P : Program} {H : Nat → Option (List Value)} {N : Nat} {g g' σ : View} {V V' : Nat → Option Value} {w w' : World} {S S' : Nat → Prop} {β β' : Key → Option Nat} {a : Act} {o : Oper}
variable {E : Env} {gv : View} {us : List Up}
theorem partAt_some {l : List (Nat × Dat)} {i : Nat} {d : Dat} (h : partAt l i = some d) : ∃ (j : Nat) (p : Nat × Dat), l[j]? = some p ∧ p.1 = i ∧ p.2 = d := by
 unfold partAt at h
 rw [Option.map_eq_some_iff] at h
 obtain ⟨p, h1, h2⟩ := h
 obtain ⟨j, hj⟩ := List.getElem?_of_mem (List.mem_of_find?_eq_some h1)
 have := List.find?_some h1
 exact ⟨j, p, hj, by simpa [Nat.beq_eq] using this, h2⟩
theorem partAt_none {l : List (Nat × Dat)} {i : Nat} (h : partAt l i = none) : ∀ p ∈ l, p.1 ≠ i := by
 unfold partAt at h
 rw [Option.map_eq_none_iff, List.find?_eq_none] at h
 intro p hp e
 exact h p hp (by simp [Nat.beq_eq, e])
theorem listD_get {t : Ty} {h : Nat → Option Dat} : ∀ {n i : Nat} {xs : List t.D}, listD t h i n = some xs → xs.length = n ∧
  ∀ j, j < n → (h (i + j) = none → xs[j]? = some t.dflt) ∧ ∀ d, h (i + j) = some d → ∃ x, castD d.t t d.x = some x ∧ xs[j]? = some x
 | 0, i, xs, hl => by
  simp only [listD, Option.some.injEq] at hl; subst hl
  exact ⟨rfl, fun j hj => by omega⟩
 | n + 1, i, xs, hl => by
  simp only [listD] at hl
  split at hl
  ·rename_i l hl'
   obtain ⟨h1, h2⟩ := listD_get hl'
   split at hl
   ·rename_i d hd
    simp only [Option.map_eq_some_iff] at hl
    obtain ⟨x, hx, rfl⟩ := hl
    refine ⟨by simp [h1], fun j hj => ?_⟩
    cases j with
    | zero => exact ⟨fun e => by (rw [Nat.add_zero, hd] at e; cases e), fun d' hd' => by (rw [Nat.add_zero, hd] at hd'; cases hd'; exact ⟨x, hx, rfl⟩)⟩
    | succ j =>
     have := h2 j (by omega)
     rw [show i + 1 + j = i + (j + 1) by omega] at this
     simpa using this
   ·rename_i hd
    simp only [Option.some.injEq] at hl
    subst hl
    refine ⟨by simp [h1], fun j hj => ?_⟩
    cases j with
    | zero => exact ⟨fun _ => rfl, fun d' hd' => by rw [Nat.add_zero, hd] at hd'; cases hd'⟩
    | succ j =>
     have := h2 j (by omega)
     rw [show i + 1 + j = i + (j + 1) by omega] at this
     simpa using this
  ·cases hl
def toFl (f : Fl) (ds : List (Nat × Dat)) : List (Nat × Dat) := ds.map fun p => (p.1, ⟨p.2.t, p.2.x, f⟩)
theorem meet_hands {mv : Bool} {m n : Nat} {τ : Ty} {ds : List (Nat × Dat)} {cs : List (List Value)} {f : Fl} (h : Rel H N g V w S β) (hh : HandsAt g V m ds cs) (hN : N ≤ m) (hm : meetFl mv n τ ds = some f) :
  ∃ S1 β1 g1, Rel H N g1 V w S1 β1 ∧ Step w S β w S1 β1 ∧ (∀ i, i < m → g1 i = g i) ∧ HandsAt g1 V m (toFl f ds) cs ∧ (∀ j s b, j < m → β (j :: s) = some b → β1 (j :: s) = some b) ∧ (f = .nw mv τ ∨ (f = .sh ∧ (Fl.nw mv τ).whole = true) ∨ (n = 1 ∧ ds.length = 1)) := by
 have same : (∀ p ∈ ds, p.2.f = f) → HandsAt g V m (toFl f ds) cs := fun hf => by
  have : toFl f ds = ds := by
   unfold toFl
   conv => rhs; rw [← List.map_id ds]
   refine List.map_congr_left fun p hp => ?_
   obtain ⟨i, t, x, f'⟩ := p
   have := hf _ hp
   simp only at this
   subst this; rfl
  rw [this]; exact hh
 have pubs : (Fl.nw mv τ).whole = true → f = .sh → ∃ S1 β1 g1, Rel H N g1 V w S1 β1 ∧ Step w S β w S1 β1 ∧ (∀ i, i < m → g1 i = g i) ∧ HandsAt g1 V m (toFl f ds) cs ∧ (∀ j s b, j < m → β (j :: s) = some b → β1 (j :: s) = some b) ∧ (f = .nw mv τ ∨ (f = .sh ∧ (Fl.nw mv τ).whole = true) ∨ (n = 1 ∧ ds.length = 1)) := by
  intro hw hf
  subst hf
  obtain ⟨S1, β1, g1, k1, k2, k3, _, k5, k6⟩ := pub_hands rfl h hh hN
  exact ⟨S1, β1, g1, k1, k2, k3, k5, k6, .inr (.inl ⟨rfl, hw⟩)⟩
 unfold meetFl at hm
 split at hm
 ·rename_i i d
  split at hm
  ·rename_i h1
   simp only [Option.some.injEq] at hm; subst hm
   exact ⟨S, β, g, h, .refl, fun _ _ => rfl, same (by simp), fun _ _ _ _ h => h, .inr (.inr ⟨by simpa [Nat.beq_eq] using h1, rfl⟩)⟩
  ·split at hm
   ·rename_i h2
    simp only [Option.some.injEq] at hm; subst hm
    exact ⟨S, β, g, h, .refl, fun _ _ => rfl, same (by simp), fun _ _ _ _ h => h, .inl h2⟩
   ·split at hm
    ·rename_i h3
     simp only [Bool.and_eq_true, le_sh] at h3
     simp only [Option.some.injEq] at hm
     exact pubs h3.2 hm.symm
    ·cases hm
 ·split at hm
  ·rename_i h2
   simp only [Option.some.injEq] at hm; subst hm
   exact ⟨S, β, g, h, .refl, fun _ _ => rfl, same (fun p hp => by simpa using List.all_eq_true.1 h2 p hp), fun _ _ _ _ h => h, .inl rfl⟩
  ·split at hm
   ·rename_i h3
    simp only [Bool.and_eq_true, le_sh] at h3
    simp only [Option.some.injEq] at hm
    exact pubs h3.1 hm.symm
   ·cases hm
def valsOf (ds : List (Nat × Dat)) (cs : List (List Value)) : List (Nat × Value) := (ds.zip cs).map fun x => (x.1.1, valOf x.1.2.t x.2)
theorem valsOf_toFl {f : Fl} {ds : List (Nat × Dat)} {cs : List (List Value)} : valsOf (toFl f ds) cs = valsOf ds cs := by
 unfold valsOf toFl
 rw [List.zip_map_left, List.map_map]
 rfl
theorem mem_valsOf {ds : List (Nat × Dat)} {cs : List (List Value)} {x : Nat × Value} (h : x ∈ valsOf ds cs) : ∃ (j : Nat) (p : Nat × Dat) (c : List Value), ds[j]? = some p ∧ cs[j]? = some c ∧ x = (p.1, valOf p.2.t c) := by
 unfold valsOf at h
 rw [List.mem_map] at h
 obtain ⟨⟨p, c⟩, hx, rfl⟩ := h
 obtain ⟨j, hj⟩ := List.getElem?_of_mem hx
 simp only [List.getElem?_zip_eq_some] at hj
 exact ⟨j, p, c, hj.1, hj.2, rfl⟩
theorem one_of_hand {n j : Nat} {ds : List (Nat × Dat)} {cs : List (List Value)} {p : Nat × Dat} {c : List Value} (h : Rel H N g V w S β) (hh : HandsAt g V n ds cs) (h1 : ds[j]? = some p) (h2 : cs[j]? = some c) :
  (valOf p.2.t c).cells = c.toArray ∧ c.length = p.2.t.size := by
 obtain ⟨e1, e2, e3, e4⟩ := hh.2 j p c h1 h2
 obtain ⟨cc, hv, hV⟩ := h.dat e1
 have := valOf_inj (Option.some.inj (hV.symm.trans e2)) (VRel_len hv) e3
 subst this
 exact ⟨cells_valOf e3 (VRel_one e4 hv), e3⟩
theorem fill_rows {n k d : Nat} {τ : Ty} {mv : Bool} {Z : Array Value} {ds : List (Nat × Dat)} {cs : List (List Value)} {f : Fl} {xs : List τ.D} (h : Rel H N g V w S β) (hh : HandsAt g V n ds cs) (hN : N ≤ n) (hd : d < N)
  (hnd : nodups (ds.map (·.1)) = true) (hlt : ds.all (fun x => Nat.blt x.1 k) = true) (hl : listD τ (partAt ds) 0 k = some xs) (hm : meetFl mv k τ ds = some f) (hzs : Z.size = k * τ.size) (hz : ∀ i, i < k → zcells τ (win Z.toList (i * τ.size) τ.size) = true) :
  ∃ r S1 β1, Instr.fill (fun i => some (i * τ.size, τ.size)) Z (valsOf ds cs) = some r ∧ r.size = k * τ.size ∧ Sane w S1 β1 ∧ Step w S β w S1 β1 ∧ (∀ j s b, j ≠ d → j < N → β (j :: s) = some b → β1 (j :: s) = some b) ∧
   xs.length = k ∧ ∀ i y, nth xs i = some y → VRel S1 β1 H w [d, i] τ f y (win r.toList (i * τ.size) τ.size) := by
 obtain ⟨S1, β1, g1, k1, k2, k3, k4, k6, k5⟩ := meet_hands h hh hN hm
 obtain ⟨β2, q1, q2, q3, q4⟩ := place_all (dst := fun i => [d, i]) k1 k4 hd hN (by unfold toFl; rw [List.map_map]; exact hnd) (fun i => ⟨[i], rfl⟩) (fun i j s hij => by simp [strip, hij])
 obtain ⟨hlen, hget⟩ := listD_get hl
 have hty : ∀ (j : Nat) (p : Nat × Dat), ds[j]? = some p → p.1 < k ∧ p.2.t = τ ∧ partAt ds p.1 = some p.2 := by
  intro j p hj
  have hlt' : p.1 < k := by
   have := List.all_eq_true.1 hlt p (List.mem_of_getElem? hj)
   simpa [Nat.blt_eq] using this
  have hp : ∃ e, partAt ds p.1 = some e := by
   cases he : partAt ds p.1 with
   | some e => exact ⟨e, rfl⟩
   | none => exact absurd rfl (partAt_none he p (List.mem_of_getElem? hj))
  obtain ⟨e, he⟩ := hp
  obtain ⟨j', p', h1, h2, h3⟩ := partAt_some he
  have hjj : p' = p := by
   have hnod := nodups_nodup hnd
   have hi1 := (List.getElem?_eq_some_iff.1 h1)
   have hi2 := (List.getElem?_eq_some_iff.1 hj)
   by_cases e' : j' = j
   ·subst e'; rw [h1] at hj; exact Option.some.inj hj
   ·exfalso
    have hpw := List.pairwise_iff_getElem.1 hnod
    rcases Nat.lt_or_gt_of_ne e' with hlt2 | hlt2
    ·have := hpw j' j (by simp; exact hi1.1) (by simp; exact hi2.1) hlt2
     simp only [List.getElem_map] at this
     rw [hi1.2, hi2.2] at this; exact this h2
    ·have := hpw j j' (by simp; exact hi2.1) (by simp; exact hi1.1) hlt2
     simp only [List.getElem_map] at this
     rw [hi1.2, hi2.2] at this; exact this h2.symm
  subst hjj
  obtain ⟨x, hx, _⟩ := (hget p'.1 hlt').2 p'.2 (by rw [Nat.zero_add, he, h3])
  exact ⟨hlt', (castD_some hx).1, by rw [he, h3]⟩
 have hsz : ∀ (j : Nat) (p : Nat × Dat) (c : List Value), ds[j]? = some p → cs[j]? = some c → (valOf p.2.t c).cells = c.toArray ∧ c.length = τ.size := by
  intro j p c h1 h2
  obtain ⟨e1, e2⟩ := one_of_hand h hh h1 h2
  rw [(hty j p h1).2.1] at e2
  exact ⟨e1, e2⟩
 have mulle : ∀ i, i < k → i * τ.size + τ.size ≤ k * τ.size := fun i hi => by
  have : (i + 1) * τ.size ≤ k * τ.size := Nat.mul_le_mul_right _ hi
  rw [Nat.add_mul, Nat.one_mul] at this; exact this
 have mulap : ∀ i j, i ≠ j → i * τ.size + τ.size ≤ j * τ.size ∨ j * τ.size + τ.size ≤ i * τ.size := fun i j hij => by
  rcases Nat.lt_or_gt_of_ne hij with hl | hl
  ·left
   have : (i + 1) * τ.size ≤ j * τ.size := Nat.mul_le_mul_right _ hl
   rw [Nat.add_mul, Nat.one_mul] at this; exact this
  ·right
   have : (j + 1) * τ.size ≤ i * τ.size := Nat.mul_le_mul_right _ hl
   rw [Nat.add_mul, Nat.one_mul] at this; exact this
 obtain ⟨r, r1, r2, r3, r4⟩ := fill_ok (place := fun i => some (i * τ.size, τ.size)) (ps := valsOf ds cs) (cells := Z) (fun p hp => by
  obtain ⟨j, q, c, h1, h2, rfl⟩ := mem_valsOf hp
  obtain ⟨e1, e2⟩ := hsz j q c h1 h2
  refine ⟨q.1 * τ.size, ?_, ?_⟩
  ·simp only [e1]; simp [e2]
  ·simp only [e1, hzs]; simp only [List.size_toArray, e2]; exact mulle _ (hty j q h1).1) (by
  unfold valsOf
  rw [List.pairwise_map, List.pairwise_iff_getElem]
  intro i j hi hj hij
  simp only [List.length_zip] at hi hj
  simp only [List.getElem_zip]
  have hne : (ds[i]'(by omega)).1 ≠ (ds[j]'(by omega)).1 := by
   intro e
   have := (List.pairwise_iff_getElem.1 (nodups_nodup hnd)) i j (by simp; omega) (by simp; omega) hij
   simp only [List.getElem_map] at this
   exact this e
  intro o1 s1 o2 s2 h1 h2
  simp only [Option.some.injEq, Prod.mk.injEq] at h1 h2
  obtain ⟨rfl, rfl⟩ := h1
  obtain ⟨rfl, rfl⟩ := h2
  exact mulap _ _ hne)
 refine ⟨r, S1, β2, r1, by rw [r2, hzs], q1, k2.trans q2, fun j s b hj hjN hb => ?_, hlen, fun i y hy => ?_⟩
 ·exact q3 j s b hj hjN (k6 j s b (by omega) hb)
 ·have hi : i < k := by unfold nth at hy; have := (List.getElem?_eq_some_iff.1 hy).1; omega
  cases hp : partAt ds i with
  | some e =>
   obtain ⟨j, p, h1, h2, h3⟩ := partAt_some hp
   have hjc : ∃ c, cs[j]? = some c := by
    have := (List.getElem?_eq_some_iff.1 h1).1
    exact ⟨cs[j]'(by rw [hh.1]; exact this), List.getElem?_eq_getElem _⟩
   obtain ⟨c, hc⟩ := hjc
   obtain ⟨e1, e2⟩ := hsz j p c h1 hc
   have hwin := r3 (p.1, valOf p.2.t c) (by
    unfold valsOf
    rw [List.mem_map]
    refine ⟨(p, c), ?_, rfl⟩
    exact List.mem_of_getElem? (i := j) (by simp only [List.getElem?_zip_eq_some]; exact ⟨h1, hc⟩)) (p.1 * τ.size) τ.size rfl
   simp only [e1, h2] at hwin
   rw [hwin]
   have hv := q4 j (p.1, ⟨p.2.t, p.2.x, f⟩) c (by unfold toFl; rw [List.getElem?_map, h1]; rfl) hc
   simp only [h2] at hv
   obtain ⟨x, hx, hxi⟩ := (hget i hi).2 e (by rw [Nat.zero_add]; exact hp)
   have hyx : y = x := by
    unfold nth at hy
    rw [hxi] at hy; exact (Option.some.inj hy).symm
   subst hyx
   subst h3
   obtain ⟨pi, pt, px, pf⟩ := p
   simp only at hv hx h2
   obtain ⟨het, hex⟩ := castD_some hx
   subst het
   subst hex
   simpa using hv
  | none =>
   have hnone := partAt_none hp
   have hyd : y = τ.dflt := by
    have := (hget i hi).1 (by rw [Nat.zero_add]; exact hp)
    unfold nth at hy
    rw [this] at hy; exact (Option.some.inj hy).symm
   subst hyd
   have hwin := r4 (i * τ.size) τ.size (fun p hpm off s hpl => by
    obtain ⟨j, q, c, h1, h2, rfl⟩ := mem_valsOf hpm
    simp only [Option.some.injEq, Prod.mk.injEq] at hpl
    obtain ⟨rfl, rfl⟩ := hpl
    exact mulap _ _ (Ne.symm (hnone q (List.mem_of_getElem? h1))))
   rw [hwin]
   have hzv := zero_VRel (S := S1) (β := fun _ => none) (H := H) (w := w) (k := [d, i]) mv (hz i hi)
   rcases k5 with e | ⟨e, hw⟩ | ⟨e1, e2⟩
   ·subst e
    exact zero_VRel mv (hz i hi)
   ·subst e
    exact VRel_sh.2 (VRel_read hw (fun _ h => h) (fun _ _ hb => by cases hb) hzv)
   ·exfalso
    obtain ⟨p, hpd⟩ := List.length_eq_one_iff.1 e2
    have h0 := hty 0 p (by rw [hpd]; rfl)
    have : i = 0 := by omega
    exact hnone p (by rw [hpd]; simp) (by omega)
end
end Go.Rf

end
section
namespace Go.Rf
set_option linter.unusedSectionVars false
variable [T : Laid]
section
variable {P : Program} {H : Nat → Option (List Value)} {N : Nat} {g g' σ : View} {V V' : Nat → Option Value} {w w' : World} {S S' : Nat → Prop} {β β' : Key → Option Nat} {a : Act} {o : Oper}
variable {E : Env} {gv : View} {us : List Up}
theorem sub_dead (hs : Sub gv g) (hD : DeadFrom N g) : DeadFrom N gv := fun i hi => by
 rcases hs i with h | h
 ·exact h
 ·rw [← h]; exact hD i hi
theorem mem_tmpsOf {s : Nat} : ∀ {l : List Operand}, .tmp s ∈ l → s ∈ tmpsOf l
 | [], h => by simp at h
 | x :: l, h => by
  rcases List.mem_cons.1 h with h | h
  ·subst h; simp [tmpsOf]
  ·have := mem_tmpsOf h
   cases x <;> simp [tmpsOf, this]
theorem opIn_arg {n s : Nat} (h : opIn n o = true) (hs : .tmp s ∈ o.op.operands.toList) : s < n := by
 unfold opIn at h
 simp only [Bool.and_eq_true] at h
 have := List.all_eq_true.1 h.2 s (mem_tmpsOf hs)
 simpa [Nat.blt_eq] using this
theorem parts_taken {mv : Bool} {ts : Nat → Option Ty} {ps : Array (Nat × Operand)} {ds : List (Nat × Dat)} (hc : Ctx P H S β a w o g) (hs : Sub gv g) (ht : takeParts gv mv ts ps.toList = some (ds, us))
  (hin : ∀ q ∈ ps.toList, q.2 ∈ o.op.operands.toList) :
  ∃ (S1 : Nat → Prop) (β1 : Key → Option Nat) (g1 : View) (V1 : Nat → Option Value) (cs : List (List Value)), Rel H a.tmps.size g1 V1 w S1 β1 ∧ Step w S β w S1 β1 ∧ HandsAt g1 V1 a.tmps.size ds cs ∧
   Rel H a.tmps.size (g.ups us) (vals a) w S1 β1 ∧ DeadFrom a.tmps.size (g.ups us) ∧ (ps.map fun (i, x) => (i, a.eval x)).toList = valsOf ds cs := by
 obtain ⟨S1, β1, g1, V1, cs, k1, k2, k3, k4, k5, k6, k7, k8, k9, k10, k11⟩ := takeParts_sound hc.rel hs (sub_dead hs hc.dead) (fun i hi => hc.dead i hi) (Nat.le_refl _) ht
 have hD : DeadFrom a.tmps.size (g.ups us) := hc.dead.ups k9
 refine ⟨S1, β1, g1, V1, cs, k1, k2, ⟨k8, fun j p c h1 h2 => let ⟨e1, e2, e3, e4, _⟩ := k11 j p c h1 h2; ⟨e1, e2, e3, e4⟩⟩, k1.fin (fun i hi => (k5 i hi).1.symm) hD (fun i hi => (k5 i hi).2.symm), hD, ?_⟩
 rw [Array.toList_map]
 apply List.ext_getElem?
 intro j
 unfold valsOf
 rw [List.getElem?_map, List.getElem?_map]
 cases hp : ds[j]? with
 | none =>
  have hlen : ds.length = ps.toList.length := by have := congrArg List.length k10; simpa using this
  have h1 : ps.toList[j]? = none := by rw [List.getElem?_eq_none_iff] at hp ⊢; omega
  have h2 : (ds.zip cs)[j]? = none := by rw [List.getElem?_eq_none_iff] at hp ⊢; simp; omega
  rw [h1, h2]; rfl
 | some p =>
  have hj := (List.getElem?_eq_some_iff.1 hp).1
  have hc' : cs[j]? = some (cs[j]'(by omega)) := List.getElem?_eq_getElem _
  obtain ⟨e1, e2, e3, e4, x, e5, e6⟩ := k11 j p _ hp hc'
  have h2 : (ds.zip cs)[j]? = some (p, cs[j]'(by omega)) := by simp only [List.getElem?_zip_eq_some]; exact ⟨hp, hc'⟩
  rw [e5, h2]
  simp only [Option.map_some]
  have hx1 : x.1 = p.1 := by
   have := congrArg (fun l => l[j]?) k10
   simp only [List.getElem?_map, hp, e5, Option.map_some, Option.some.injEq] at this
   exact this.symm
  have := evl_eval (e6 (fun q hq s hqs => opIn_arg hc.opIn (hqs ▸ hin q hq)))
  rw [hx1, this]
theorem run_buildSlice' {t e : TypeId} {τ : Ty} {z : Value} {n : Nat} {parts : Array (Nat × Value)} {r : Array Value} (h : SlOK E t e τ z) (hn : n * τ.size ≤ 16777216)
  (hf : Instr.fill (fun i => some (i * τ.size, τ.size)) (again z.cells (n * τ.size)) parts.toList = some r) :
  (Instr.buildSlice t n parts).run E.P w = .ok (.slice (some ⟨w.heap.size, 0, none⟩) n n) { w with heap := w.heap.push (.cells r e) } := by
 have hsz : (sizeOf e).run E.P w = .ok τ.size w := run_sizeOf' h.elem
 unfold Instr.buildSlice
 simp only [Sem.run_bind, run_underlying' h.und, Result.andThen_ok, hsz]
 rw [if_neg (by omega)]
 by_cases h0 : n * τ.size = 0
 ·have e0 : again z.cells 0 = #[] := by simp [again]
  rw [h0, e0] at hf
  have e2 : Array.map (fun (_ : Nat) => (default : Value)) (Array.range 0) = #[] := by simp
  simp [h0, newRow]
  rw [e2, hf]
  simp
 ·have : ((Array.range (n * τ.size)).map fun x => z.cells[x % z.cells.size]!) = again z.cells (n * τ.size) := rfl
  simp only [h0, if_false, Sem.run_bind, h.zero, Result.andThen_ok, Sem.run_pure, this, hf, newRow, run_newObj]
theorem buildSliceK_sound {mv : Bool} {t : TypeId} {n : Nat} {ps : Array (Nat × Operand)} (hc : Ctx E.P H S β a w o g) (hs : Sub gv g) (hm : o.op = .buildSlice t n ps)
  (hk : buildSliceK E gv mv o t n ps some = some us) : OpSound E.P H S β a w o (g.ups us) := by
 unfold buildSliceK at hk
 split at hk
 ·rename_i τ ht
  split at hk
  ·rename_i ds us1 htp
   split at hk
   ·rename_i hcond
    simp only [Bool.and_eq_true, Nat.ble_eq] at hcond
    obtain ⟨⟨hnd, hlt⟩, hsmall⟩ := hcond
    split at hk
    ·rename_i xs f hl hmf
     obtain ⟨dd, ho, rfl⟩ := outp_some hk
     obtain ⟨τ2, e, z, heq, hok⟩ := sl_inv ht
     simp only [Ty.sl.injEq] at heq
     subst heq
     obtain ⟨S1, β1, g1, V1, cs, k1, k2, k3, k4, k5, k6⟩ := parts_taken hc hs htp (fun q hq => by rw [hm]; simp only [Op.operands, Array.toList_map]; exact List.mem_map.2 ⟨q, hq, rfl⟩)
     have hd := opIn_dst hc.opIn ho
     obtain ⟨r, S2, β2, q1, q2, q3, q4, q5, q6, q7⟩ := fill_rows (d := dd) (Z := again z.cells (n * τ.size)) k1 k3 (Nat.le_refl _) hd hnd hlt hl hmf again_size (fun i hi => by rw [← hok.size, again_win hi]; exact hok.cells)
     have hrun := run_buildSlice' (w := w) (parts := ps.map fun (i, x) => (i, a.eval x)) hok hsmall (by rw [k6]; exact q1)
     have hw' : Pushed w { w with heap := w.heap.push (.cells r e) } (.cells r e) := ⟨rfl, rfl, rfl, rfl⟩
     have hsame := (k2.trans q4).same hc.rel.sane
     intro K Q hK
     refine wp_value (w' := { w with heap := w.heap.push (.cells r e) }) (v := .slice (some ⟨w.heap.size, 0, none⟩) n n) ?_ (hK _ _ S2 _ put_size put_defers ?_ ((k2.trans q4).trans (Step.newB hw' [dd])))
     ·simp only [execOp, hm, Sem.run_bind]
      exact congrArg (fun r : Result Value => Result.andThen r fun v w' => Result.ok (Next.value v) w') hrun
     ·rw [ho, vals_put hd, ups_append]
      have hst := q4.same k4.sane
      refine k4.put (q3.new hw' [dd]) (fun b hb => ⟨(hst b hb).1, new_same hw' (k4.sane.liveS b hb)⟩) (fun j s b hj ha hb => ⟨?_, new_same hw' (k4.sane.live _ b hb)⟩) (fun j hj => by simp [upd, hj]) ?_
      ·unfold setK; rw [if_neg (by simp [hj])]
       exact q5 j s b hj (k5.lt ha) hb
      ·refine ⟨[.slice (some ⟨w.heap.size, 0, none⟩) n n], ?_, by simp [upd, valOf, Ty.agg]⟩
       simp only [VRel, Fl.base]
       refine ⟨by simp [Pins, Fl.pins], some ⟨w.heap.size, 0, none⟩, n, by rw [q6], by rw [q6]; exact Nat.le_refl _, .inr ⟨w.heap.size, 0, r, rfl, by simp [setK], OBlk.new hw' (.inl rfl), by rw [q2]; omega, fun i y hy => ?_⟩⟩
       rw [Nat.zero_add]
       refine VRel_trans (fun b hb => ⟨hb, new_same hw' (q3.liveS b hb)⟩) (fun s b hb => ⟨?_, new_same hw' (q3.live _ b hb)⟩) (q7 i y hy)
       unfold setK; rw [if_neg (by simp)]; exact hb
    ·cases hk
   ·cases hk
  ·cases hk
 ·cases hk
end
end Go.Rf

end
section
namespace Go.Rf
set_option linter.unusedSectionVars false
variable [T : Laid]
section
variable {P : Program} {H : Nat → Option (List Value)} {N : Nat} {g g' σ : View} {V V' : Nat → Option Value} {w w' : World} {S S' : Nat → Prop} {β β' : Key → Option Nat} {a : Act} {o : Oper}
variable {E : Env} {gv : View} {us : List Up}
def ones (i : Nat) : Key := List.replicate i 1
theorem keyP_field : ∀ {i : Nat}, keyP (fieldPath i) = ones i ++ [0]
 | 0 => rfl
 | i + 1 => by simp [fieldPath, keyP, keyP_field (i := i), ones, List.replicate_succ]
theorem ones_succ {i : Nat} : ones (i + 1) = ones i ++ [1] := by simp [ones, List.replicate_succ']
theorem strip_ones : ∀ {i j : Nat} {s : Key}, i ≠ j → strip (ones i ++ [0]) (ones j ++ [0] ++ s) = none
 | 0, 0, _, h => absurd rfl h
 | 0, j + 1, s, _ => by simp [ones, List.replicate_succ, strip]
 | i + 1, 0, s, _ => by simp [ones, List.replicate_succ, strip]
 | i + 1, j + 1, s, h => by
  have := strip_ones (i := i) (j := j) (s := s) (by omega)
  simp only [ones, List.replicate_succ, List.cons_append, strip, if_true] at this ⊢
  exact this
theorem win_take {c : List Value} {o n m : Nat} : (win c o (n + m)).take n = win c o n := by
 simp [win, List.take_take]
theorem win_drop {c : List Value} {o n m : Nat} : (win c o (n + m)).drop n = win c (o + n) m := by
 simp only [win, List.drop_take, List.drop_drop]
 congr 1
 omega
theorem build_struct {mv : Bool} {h : Nat → Option Dat} {zc rc : List Value} {K0 : Key} {ty : TypeId → Option Ty} : ∀ {fs : List Field} {off : Nat} {τ : Ty} {i : Nat} {x : τ.D} {f : Fl}, chain ty fs off = some τ → buildD mv τ i h = some (x, f) →
  zcells τ (win zc off τ.size) = true →
  (∀ (j : Nat) (fl : Field) (a : Ty), fs[j]? = some fl → ty fl.type = some a → (∀ d x, h (i + j) = some d → castD d.t a d.x = some x → VRel S β H w (K0 ++ ones (i + j) ++ [0]) a d.f x (win rc fl.offset a.size)) ∧ (h (i + j) = none → win rc fl.offset a.size = win zc fl.offset a.size)) →
  VRel S β H w (K0 ++ ones i) τ f x (win rc off τ.size)
 | [], off, τ, i, x, f, hc, hb, hz, hp => by
  simp only [chain, Option.some.injEq] at hc; subst hc
  simp only [buildD, Option.some.injEq, Prod.mk.injEq] at hb
  obtain ⟨rfl, rfl⟩ := hb
  exact VRel_sh.2 (by simp [Rd, win, Ty.size])
 | fl :: fs, off, τ, i, x, f, hc, hb, hz, hp => by
  simp only [chain] at hc
  split at hc
  ·rename_i a ha
   split at hc
   ·rename_i ho
    simp only [Nat.beq_eq] at ho
    simp only [Option.map_eq_some_iff] at hc
    obtain ⟨τ', hc, rfl⟩ := hc
    simp only [buildD] at hb
    split at hb
    ·rename_i y gf hb'
     simp only [zcells, Ty.size, Bool.and_eq_true] at hz
     rw [win_take, win_drop] at hz
     have ih := build_struct hc hb' hz.2 (fun j fl' a' h1 h2 => by
      have := hp (j + 1) fl' a' (by simpa using h1) h2
      rw [show i + (j + 1) = i + 1 + j by omega] at this
      exact this)
     rw [ones_succ, ← List.append_assoc] at ih
     have h0 := hp 0 fl a rfl ha
     rw [Nat.add_zero, ho] at h0
     split at hb
     ·rename_i d hd
      simp only [Option.map_eq_some_iff, Prod.mk.injEq] at hb
      obtain ⟨x0, hx0, rfl, rfl⟩ := hb
      refine VRel_mkpr.2 ⟨?_, ?_⟩
      ·simp only [Ty.size]; rw [win_take]; exact h0.1 d x0 hd hx0
      ·simp only [Ty.size]; rw [win_drop]; exact ih
     ·rename_i hd
      simp only [Option.some.injEq, Prod.mk.injEq] at hb
      obtain ⟨rfl, rfl⟩ := hb
      refine VRel_mkpr.2 ⟨?_, ?_⟩
      ·simp only [Ty.size]; rw [win_take, h0.2 hd]; exact zero_VRel mv hz.1
      ·simp only [Ty.size]; rw [win_drop]; exact ih
    ·cases hb
   ·cases hc
  ·cases hc
theorem chain_field {ty : TypeId → Option Ty} : ∀ {fs : List Field} {off : Nat} {τ : Ty} {i : Nat} {a : Ty}, chain ty fs off = some τ → fieldTy τ i = some a →
  ∃ fl, fs[i]? = some fl ∧ ty fl.type = some a ∧ off ≤ fl.offset ∧ fl.offset + a.size ≤ off + τ.size
 | [], off, τ, i, a, hc, hf => by
  simp only [chain, Option.some.injEq] at hc; subst hc
  simp [fieldTy] at hf
 | fl :: fs, off, τ, i, a, hc, hf => by
  simp only [chain] at hc
  split at hc
  ·rename_i a0 ha
   split at hc
   ·rename_i ho
    simp only [Nat.beq_eq] at ho
    simp only [Option.map_eq_some_iff] at hc
    obtain ⟨τ', hc, rfl⟩ := hc
    cases i with
    | zero =>
     simp only [fieldTy, Option.some.injEq] at hf; subst hf
     exact ⟨fl, rfl, ha, by omega, by simp only [Ty.size]; omega⟩
    | succ i =>
     simp only [fieldTy] at hf
     obtain ⟨fl', h1, h2, h3, h4⟩ := chain_field hc hf
     exact ⟨fl', by simpa using h1, h2, by omega, by simp only [Ty.size]; omega⟩
   ·cases hc
  ·cases hc
theorem chain_mono {ty : TypeId → Option Ty} : ∀ {fs : List Field} {off : Nat} {τ : Ty} {i j : Nat} {fi fj : Field} {ai : Ty}, chain ty fs off = some τ → i < j → fs[i]? = some fi → fs[j]? = some fj → ty fi.type = some ai → fi.offset + ai.size ≤ fj.offset
 | [], _, _, _, _, _, _, _, _, _, h, _, _ => by simp at h
 | fl :: fs, off, τ, i, j, fi, fj, ai, hc, hij, hi, hj, ha => by
  simp only [chain] at hc
  split at hc
  ·rename_i a0 ha0
   split at hc
   ·rename_i ho
    simp only [Nat.beq_eq] at ho
    simp only [Option.map_eq_some_iff] at hc
    obtain ⟨τ', hc, rfl⟩ := hc
    cases j with
    | zero => omega
    | succ j =>
     simp only [List.getElem?_cons_succ] at hj
     cases i with
     | zero =>
      simp only [List.getElem?_cons_zero, Option.some.injEq] at hi; subst hi
      rw [ha0] at ha; cases ha
      have : ∀ {fs : List Field} {off : Nat} {τ : Ty} {j : Nat} {fj : Field}, chain ty fs off = some τ → fs[j]? = some fj → off ≤ fj.offset := by
       intro fs
       induction fs with
       | nil => intro off τ j fj _ h; simp at h
       | cons f0 fs ih =>
        intro off τ j fj hc h
        simp only [chain] at hc
        split at hc
        ·split at hc
         ·rename_i ho
          simp only [Nat.beq_eq] at ho
          simp only [Option.map_eq_some_iff] at hc
          obtain ⟨τ', hc, rfl⟩ := hc
          cases j with
          | zero => simp only [List.getElem?_cons_zero, Option.some.injEq] at h; subst h; omega
          | succ j => have := ih hc (by simpa using h); omega
         ·cases hc
        ·cases hc
      have := this hc hj
      omega
     | succ i => exact chain_mono (i := i) (j := j) hc (by omega) (by simpa using hi) hj ha
   ·cases hc
  ·cases hc
theorem chain_places {d : Nat} : ∀ {fs : List Field} {off : Nat} {τ : Ty}, chain (tyN P (d + 1)) fs off = some τ → ∃ pl : List (Nat × Nat), fs.mapM (fun f => (P.info? f.type).map fun i => (f.offset, i.size)) = some pl ∧
  ∀ (j : Nat) (fl : Field) (a : Ty), fs[j]? = some fl → tyN P (d + 1) fl.type = some a → pl[j]? = some (fl.offset, a.size)
 | [], _, _, _ => ⟨[], by simp, by simp⟩
 | fl :: fs, off, τ, hc => by
  simp only [chain] at hc
  split at hc
  ·rename_i a0 ha0
   split at hc
   ·simp only [Option.map_eq_some_iff] at hc
    obtain ⟨τ', hc, rfl⟩ := hc
    obtain ⟨pl, h1, h2⟩ := chain_places hc
    obtain ⟨i, u, e1, _, e3, _⟩ := tyN_inv ha0
    refine ⟨(fl.offset, i.size) :: pl, by simp [List.mapM_cons, e1, h1], fun j f a hj ha => ?_⟩
    cases j with
    | zero =>
     simp only [List.getElem?_cons_zero, Option.some.injEq] at hj ⊢; subst hj
     rw [ha0] at ha; cases ha; rw [e3]
    | succ j => simpa using h2 j f a (by simpa using hj) ha
   ·cases hc
  ·cases hc
end
end Go.Rf

end
section
namespace Go.Rf
set_option linter.unusedSectionVars false
variable [T : Laid]
section
variable {P : Program} {H : Nat → Option (List Value)} {N : Nat} {g g' σ : View} {V V' : Nat → Option Value} {w w' : World} {S S' : Nat → Prop} {β β' : Key → Option Nat} {a : Act} {o : Oper}
variable {E : Env} {gv : View} {us : List Up}
theorem exec_build {ρ : Operand → Value} {t : TypeId} {ps : Array (Nat × Operand)} {r : Array Value} {l : List (Nat × Value)} (ho : o.op = .build t ps) (hl : (ps.map fun (i, x) => (i, ρ x)).toList = l) (hb : P.built t l = some r) :
  (execOp ρ o).run P w = .ok (.value (.agg r)) w := by
 have := run_build (P := P) w t (ps.map fun (i, x) => (i, ρ x)) r (by rw [hl]; exact hb)
 simp only [execOp, ho, Sem.run_bind]
 exact congrArg (fun r : Result Value => Result.andThen r fun v w' => Result.ok (Next.value v) w') this
theorem tz_info {t : TypeId} {τ : Ty} (h : E.tz t = some τ) : ∃ it z, E.P.info? t = some it ∧ it.zero = some z ∧ zcells τ z.cells.toList = true := by
 unfold Env.tz at h
 split at h
 ·split at h
  ·rename_i hz
   simp only [Option.some.injEq] at h; subst h
   unfold Env.zok at hz
   split at hz
   ·rename_i i hi
    split at hz
    ·rename_i v hv
     exact ⟨i, v, hi, hv, hz⟩
    ·cases hz
   ·cases hz
  ·cases h
 ·cases h
theorem built_put {d : Nat} {t : Ty} {x : t.D} {f : Fl} {r : Array Value} {S1 S2 : Nat → Prop} {β1 β2 : Key → Option Nat} (hc : Ctx P H S β a w o g) (ho : o.dst = some d) (hr : (execOp a.eval o).run P w = .ok (.value (.agg r)) w) (hag : t.agg = true)
  (h : Rel H a.tmps.size (g.ups us) (vals a) w S1 β1) (hD : DeadFrom a.tmps.size (g.ups us)) (hst : Step w S β w S1 β1) (hs : Sane w S2 β2) (hst2 : Step w S1 β1 w S2 β2)
  (hβ : ∀ j s b, j ≠ d → j < a.tmps.size → β1 (j :: s) = some b → β2 (j :: s) = some b) (hv : VRel S2 β2 H w [d] t f x r.toList) : OpSound P H S β a w o (g.ups (us ++ [.put d (.dat ⟨t, x, f⟩)])) := by
 intro K Q hK
 have hd := opIn_dst hc.opIn ho
 refine wp_value hr (hK _ _ S2 β2 put_size put_defers ?_ (hst.trans hst2))
 rw [ho, vals_put hd, ups_append]
 refine h.put hs (fun b hb => ⟨hst2.keepS b hb, rfl⟩) (fun j s b hj ha hb => ⟨hβ j s b hj (hD.lt ha) hb, rfl⟩) (fun j hj => by simp [upd, hj]) ⟨r.toList, hv, ?_⟩
 simp [upd, valOf, hag]
theorem buildK_sound {mv : Bool} {t : TypeId} {ps : Array (Nat × Operand)} (hc : Ctx E.P H S β a w o g) (hs : Sub gv g) (hm : o.op = .build t ps)
  (hk : buildK E gv mv o t ps some = some us) : OpSound E.P H S β a w o (g.ups us) := by
 have hops : ∀ q ∈ ps.toList, q.2 ∈ o.op.operands.toList := fun q hq => by rw [hm]; simp only [Op.operands, Array.toList_map]; exact List.mem_map.2 ⟨q, hq, rfl⟩
 unfold buildK at hk
 split at hk
 ·rename_i n τ ht
  obtain ⟨it, z, hit, hz, hzc⟩ := tz_info ht
  have hty := (tz_inv ht).1
  split at hk
  ·rename_i ds us1 htp
   split at hk
   ·rename_i hcond
    simp only [Bool.and_eq_true] at hcond
    obtain ⟨hnd, hlt⟩ := hcond
    split at hk
    ·rename_i xs f hl hmf
     obtain ⟨dd, ho, rfl⟩ := outp_some hk
     obtain ⟨e, he, h7⟩ := tyN_arr hty
     obtain ⟨ie, u, h71, _, h73, _⟩ := tyN_inv h7
     simp only [zcells] at hzc
     obtain ⟨hz1, hz2⟩ := zarr_get (fun c hc => VRel_len (zero_VRel (S := fun _ => False) (β := fun _ => none) (H := fun _ => none) (w := w) false (k := []) hc)) hzc
     obtain ⟨S1, β1, g1, V1, cs, k1, k2, k3, k4, k5, k6⟩ := parts_taken hc hs htp hops
     have hd := opIn_dst hc.opIn ho
     obtain ⟨r, S2, β2, q1, q2, q3, q4, q5, q6, q7⟩ := fill_rows (d := dd) (Z := z.cells) k1 k3 (Nat.le_refl _) hd hnd hlt hl hmf (by simpa using hz1) hz2
     have hbuilt : E.P.built t (valsOf ds cs) = some r := by
      unfold Program.built
      rw [hit, he]
      simp only [hz, h71, h73]
      exact q1
     refine built_put hc ho (exec_build hm k6 hbuilt) rfl k4 k5 k2 q3 q4 q5 (VRel_mkar.2 ⟨q6, by simpa using q2, fun i y hy => q7 i y hy⟩)
    ·cases hk
   ·cases hk
  ·cases hk
 ·rename_i τ hnot ht
  obtain ⟨it, z, hit, hz, hzc⟩ := tz_info ht
  have hty := (tz_inv ht).1
  split at hk
  ·rename_i ds us1 htp
   split at hk
   ·rename_i hcond
    simp only [Bool.and_eq_true] at hcond
    obtain ⟨hnd, hfld⟩ := hcond
    split at hk
    ·rename_i x f hb
     obtain ⟨dd, ho, rfl⟩ := outp_some hk
     have hstruct : ∃ fs, E.P.underlying t = some (.struct fs) ∧ chain (tyN E.P 7) fs.toList 0 = some τ ∧ τ.agg = true := by
      obtain ⟨i, u, _, h2, _, h4⟩ := tyN_inv hty
      unfold TyShape at h4
      have nob : ∀ τ : Ty, (∀ a b, τ ≠ .pair a b) → τ ≠ .unit → ∀ (x : τ.D) f, buildD mv τ 0 (partAt ds) ≠ some (x, f) := fun τ h1 h2 x f e => by
       cases τ <;> simp [buildD] at e <;> first | exact h2 rfl | exact h1 _ _ rfl
      cases u <;> simp only at h4 <;> first
       | (exfalso; exact h4)
       | (subst h4; exact absurd hb (nob _ (by simp) (by simp) _ _))
       | (obtain ⟨a, _, rfl⟩ := h4; exact absurd hb (nob _ (by simp) (by simp) _ _))
       | (refine ⟨_, h2, h4, ?_⟩; rcases chain_agg h4 with rfl | ⟨_, _, rfl⟩ <;> rfl)
     obtain ⟨fs, hfs, hch, hag⟩ := hstruct
     obtain ⟨S1, β1, g1, V1, cs, k1, k2, k3, k4, k5, k6⟩ := parts_taken hc hs htp hops
     have hd := opIn_dst hc.opIn ho
     obtain ⟨pl, hpl1, hpl2⟩ := chain_places (d := 6) hch
     have hzl : z.cells.toList.length = τ.size := VRel_len (zero_VRel (S := fun _ => False) (β := fun _ => none) (H := fun _ => none) (w := w) false (k := []) hzc)
     have buildT : ∀ {τ : Ty} {i j : Nat} {x : τ.D} {f : Fl} {a : Ty} {d : Dat}, buildD mv τ i (partAt ds) = some (x, f) → fieldTy τ j = some a → partAt ds (i + j) = some d → d.t = a := by
      intro τ
      induction τ with
      | pair s u _ ihu =>
       intro i j x f a d hb hf hp
       simp only [buildD] at hb
       split at hb
       ·rename_i y gf hb'
        cases j with
        | zero =>
         simp only [fieldTy, Option.some.injEq] at hf; subst hf
         rw [Nat.add_zero] at hp
         rw [hp] at hb
         simp only [Option.map_eq_some_iff] at hb
         obtain ⟨x0, hx0, _⟩ := hb
         exact (castD_some hx0).1
        | succ j =>
         simp only [fieldTy] at hf
         exact ihu hb' hf (by rw [show i + 1 + j = i + (j + 1) by omega]; exact hp)
       ·cases hb
      | _ => intro i j x f a d hb hf hp; simp [fieldTy] at hf
     have hpart : ∀ (j : Nat) (p : Nat × Dat), ds[j]? = some p → partAt ds p.1 = some p.2 := by
      intro j p hj
      cases he : partAt ds p.1 with
      | none => exact absurd rfl (partAt_none he p (List.mem_of_getElem? hj))
      | some e =>
       obtain ⟨j', p', h1, h2, h3⟩ := partAt_some he
       have hi1 := (List.getElem?_eq_some_iff.1 h1)
       have hi2 := (List.getElem?_eq_some_iff.1 hj)
       have hpw := List.pairwise_iff_getElem.1 (nodups_nodup hnd)
       by_cases e' : j' = j
       ·subst e'; rw [h1] at hj; cases hj; rw [h3]
       ·exfalso
        rcases Nat.lt_or_gt_of_ne e' with hlt2 | hlt2
        ·have := hpw j' j (by simp; exact hi1.1) (by simp; exact hi2.1) hlt2
         simp only [List.getElem_map] at this
         rw [hi1.2, hi2.2] at this; exact this h2
        ·have := hpw j j' (by simp; exact hi2.1) (by simp; exact hi1.1) hlt2
         simp only [List.getElem_map] at this
         rw [hi1.2, hi2.2] at this; exact this h2.symm
     have hfield : ∀ (j : Nat) (p : Nat × Dat), ds[j]? = some p → ∃ fl, fs.toList[p.1]? = some fl ∧ tyN E.P 7 fl.type = some p.2.t ∧ fl.offset + p.2.t.size ≤ τ.size ∧ pl[p.1]? = some (fl.offset, p.2.t.size) := by
      intro j p hj
      have := List.all_eq_true.1 hfld p (List.mem_of_getElem? hj)
      obtain ⟨a0, ha0⟩ := Option.isSome_iff_exists.1 this
      have hta := buildT hb ha0 (by rw [Nat.zero_add]; exact hpart j p hj)
      rw [← hta] at ha0
      obtain ⟨fl, h1, h2, _, h4⟩ := chain_field hch ha0
      exact ⟨fl, h1, h2, by omega, hpl2 _ fl _ h1 h2⟩
     obtain ⟨β2, q1, q2, q3, q4⟩ := place_all (dst := fun i => dd :: (ones i ++ [0])) k1 k3 hd (Nat.le_refl _) hnd (fun i => ⟨_, rfl⟩) (fun i j s hij => by
      have := strip_ones (s := s) hij
      simp only [List.cons_append, strip, if_true]
      exact this)
     have hone : ∀ (j : Nat) (p : Nat × Dat) (c : List Value), ds[j]? = some p → cs[j]? = some c → (valOf p.2.t c).cells = c.toArray ∧ c.length = p.2.t.size := fun j p c h1 h2 => one_of_hand k1 k3 h1 h2
     obtain ⟨r, r1, r2, r3, r4⟩ := fill_ok (place := (pl.toArray[·]?)) (ps := valsOf ds cs) (cells := z.cells) (fun p hp => by
      obtain ⟨j, q, c, h1, h2, rfl⟩ := mem_valsOf hp
      obtain ⟨e1, e2⟩ := hone j q c h1 h2
      obtain ⟨fl, f1, f2, f3, f4⟩ := hfield j q h1
      refine ⟨fl.offset, ?_, ?_⟩
      ·simp only [e1]; simpa [e2] using f4
      ·simp only [e1]; simp only [List.size_toArray, e2]
       have : z.cells.size = τ.size := by simpa using hzl
       omega) (by
      unfold valsOf
      rw [List.pairwise_map, List.pairwise_iff_getElem]
      intro i j hi hj hij
      simp only [List.length_zip] at hi hj
      simp only [List.getElem_zip]
      have hne : (ds[i]'(by omega)).1 ≠ (ds[j]'(by omega)).1 := by
       intro e
       have := (List.pairwise_iff_getElem.1 (nodups_nodup hnd)) i j (by simp; omega) (by simp; omega) hij
       simp only [List.getElem_map] at this
       exact this e
      obtain ⟨fl, f1, f2, f3, f4⟩ := hfield i (ds[i]'(by omega)) (List.getElem?_eq_getElem _)
      obtain ⟨fl', f1', f2', f3', f4'⟩ := hfield j (ds[j]'(by omega)) (List.getElem?_eq_getElem _)
      intro o1 s1 o2 s2 h1 h2
      simp only [List.getElem?_toArray] at h1 h2
      rw [f4] at h1
      rw [f4'] at h2
      simp only [Option.some.injEq, Prod.mk.injEq] at h1 h2
      obtain ⟨rfl, rfl⟩ := h1
      obtain ⟨rfl, rfl⟩ := h2
      rcases Nat.lt_or_gt_of_ne hne with hl | hl
      ·exact .inl (chain_mono hch hl f1 f1' f2)
      ·exact .inr (chain_mono hch hl f1' f1 f2'))
     have hbuilt : E.P.built t (valsOf ds cs) = some r := by
      unfold Program.built
      rw [hit, hfs]
      simp only [hz, hpl1]
      exact r1
     have hwz : win z.cells.toList 0 τ.size = z.cells.toList := by rw [← hzl]; exact win_all _
     have hrl : r.toList.length = τ.size := by rw [← hzl]; simpa using r2
     have hv := build_struct (S := S1) (β := β2) (H := H) (w := w) (mv := mv) (zc := z.cells.toList) (rc := r.toList) (K0 := [dd]) (i := 0) hch hb (by rw [hwz]; exact hzc) (fun j fl a hj ha => by
      rw [Nat.zero_add]
      refine ⟨fun d x hd' hx => ?_, fun hnone => ?_⟩
      ·obtain ⟨j', p, h1, h2, h3⟩ := partAt_some hd'
       have hjc : ∃ c, cs[j']? = some c := by
        have := (List.getElem?_eq_some_iff.1 h1).1
        exact ⟨cs[j']'(by rw [k3.1]; exact this), List.getElem?_eq_getElem _⟩
       obtain ⟨c, hcc⟩ := hjc
       obtain ⟨e1, e2⟩ := hone j' p c h1 hcc
       obtain ⟨fl', f1, f2, f3, f4⟩ := hfield j' p h1
       rw [h2] at f1 f4
       rw [hj] at f1
       cases f1
       rw [ha] at f2
       have hta : a = p.2.t := Option.some.inj f2
       have hwin := r3 (p.1, valOf p.2.t c) (by
        unfold valsOf
        rw [List.mem_map]
        refine ⟨(p, c), ?_, rfl⟩
        exact List.mem_of_getElem? (i := j') (by simp only [List.getElem?_zip_eq_some]; exact ⟨h1, hcc⟩)) fl.offset p.2.t.size (by simpa [h2] using f4)
       simp only [e1] at hwin
       have hvp := q4 j' p c h1 hcc
       simp only [h2] at hvp
       subst h3
       obtain ⟨pi, pt, px, pf⟩ := p
       simp only at *
       subst hta
       obtain ⟨het, hex⟩ := castD_some hx
       rw [hwin]
       have hxe : x = px := by rw [hex]
       rw [hxe]
       simpa using hvp
      ·refine r4 _ _ (fun p hpm off s hpls => ?_)
       obtain ⟨j', q, c, h1, h2, rfl⟩ := mem_valsOf hpm
       obtain ⟨fl', f1, f2, f3, f4⟩ := hfield j' q h1
       simp only [List.getElem?_toArray] at hpls
       rw [f4] at hpls
       simp only [Option.some.injEq, Prod.mk.injEq] at hpls
       obtain ⟨rfl, rfl⟩ := hpls
       have hne : q.1 ≠ j := partAt_none hnone q (List.mem_of_getElem? h1)
       rcases Nat.lt_or_gt_of_ne hne with hl | hl
       ·exact .inr (chain_mono hch hl f1 hj f2)
       ·exact .inl (chain_mono hch hl hj f1 ha))
     rw [show win r.toList 0 τ.size = r.toList by rw [← hrl]; exact win_all _] at hv
     exact built_put hc ho (exec_build hm k6 hbuilt) hag k4 k5 k2 q1 q2 q3 (by simpa [ones] using hv)
    ·cases hk
   ·cases hk
  ·cases hk
 ·cases hk
end
end Go.Rf

end
section
namespace Go.Rf
set_option linter.unusedSectionVars false
variable [T : Laid]
section
variable {S : Nat → Prop} {β : Key → Option Nat} {H : Nat → Option (List Value)} {w w' : World} {b₀ o₀ o len cap : Nat} {cd : List Value}
structure Behind (S : Nat → Prop) (β : Key → Option Nat) (w w' : World) (kp : Key) (b₀ o₀ : Nat) (cd : List Value) : Prop where
 chg : Chg w w' b₀ o₀ cd
 own : ∀ key, β key = some b₀ → key = kp
 nS : ¬ S b₀
theorem Behind.keep {kp : Key} (h : Behind S β w w' kp b₀ o₀ cd) : ∀ b, S b → S b ∧ w'.heap[b]? = w.heap[b]? := fun b hb => ⟨hb, h.chg.other b fun e => h.nS (e ▸ hb)⟩
theorem Behind.aside {kp k : Key} (h : Behind S β w w' kp b₀ o₀ cd) (hk : ∀ s, k ++ s ≠ kp) : ∀ s b, β (k ++ s) = some b → β (k ++ s) = some b ∧ w'.heap[b]? = w.heap[b]? := fun s b hb =>
 ⟨hb, h.chg.other b fun e => hk s (h.own _ (e ▸ hb))⟩
theorem key_ne {k : Key} {i j : Nat} {u s : Key} (h : i ≠ j) : k ++ [i] ++ s ≠ k ++ j :: u := by simp [h]
theorem key_short {k u : Key} {i : Nat} : k ≠ k ++ i :: u := by simp
theorem VRel_app : ∀ {p : List PS} {t : Ty} {f : Fl} {x : t.D} {k : Key} {L : Loc} {c : List Value} {τ : Ty} {xs : List τ.D} {g : Fl} {L' : Loc},
  getP p t f x = some ⟨.sl τ, xs, g⟩ → g.base = .own .sh → inB p t x → cellsAt w t.size L = some c → VRel S β H w k t f x c → walk w t L p = some (.sl τ, L') → cellsAt w 1 L' = some [.slice (some ⟨b₀, o, none⟩) len cap] → o + len * τ.size ≤ o₀ →
  Behind S β w w' (k ++ keyP p) b₀ o₀ cd → VRel S β H w' k t f x c
 | [], t, f, x, k, L, c, τ, xs, g, L', hg, hgb, hb, hc, hv, hw, hL, ho, hB => by
  simp only [getP, Option.some.injEq] at hg
  cases hg
  simp only [walk, Option.some.injEq, Prod.mk.injEq, true_and] at hw
  subst hw
  have hcl := cellsAt_len hc
  simp only [Ty.size] at hc
  rw [hL] at hc
  simp only [Option.some.injEq] at hc
  subst hc
  simp only [VRel] at hv ⊢
  refine ⟨hv.1, ?_⟩
  replace hv := hv.2
  rw [hgb] at hv ⊢
  obtain ⟨ad, cap', e, hlc, hv⟩ := hv
  simp only [List.cons.injEq, Value.slice.injEq, and_true] at e
  obtain ⟨rfl, rfl, rfl⟩ := e
  refine ⟨_, _, rfl, hlc, hv.imp id ?_⟩
  rintro ⟨b, oo, cs, e, hk, hob, hz, hv⟩
  simp only [Option.some.injEq, Addr.mk.injEq, and_true] at e
  obtain ⟨rfl, rfl⟩ := e
  obtain ⟨cs', hB', hz', hcs, hle⟩ := hB.chg.size hob
  refine ⟨_, _, cs', rfl, hk, hB', by rw [hz']; exact hz, fun i y hy => ?_⟩
  have hi : i < List.length xs := by unfold nth at hy; exact (List.getElem?_eq_some_iff.1 hy).1
  have hlt : (i + 1) * τ.size ≤ List.length xs * τ.size := Nat.mul_le_mul_right _ hi
  rw [Nat.add_mul, Nat.one_mul] at hlt
  rw [hcs, win_splice_out (by simpa using hle) (.inl (by omega))]
  have := hv i y hy
  rw [VRel_sh] at this ⊢
  exact Rd_mono hB.keep this
 | .fst :: p, .pair s u, f, x, k, L, c, τ, xs, g, L', hg, hgb, hb, hc, hv, hw, hL, ho, hB => by
  simp only [getP] at hg
  have hne := getP_ne hg (by rw [hgb]; simp)
  have hpar := VRel_parts hv
  have h1 := hpar.1
  rw [take_win] at h1
  have hkey : k ++ keyP (.fst :: p) = (k ++ [0]) ++ keyP p := by simp [keyP]
  have ih := VRel_app hg hgb (by simpa [inB] using hb) (cellsAt_sub (i := 0) (m := s.size) hc (by simp [Ty.size])) h1 (by simpa [walk, stepL] using hw) hL ho (hkey ▸ hB)
  rw [← take_win] at ih
  have h2 := VRel_trans hB.keep (hB.aside (k := k ++ [1]) (fun q => by simp [keyP])) hpar.2
  rcases getP_cases_l hne with hf | ⟨f1, f2, hf⟩
  ·have := getP_sh (p := p) (by rw [l_base, hf]; rfl) hg
   rw [hgb] at this; cases this
  ·simp only [VRel] at hv ⊢
   refine ⟨hv.1, ?_⟩
   rw [l_base, hf] at ih
   rw [r_base, hf] at h2
   rw [hf]; exact ⟨ih, h2⟩
 | .snd :: p, .pair s u, f, x, k, L, c, τ, xs, g, L', hg, hgb, hb, hc, hv, hw, hL, ho, hB => by
  simp only [getP] at hg
  have hne := getP_ne hg (by rw [hgb]; simp)
  have hpar := VRel_parts hv
  have hl := VRel_len hv
  have h1 := hpar.2
  rw [drop_win (by simpa [Ty.size] using hl)] at h1
  have hkey : k ++ keyP (.snd :: p) = (k ++ [1]) ++ keyP p := by simp [keyP]
  have ih := VRel_app hg hgb (by simpa [inB] using hb) (cellsAt_sub (i := s.size) (m := u.size) hc (by simp [Ty.size])) h1 (by simpa [walk, stepL] using hw) hL ho (hkey ▸ hB)
  rw [← drop_win (by simpa [Ty.size] using hl)] at ih
  have h2 := VRel_trans hB.keep (hB.aside (k := k ++ [0]) (fun q => by simp [keyP])) hpar.1
  rcases getP_cases_r hne with hf | ⟨f1, f2, hf⟩
  ·have := getP_sh (p := p) (by rw [r_base, hf]; rfl) hg
   rw [hgb] at this; cases this
  ·simp only [VRel] at hv ⊢
   refine ⟨hv.1, ?_⟩
   rw [r_base, hf] at ih
   rw [l_base, hf] at h2
   rw [hf]; exact ⟨h2, ih⟩
 | .der :: p, .ptr t, f, x, k, L, c, τ, xs, g, L', hg, hgb, hb, hc, hv, hw, hL, ho, hB => by
  simp only [getP] at hg
  have hne := getP_ne hg (by rw [hgb]; simp)
  rcases getP_cases_e hne with hf | ⟨e, hf⟩
  ·have := getP_sh (p := p) (by rw [e_base, hf]; rfl) hg
   rw [hgb] at this; cases this
  ·simp only [VRel] at hv ⊢
   refine ⟨hv.1, ?_⟩
   replace hv := hv.2
   rw [hf] at hv ⊢
   obtain ⟨b, cs, rfl, hk, hob, hz, hv⟩ := hv
   have hbb : b ≠ b₀ := fun e' => by
    have := hB.own _ (e' ▸ hk)
    simp [keyP] at this
   refine ⟨b, cs, rfl, hk, hob.same (hB.chg.other b hbb), hz, ?_⟩
   simp only [Ty.size] at hc
   simp only [walk, stepL, hc] at hw
   have hc' := cellsAt_mem (o := 0) (n := t.size) hob.blk (by omega)
   have : win cs.toList 0 t.size = cs.toList := by rw [← hz, ← Array.length_toList]; exact win_all _
   rw [this] at hc'
   have hkey : k ++ keyP (.der :: p) = (k ++ [0]) ++ keyP p := by simp [keyP]
   rw [e_base, hf] at hg
   exact VRel_app hg hgb (by simpa [inB] using hb) hc' hv hw hL ho (hkey ▸ hB)
 | .idx i :: p, .arr n t, f, x, k, L, c, τ, xs, g, L', hg, hgb, hb, hc, hv, hw, hL, ho, hB => by
  simp only [getP] at hg
  simp only [inB] at hb
  have hne := getP_ne hg (by rw [hgb]; simp)
  obtain ⟨hx, hcl, hel⟩ := VRel_elems hne hv
  rcases getP_cases_a hne with hf | ⟨e, hf⟩
  ·have := getP_sh (p := p) (by rw [a_base, hf]; rfl) hg
   rw [hgb] at this; cases this
  ·have hkey : k ++ keyP (.idx i :: p) = (k ++ [i]) ++ keyP p := by simp [keyP]
   have hlt : (i + 1) * t.size ≤ n * t.size := Nat.mul_le_mul_right _ hb.1
   rw [Nat.add_mul] at hlt
   simp only [VRel] at hv ⊢
   refine ⟨hv.1, ?_⟩
   rw [hf]
   refine ⟨hx, hcl, fun j y hy => ?_⟩
   have hel' := hel j y hy
   rw [a_base, hf] at hel'
   simp only [Fl.a] at hel'
   by_cases hij : j = i
   ·subst hij
    have hyd : y = List.getD x j t.dflt := by
     have := getD_nth (z := t.dflt) (show j < List.length x by omega)
     rw [hy] at this; exact Option.some.inj this
    subst hyd
    simp only [walk, stepL, hb.1, if_true] at hw
    rw [a_base, hf] at hg
    exact VRel_app hg hgb hb.2 (cellsAt_sub (i := j * t.size) (m := t.size) hc (by simp only [Ty.size]; omega)) hel' hw hL ho (hkey ▸ hB)
   ·exact VRel_trans hB.keep (hB.aside (k := k ++ [j]) (fun q => by simp [keyP, hij])) hel'
 | .elm i :: p, .sl t, f, x, k, L, c, τ, xs, g, L', hg, hgb, hb, hc, hv, hw, hL, ho, hB => by
  simp only [getP] at hg
  simp only [inB] at hb
  have hne := getP_ne hg (by rw [hgb]; simp)
  rcases getP_cases_e hne with hf | ⟨e, hf⟩
  ·have := getP_sh (p := p) (by rw [e_base, hf]; rfl) hg
   rw [hgb] at this; cases this
  ·have hkey : k ++ keyP (.elm i :: p) = (k ++ [i]) ++ keyP p := by simp [keyP]
   simp only [VRel] at hv ⊢
   refine ⟨hv.1, ?_⟩
   replace hv := hv.2
   rw [hf] at hv ⊢
   obtain ⟨ad, cap', rfl, hlc, hv⟩ := hv
   refine ⟨ad, cap', rfl, hlc, hv.imp id ?_⟩
   rintro ⟨b, oo, cs, rfl, hk, hob, hz, hv⟩
   have hbb : b ≠ b₀ := fun e' => by
    have := hB.own _ (e' ▸ hk)
    simp [keyP] at this
   refine ⟨b, oo, cs, rfl, hk, hob.same (hB.chg.other b hbb), hz, fun j y hy => ?_⟩
   by_cases hij : j = i
   ·subst hij
    have hyd : y = List.getD x j t.dflt := by
     have := getD_nth (z := t.dflt) hb.1
     rw [hy] at this; exact Option.some.inj this
    subst hyd
    simp only [Ty.size] at hc
    simp only [walk, stepL, hc, hb.1, if_true] at hw
    rw [e_base, hf] at hg
    have hlt : (j + 1) * t.size ≤ cap' * t.size := Nat.mul_le_mul_right _ (by have := hb.1; omega)
    rw [Nat.add_mul] at hlt
    exact VRel_app hg hgb hb.2 (cellsAt_mem (o := oo + j * t.size) (n := t.size) hob.blk (by omega)) (hv j _ hy) hw hL ho (hkey ▸ hB)
   ·exact VRel_trans hB.keep (hB.aside (k := k ++ [j]) (fun q => by simp [keyP, hij])) (hv j y hy)
theorem walk_app : ∀ {q p : List PS} {t : Ty} {f : Fl} {x : t.D} {k : Key} {L : Loc} {c : List Value} {τ : Ty} {xs : List τ.D} {g : Fl} {L' : Loc} {d : Dat},
  getP q t f x = some d → d.f.base ≠ .gone → inB q t x →
  getP p t f x = some ⟨.sl τ, xs, g⟩ → g.base = .own .sh → inB p t x → cellsAt w t.size L = some c → cellsAt w' t.size L = some c → VRel S β H w k t f x c → walk w t L p = some (.sl τ, L') → cellsAt w 1 L' = some [.slice (some ⟨b₀, o, none⟩) len cap] → o + len * τ.size ≤ o₀ →
  Behind S β w w' (k ++ keyP p) b₀ o₀ cd →
  ∃ Lq cq, walk w t L q = some (d.t, Lq) ∧ walk w' t L q = some (d.t, Lq) ∧ cellsAt w d.t.size Lq = some cq ∧ cellsAt w' d.t.size Lq = some cq
 | [], p, t, f, x, k, L, c, τ, xs, g, L', d, hq, hqn, hqb, hg, hgb, hb, hc, hcc, hv, hw, hL, ho, hB => by
  simp only [getP, Option.some.injEq] at hq; subst hq
  exact ⟨L, c, rfl, rfl, hc, hcc⟩
 | s :: q, [], t, f, x, k, L, c, τ, xs, g, L', d, hq, hqn, hqb, hg, hgb, hb, hc, hcc, hv, hw, hL, ho, hB => by
  simp only [getP, Option.some.injEq] at hg
  cases hg
  simp only [walk, Option.some.injEq, Prod.mk.injEq, true_and] at hw
  subst hw
  cases s <;> simp only [getP, reduceCtorEq] at hq
  rename_i i
  simp only [inB] at hqb
  have hne : f.e.base ≠ .gone := getP_ne hq hqn
  obtain ⟨b, oo, cs, m, cap', rfl, him, hs, hBl, hz, hv'⟩ := VRel_elm hne hv (getD_nth (z := τ.dflt) hqb.1)
  simp only [Ty.size] at hc hcc
  rw [hL] at hc
  simp only [Option.some.injEq, List.cons.injEq, Value.slice.injEq, Addr.mk.injEq, and_true] at hc
  obtain ⟨⟨rfl, rfl⟩, rfl, rfl⟩ := hc
  have hxl : len = List.length xs := by
   simp only [VRel] at hv
   replace hv := hv.2
   rw [hgb] at hv
   obtain ⟨ad, cp, e, _⟩ := hv
   simp only [List.cons.injEq, Value.slice.injEq, and_true] at e
   exact e.2.1
  rw [Nat.add_mul, Nat.one_mul] at hz
  have hlt : (i + 1) * τ.size ≤ len * τ.size := Nat.mul_le_mul_right _ him
  rw [Nat.add_mul, Nat.one_mul] at hlt
  obtain ⟨cs1, e1, fz1, cs1', t1, t2, t3, t4⟩ := hB.chg.this
  have hcs : cs = cs1 := hBl.inj ⟨e1, fz1, t1⟩
  subst hcs
  have hsz : cs1'.size = cs.size := by
   have := congrArg List.length t3
   rw [splice_len (by simpa using t4)] at this
   simpa using this
  have hc1 := cellsAt_mem (o := o + i * τ.size) (n := τ.size) hBl (by omega)
  have hc2 : cellsAt w' τ.size (.mem b₀ (o + i * τ.size)) = some (win cs.toList (o + i * τ.size) τ.size) := by
   rw [cellsAt_mem (o := o + i * τ.size) (n := τ.size) ⟨e1, fz1, t2⟩ (by omega), t3, win_splice_out (by simpa using t4) (.inl (by omega))]
  obtain ⟨Lq, cq, h1, h2, h3, h4, _⟩ := walk_get2 (fun b hb => (hB.keep b hb).2) (k := k ++ [i]) (fun s b hb => (hB.aside (k := k ++ [i]) (fun q => by simp [keyP]) s b hb).2) hq hqb.2 hqn hc1 hc2 hv'
  exact ⟨Lq, cq, by simp only [walk, stepL, hL, him, if_true]; exact h1, by simp only [walk, stepL, hcc, him, if_true]; exact h2, h3, h4⟩
 | r :: q, s :: p, t, f, x, k, L, c, τ, xs, g, L', d, hq, hqn, hqb, hg, hgb, hb, hc, hcc, hv, hw, hL, ho, hB => by
  cases r <;> cases t <;> cases s <;> (try simp only [getP, reduceCtorEq] at hq) <;> (try simp only [getP, reduceCtorEq] at hg)
  case fst.pair.fst =>
   rename_i a b
   have h1 := (VRel_parts hv).1
   rw [take_win] at h1
   obtain ⟨Lq, cq, k1, k2, k3, k4⟩ := walk_app (k := k ++ [0]) hq hqn (by simpa [inB] using hqb) hg hgb (by simpa [inB] using hb) (cellsAt_sub (i := 0) (m := a.size) hc (by simp [Ty.size])) (cellsAt_sub (i := 0) (m := a.size) hcc (by simp [Ty.size])) h1 (by simpa [walk, stepL] using hw) hL ho (by simpa [keyP] using hB)
   exact ⟨Lq, cq, by simpa [walk, stepL] using k1, by simpa [walk, stepL] using k2, k3, k4⟩
  case snd.pair.snd =>
   rename_i a b
   have hl := VRel_len hv
   have h1 := (VRel_parts hv).2
   rw [drop_win (by simpa [Ty.size] using hl)] at h1
   obtain ⟨Lq, cq, k1, k2, k3, k4⟩ := walk_app (k := k ++ [1]) hq hqn (by simpa [inB] using hqb) hg hgb (by simpa [inB] using hb) (cellsAt_sub (i := a.size) (m := b.size) hc (by simp [Ty.size])) (cellsAt_sub (i := a.size) (m := b.size) hcc (by simp [Ty.size])) h1 (by simpa [walk, stepL] using hw) hL ho (by simpa [keyP] using hB)
   exact ⟨Lq, cq, by simpa [walk, stepL] using k1, by simpa [walk, stepL] using k2, k3, k4⟩
  case fst.pair.snd =>
   rename_i a b
   have h1 := (VRel_parts hv).1
   rw [take_win] at h1
   obtain ⟨Lq, cq, k1, k2, k3, k4, _⟩ := walk_get2 (fun b hb => (hB.keep b hb).2) (k := k ++ [0]) (fun s b hb => (hB.aside (k := k ++ [0]) (fun q => by simp [keyP]) s b hb).2) hq (by simpa [inB] using hqb) hqn (cellsAt_sub (i := 0) (m := a.size) hc (by simp [Ty.size])) (cellsAt_sub (i := 0) (m := a.size) hcc (by simp [Ty.size])) h1
   exact ⟨Lq, cq, by simpa [walk, stepL] using k1, by simpa [walk, stepL] using k2, k3, k4⟩
  case snd.pair.fst =>
   rename_i a b
   have hl := VRel_len hv
   have h1 := (VRel_parts hv).2
   rw [drop_win (by simpa [Ty.size] using hl)] at h1
   obtain ⟨Lq, cq, k1, k2, k3, k4, _⟩ := walk_get2 (fun b hb => (hB.keep b hb).2) (k := k ++ [1]) (fun s b hb => (hB.aside (k := k ++ [1]) (fun q => by simp [keyP]) s b hb).2) hq (by simpa [inB] using hqb) hqn (cellsAt_sub (i := a.size) (m := b.size) hc (by simp [Ty.size])) (cellsAt_sub (i := a.size) (m := b.size) hcc (by simp [Ty.size])) h1
   exact ⟨Lq, cq, by simpa [walk, stepL] using k1, by simpa [walk, stepL] using k2, k3, k4⟩
  case der.ptr.der =>
   rename_i t
   have hne := getP_ne hg (by rw [hgb]; simp)
   rcases getP_cases_e hne with hf | ⟨e, hf⟩
   ·have := getP_sh (p := p) (by rw [e_base, hf]; rfl) hg
    rw [hgb] at this; cases this
   ·have hv0 := hv
    simp only [VRel] at hv0
    replace hv0 := hv0.2
    rw [hf] at hv0
    obtain ⟨b, cs, rfl, hk, hob, hz, hv1⟩ := hv0
    have hbb : b ≠ b₀ := fun e' => by
     have := hB.own _ (e' ▸ hk)
     simp [keyP] at this
    simp only [Ty.size] at hc hcc
    simp only [walk, stepL, hc] at hw
    have hc' := cellsAt_mem (o := 0) (n := t.size) hob.blk (by omega)
    have hcc' := cellsAt_mem (w := w') (o := 0) (n := t.size) (hob.same (hB.chg.other b hbb)).blk (by omega)
    have : win cs.toList 0 t.size = cs.toList := by rw [← hz, ← Array.length_toList]; exact win_all _
    rw [this] at hc' hcc'
    rw [e_base, hf] at hg hq
    obtain ⟨Lq, cq, k1, k2, k3, k4⟩ := walk_app (k := k ++ [0]) hq hqn (by simpa [inB] using hqb) hg hgb (by simpa [inB] using hb) hc' hcc' hv1 hw hL ho (by simpa [keyP] using hB)
    exact ⟨Lq, cq, by simp only [walk, stepL, hc]; exact k1, by simp only [walk, stepL, hcc]; exact k2, k3, k4⟩
  case idx.arr.idx =>
   rename_i i n t j
   simp only [inB] at hqb hb
   have hne := getP_ne hg (by rw [hgb]; simp)
   obtain ⟨hx, hcl, hel⟩ := VRel_elems hne hv
   have hlt : (i + 1) * t.size ≤ n * t.size := Nat.mul_le_mul_right _ hqb.1
   rw [Nat.add_mul] at hlt
   have hc1 := cellsAt_sub (i := i * t.size) (m := t.size) hc (by simp only [Ty.size]; omega)
   have hc2 := cellsAt_sub (i := i * t.size) (m := t.size) hcc (by simp only [Ty.size]; omega)
   have hvi := hel i _ (getD_nth (z := t.dflt) (by omega))
   by_cases hij : i = j
   ·subst hij
    simp only [walk, stepL, hb.1, if_true] at hw
    obtain ⟨Lq, cq, k1, k2, k3, k4⟩ := walk_app (k := k ++ [i]) hq hqn hqb.2 hg hgb hb.2 hc1 hc2 hvi hw hL ho (by simpa [keyP] using hB)
    exact ⟨Lq, cq, by simp only [walk, stepL, hqb.1, if_true]; exact k1, by simp only [walk, stepL, hqb.1, if_true]; exact k2, k3, k4⟩
   ·obtain ⟨Lq, cq, k1, k2, k3, k4, _⟩ := walk_get2 (fun b hb => (hB.keep b hb).2) (k := k ++ [i]) (fun s b hb => (hB.aside (k := k ++ [i]) (fun q => by simp [keyP, hij]) s b hb).2) hq hqb.2 hqn hc1 hc2 hvi
    exact ⟨Lq, cq, by simp only [walk, stepL, hqb.1, if_true]; exact k1, by simp only [walk, stepL, hqb.1, if_true]; exact k2, k3, k4⟩
  case elm.sl.elm =>
   rename_i i t j
   simp only [inB] at hqb hb
   have hne := getP_ne hg (by rw [hgb]; simp)
   rcases getP_cases_e hne with hf | ⟨e, hf⟩
   ·have := getP_sh (p := p) (by rw [e_base, hf]; rfl) hg
    rw [hgb] at this; cases this
   ·have hv0 := hv
    simp only [VRel] at hv0
    replace hv0 := hv0.2
    rw [hf] at hv0
    obtain ⟨ad, cap', rfl, hlc, hv0⟩ := hv0
    rcases hv0 with hv0 | ⟨b, oo, cs, rfl, hk, hob, hz, hv1⟩
    ·have := hqb.1; omega
    ·have hbb : b ≠ b₀ := fun e' => by
      have := hB.own _ (e' ▸ hk)
      simp [keyP] at this
     simp only [Ty.size] at hc hcc
     simp only [walk, stepL, hc, hb.1, if_true] at hw
     rw [e_base, hf] at hg hq
     have hlt : (i + 1) * t.size ≤ cap' * t.size := Nat.mul_le_mul_right _ (by have := hqb.1; omega)
     rw [Nat.add_mul] at hlt
     have hc1 := cellsAt_mem (o := oo + i * t.size) (n := t.size) hob.blk (by omega)
     have hc2 := cellsAt_mem (w := w') (o := oo + i * t.size) (n := t.size) (hob.same (hB.chg.other b hbb)).blk (by omega)
     have hvi := hv1 i _ (getD_nth (z := t.dflt) hqb.1)
     by_cases hij : i = j
     ·subst hij
      obtain ⟨Lq, cq, k1, k2, k3, k4⟩ := walk_app (k := k ++ [i]) hq hqn hqb.2 hg hgb hb.2 hc1 hc2 hvi hw hL ho (by simpa [keyP] using hB)
      exact ⟨Lq, cq, by simp only [walk, stepL, hc, hqb.1, if_true]; exact k1, by simp only [walk, stepL, hcc, hqb.1, if_true]; exact k2, k3, k4⟩
     ·obtain ⟨Lq, cq, k1, k2, k3, k4, _⟩ := walk_get2 (fun b hb => (hB.keep b hb).2) (k := k ++ [i]) (fun s b hb => (hB.aside (k := k ++ [i]) (fun q => by simp [keyP, hij]) s b hb).2) hq hqb.2 hqn hc1 hc2 hvi
      exact ⟨Lq, cq, by simp only [walk, stepL, hc, hqb.1, if_true]; exact k1, by simp only [walk, stepL, hcc, hqb.1, if_true]; exact k2, k3, k4⟩
end
end Go.Rf

end
section
namespace Go.Rf
set_option linter.unusedSectionVars false
variable [T : Laid]
section
variable {P : Program} {S : Nat → Prop} {β : Key → Option Nat} {H : Nat → Option (List Value)} {w w' : World} {E : Env}
def Added (P : Program) (w : World) (t' : TypeId) (size : Nat) (z : Array Value) (vy : Value) (m : Nat) (cy : List Value) : Prop :=
 (∃ u, P.underlying t' = some u ∧ (∀ k, u ≠ .int k) ∧ (∀ w', (Builtin.lenOf vy).run P w' = .ok m w') ∧ ∀ w', w'.heap = w.heap → (Builtin.firstCells size m vy).run P w' = .ok cy.toArray w') ∨
 (P.underlying t' = some (.int .i64) ∧ vy = .int .i64 m ∧ m ≤ 1099511627776 ∧ cy = (again z (m * size)).toList)
theorem zeroCells_again {z : Array Value} {n : Nat} : Builtin.zeroCells z n = again z (n * z.size) := rfl
theorem int_mul_le {b m : Nat} (hb : b ≤ 128) (hm : m ≤ 1099511627776) : ¬ ((m : Int) * (b : Int) > 2 ^ 48) := by
 have : m * b ≤ 1099511627776 * 128 := Nat.mul_le_mul hm hb
 rw [← Int.natCast_mul]
 omega
theorem run_append_in {t t' ty e : TypeId} {τ : Ty} {z : Value} {vy : Value} {m len cap : Nat} {cy : List Value} {base : Option Addr} (h : SlOK E t e τ z) (ha : Added E.P w t' τ.size z.cells vy m cy) (hroom : len + m ≤ cap)
  (hst : ∀ a, base = some a → (storeCells (a.add (len * τ.size)) cy 0).run E.P w = .ok () w') (hno : base = none → w' = w) :
  (Builtin.append_ #[t, t'] ty #[.slice base len cap, vy]).run E.P w = .ok (.slice base (len + m) cap) w' := by
 obtain ⟨i, hi, hb⟩ := h.bytes
 have hsz : (sizeOf e).run E.P w = .ok τ.size w := run_sizeOf' h.elem
 rcases ha with ⟨u, hu, hni, hl, hf⟩ | ⟨hu, rfl, hm, rfl⟩
 ·skip
  have hf' := hf w rfl
  cases base with
  | none =>
   have := hno rfl
   subst this
   simp [Builtin.append_, run_underlying' h.und, run_underlying' hu, hsz, hl, hroom, hf']
  | some a =>
   have := hst a rfl
   simp [Builtin.append_, run_underlying' h.und, run_underlying' hu, hsz, hl, hroom, hf', this]
 ·have hw : IntKind.i64.wrap (m : Int) = m := wrap_small (by omega) (by omega)
  have hmul := int_mul_le hb hm
  have hzs := h.size
  have e0 : again z.cells 0 = #[] := by simp [again]
  have hn0 : ¬ ((m : Int) < 0) := by omega
  have hn1 : ¬ (281474976710656 < (m : Int) * (i.bytes : Int)) := by omega
  cases base with
  | none =>
   have := hno rfl
   subst this
   by_cases h0 : m * τ.size = 0
   ·simp [Builtin.append_, run_underlying' h.und, run_underlying' hu, hsz, hroom, asInt, asIntOf, hw, run_typeInfo' hi, hn0, hn1, h0]
   ·simp [Builtin.append_, run_underlying' h.und, run_underlying' hu, hsz, hroom, asInt, asIntOf, hw, run_typeInfo' hi, hn0, hn1, h0, h.zero]
  | some a =>
   have hsa := hst a rfl
   by_cases h0 : m * τ.size = 0
   ·rw [h0, e0] at hsa
    simp only [Array.toList_empty] at hsa
    simp [Builtin.append_, run_underlying' h.und, run_underlying' hu, hsz, hroom, asInt, asIntOf, hw, run_typeInfo' hi, hn0, hn1, h0, hsa]
   ·have hzc : Builtin.zeroCells z.cells m = again z.cells (m * τ.size) := by rw [zeroCells_again, hzs]
    simp [Builtin.append_, run_underlying' h.und, run_underlying' hu, hsz, hroom, asInt, asIntOf, hw, run_typeInfo' hi, hn0, hn1, h0, h.zero, hzc, hsa]
theorem run_append_new {t t' ty e : TypeId} {τ : Ty} {z : Value} {vy : Value} {m len cap : Nat} {cy co : List Value} {base : Option Addr} (h : SlOK E t e τ z) (ha : Added E.P w t' τ.size z.cells vy m cy) (hroom : ¬ len + m ≤ cap) (hlen : len + m ≤ 1099511627776)
  (hold : ∀ w', w'.heap = w.heap → (Builtin.firstCells τ.size len (.slice base len cap)).run E.P w' = .ok co.toArray w') :
  ∃ nc w', len + m ≤ nc ∧ (Builtin.append_ #[t, t'] ty #[.slice base len cap, vy]).run E.P w = .ok (.slice (some ⟨w.heap.size, 0, none⟩) (len + m) nc) w' ∧ Pushed w w' (.cells (co.toArray ++ (cy.toArray ++ again z.cells ((nc - (len + m)) * τ.size))) e) := by
 obtain ⟨i, hi, hb⟩ := h.bytes
 have hsz : ∀ w, (sizeOf e).run E.P w = .ok τ.size w := fun w => run_sizeOf' h.elem
 have h63 : ¬ (9223372036854775807 < ((len : Int) + (m : Int))) := by omega
 have hfit := growslice_fits (need := len + m) (old := cap) (bytes := i.bytes) (by omega) (by
  have : (len + m) * i.bytes ≤ 1099511627776 * 128 := Nat.mul_le_mul hlen hb
  omega)
 have h48 : ¬ (281474976710656 < Builtin.nextslicecap (len + m) cap * i.bytes) := by omega
 refine ⟨grownCap w (len + m) cap e, w.drew.alloc (.cells (co.toArray ++ (cy.toArray ++ again z.cells ((grownCap w (len + m) cap e - (len + m)) * τ.size))) e), grownCap_ge _ _ _ _, ?_, rfl, rfl, rfl, rfl⟩
 have hold' := hold w.drew rfl
 have hzs := h.size
 rcases ha with ⟨u, hu, hni, hl, hf⟩ | ⟨hu, rfl, hm, rfl⟩
 ·skip
  have hf' := hf w.drew rfl
  simp [Builtin.append_, run_underlying' h.und, run_underlying' hu, hsz, hl, hroom, run_typeInfo' hi, h63, h48, Question.forced, hold', hf', h.zero, newRow, grownCap, zeroCells_again, hzs]
 ·have hw : IntKind.i64.wrap (m : Int) = m := wrap_small (by omega) (by omega)
  have hmul := int_mul_le hb hm
  have hn0 : ¬ ((m : Int) < 0) := by omega
  have hn1 : ¬ (281474976710656 < (m : Int) * (i.bytes : Int)) := by omega
  have e0 : again z.cells 0 = #[] := by simp [again]
  by_cases h0 : m * τ.size = 0
  ·simp [Builtin.append_, run_underlying' h.und, run_underlying' hu, hsz, hroom, asInt, asIntOf, hw, run_typeInfo' hi, h63, h48, hn0, hn1, h0, e0, Question.forced, hold', h.zero, newRow, grownCap, zeroCells_again, hzs]
  ·simp [Builtin.append_, run_underlying' h.und, run_underlying' hu, hsz, hroom, asInt, asIntOf, hw, run_typeInfo' hi, h63, h48, hn0, hn1, h0, Question.forced, hold', h.zero, newRow, grownCap, zeroCells_again, hzs]
end
end Go.Rf

end
section
namespace Go.Rf
set_option linter.unusedSectionVars false
variable [T : Laid]
section
variable {P : Program} {H : Nat → Option (List Value)} {N : Nat} {g g' σ : View} {V V' : Nat → Option Value} {w w' : World} {S S' : Nat → Prop} {β β' : Key → Option Nat} {a : Act} {o : Oper}
variable {E : Env} {gv : View} {us : List Up}
structure Elems (S : Nat → Prop) (w : World) (τ : Ty) (ys : List τ.D) (cy : List Value) : Prop where
 len : cy.length = ys.length * τ.size
 one : ∀ v ∈ cy, v.oneCell' = true
 get : ∀ j v, nth ys j = some v → Rd S w τ v (win cy (j * τ.size) τ.size)
theorem Elems.of {τ : Ty} {ys : List τ.D} {cy : List Value} (h1 : cy.length = ys.length * τ.size) (h2 : ∀ j v, nth ys j = some v → Rd S w τ v (win cy (j * τ.size) τ.size)) : Elems S w τ ys cy := by
 refine ⟨h1, fun v hv => ?_, h2⟩
 obtain ⟨i, hi, hiv⟩ := mem_win hv h1
 have ht : 0 < τ.size := by
  rcases Nat.eq_zero_or_pos τ.size with e | e
  ·rw [e] at hi; omega
  ·exact e
 have hq : i / τ.size < ys.length := by rw [Nat.div_lt_iff_lt_mul ht]; exact hi
 refine Rd_one (h2 (i / τ.size) _ (getD_nth (z := τ.dflt) hq)) v ?_
 have hg : (win cy (i / τ.size * τ.size) τ.size)[i % τ.size]? = some v := by
  rw [win_get, if_pos (Nat.mod_lt _ ht)]
  have := Nat.div_add_mod i τ.size
  rw [Nat.mul_comm] at this
  rw [this]; exact hiv
 exact List.mem_of_getElem? hg
theorem Elems.nil {τ : Ty} : Elems S w τ ([] : List τ.D) [] := ⟨by simp, by simp, fun j v h => by simp [nth] at h⟩
theorem cellsAt_heap {n : Nat} {L : Loc} (h : w'.heap = w.heap) : cellsAt w' n L = cellsAt w n L := by cases L <;> simp [cellsAt, h]
theorem Rd_elems {τ : Ty} {ys : List τ.D} {c : List Value} (h : Rd S w (.sl τ) ys c) : ∃ ad cap cy, c = [.slice ad ys.length cap] ∧ Elems S w τ ys cy ∧
  ∀ w', w'.heap = w.heap → (Builtin.firstCells τ.size ys.length (.slice ad ys.length cap)).run P w' = .ok cy.toArray w' := by
 simp only [Rd] at h
 obtain ⟨ad, cap, rfl, hl, h⟩ := h
 rcases h with h | ⟨b, oo, cs, rfl, hS, hB, hz, h⟩
 ·subst h
  refine ⟨ad, cap, [], rfl, .nil, fun w' _ => ?_⟩
  cases ad with
  | none => simp [Builtin.firstCells]
  | some b => simp [Builtin.firstCells, loadCells_zero]
 ·refine ⟨_, cap, win cs.toList oo (List.length ys * τ.size), rfl, Elems.of (win_len (by simpa using hz)) (fun j v hv => ?_), fun w' hw' => ?_⟩
  ·have hj : j < List.length ys := by unfold nth at hv; exact (List.getElem?_eq_some_iff.1 hv).1
   have hlt : (j + 1) * τ.size ≤ List.length ys * τ.size := Nat.mul_le_mul_right _ hj
   rw [Nat.add_mul, Nat.one_mul] at hlt
   rw [win_win (by omega)]
   exact h j v hv
  ·have hc := cellsAt_mem (o := oo) (n := List.length ys * τ.size) hB hz
   rw [← cellsAt_heap hw'] at hc
   simp only [Builtin.firstCells]
   exact run_loadCells' hc
theorem nonneg_le {n : Int} (h : nonneg n = true) : 0 ≤ n := by simpa [nonneg] using h
theorem str_added {s : List UInt8} {t' : TypeId} {z : Array Value} (ht : P.underlying t' = some .string) :
  Elems S w (.int .u8) (List.map (fun b : UInt8 => (b.toNat : Int)) s) (List.map (fun b : UInt8 => Value.int .u8 (b.toNat : Int)) s) ∧
  Added P w t' (Ty.int .u8).size z (.string ⟨⟨s⟩⟩) (List.map (fun b : UInt8 => (b.toNat : Int)) s).length (List.map (fun b : UInt8 => Value.int .u8 (b.toNat : Int)) s) := by
 refine ⟨Elems.of ?_ (fun j v hj => ?_), .inl ⟨_, ht, by simp, fun w' => ?_, fun w' _ => ?_⟩⟩
 ·show _ = (List.map (fun b : UInt8 => (b.toNat : Int)) s).length * 1
  rw [Nat.mul_one, List.length_map, List.length_map]
 ·obtain ⟨b, hb1, hb2⟩ := nth_map hj
  subst hb2
  simp only [Rd, Ty.size, Nat.mul_one]
  apply List.ext_getElem?
  intro i
  rw [win_get]
  cases i with
  | zero => rw [if_pos (by decide), Nat.add_zero, List.getElem?_map, hb1]; rfl
  | succ i => rw [if_neg (by omega)]; simp
 ·rw [List.length_map]; rfl
 ·rw [List.length_map]
  have h2 : (⟨⟨s⟩⟩ : ByteArray).extract 0 s.length = ⟨⟨s⟩⟩ := by rw [extract_eq]; simp
  simp only [Builtin.firstCells]
  rw [h2]
  simp
theorem addsOf_sound {τ : Ty} {t' : TypeId} {y : Operand} {ys : List τ.D} {z : Value} (h : Rel H N g V w S β) (hs : Sub gv g) (hz : zcells τ z.cells.toList = true) (hzs : z.cells.size = τ.size)
  (ha : addsOf gv τ (E.ty t') y = some (ys, us)) :
  ∃ S1 β1 cy vy, Rel H N (g.ups us) V w S1 β1 ∧ Step w S β w S1 β1 ∧ Sub (gv.ups us) (g.ups us) ∧ (∀ u ∈ us, (g u.slot).sv ≠ .dead) ∧ Elems S1 w τ ys cy ∧ evl V y = some vy ∧ Added E.P w t' τ.size z.cells vy ys.length cy := by
 unfold addsOf at ha
 split at ha
 ·rename_i ht
  split at ha
  ·rename_i n hn
   split at ha
   ·rename_i hw
    simp only [Bool.cond_eq_ite] at ha
    split at ha
    ·rename_i hcond
     simp only [Bool.and_eq_true] at hcond
     simp only [Option.some.injEq, Prod.mk.injEq] at ha
     obtain ⟨rfl, rfl⟩ := ha
     have hn0 := nonneg_le hcond.1
     have hv := int_of h (hs.sv hn (by simp)) sh_ne
     have hnn : ((Int.toNat n : Nat) : Int) = n := Int.toNat_of_nonneg hn0
     refine ⟨S, β, (again z.cells (Int.toNat n * τ.size)).toList, _, h, .refl, hs, by simp, Elems.of (by simp [again_size]) (fun j v hj => ?_), hv, .inr ⟨ty_int ht, ?_, ?_, ?_⟩⟩
     ·have hj' : (List.replicate (Int.toNat n) τ.dflt)[j]? = some v := hj
      rw [List.getElem?_replicate] at hj'
      split at hj'
      ·rename_i hjn
       simp only [Option.some.injEq] at hj'; subst hj'
       have := rows_zero (S := S) (β := fun _ => none) (H := H) (w := w) (k := []) (mv := false) hz hzs hjn
       exact VRel_read (f := Fl.nw false τ) hw (fun _ h => h) (fun _ _ hb => by cases hb) this
      ·cases hj'
     ·rw [List.length_replicate, hnn]
     ·rw [List.length_replicate]; exact lenOK_le hcond.2
     ·rw [List.length_replicate]
    ·cases ha
   ·cases ha
  ·cases ha
 ·rename_i τ' ht
  obtain ⟨e', he', h7⟩ := tyN_sl ht
  split at ha
  ·rename_i hy
   split at ha
   ·simp only [Option.some.injEq, Prod.mk.injEq] at ha
    obtain ⟨rfl, rfl⟩ := ha
    have hv : evl V y = some (.slice none 0 0) := by
     rcases opnd_nils (hs.sv hy (by simp)) with ⟨s, rfl, h'⟩ | rfl
     ·have := h.slots s
      rw [h'] at this; exact this.elim
     ·rfl
    exact ⟨S, β, [], _, h, .refl, hs, by simp, .nil, hv, .inl ⟨_, he', by simp, fun w' => by simp [Builtin.lenOf], fun w' _ => by simp [Builtin.firstCells]⟩⟩
   ·cases ha
  ·split at ha
   ·rename_i τ'' ys0 f0 hd
    simp only [Option.bind_eq_some_iff, Option.map_eq_some_iff, Prod.mk.injEq] at ha
    obtain ⟨ys1, hc, us1, hp, rfl, rfl⟩ := ha
    obtain ⟨het, hex⟩ := castD_some hc
    cases het
    have hex : ys = ys0 := hex
    subst hex
    obtain ⟨hp', hsub, halive⟩ := publish_mono hs hp
    obtain ⟨S1, β1, c, k1, k2, k3, k4⟩ := publish_sound h hp' (dataOf_mono hs hd)
    obtain ⟨ad, cap, cy, rfl, q1, q2⟩ := Rd_elems (P := E.P) k4
    exact ⟨S1, β1, cy, _, k1, k2, hsub, halive, q1, k3, .inl ⟨_, he', by simp, fun w' => by simp [valOf, Ty.agg, Builtin.lenOf], fun w' hw' => q2 w' hw'⟩⟩
   ·cases ha
 ·rename_i ht
  split at ha
  ·rename_i s hy
   obtain ⟨ys1, hc, hpair⟩ := Option.map_eq_some_iff.1 ha
   simp only [Prod.mk.injEq] at hpair
   obtain ⟨rfl, rfl⟩ := hpair
   obtain ⟨het, hex⟩ := castD_some hc
   cases het
   have hex : ys1 = List.map (fun b : UInt8 => (b.toNat : Int)) s := hex
   subst hex
   have hv := str_of h (hs.sv hy (by simp)) sh_ne
   exact ⟨S, β, _, _, h, .refl, hs, by simp, (str_added (P := E.P) (z := z.cells) (ty_str ht)).1, hv, (str_added (S := S) (w := w) (ty_str ht)).2⟩
  ·cases ha
 ·cases ha
end
end Go.Rf

end
section
namespace Go.Rf
set_option linter.unusedSectionVars false
variable [T : Laid]
section
variable {P : Program} {H : Nat → Option (List Value)} {N : Nat} {g g' σ : View} {V V' : Nat → Option Value} {w w' : World} {S S' : Nat → Prop} {β β' : Key → Option Nat} {a : Act} {o : Oper}
variable {E : Env} {gv : View} {us : List Up}
theorem Rel.touch (h : Rel H N g V w S β) {r : Nat} {e : Dat} (he : (g r).sv = .dat e) : Rel H N (g.up (.pub r (.dat e))) V w S β := by
 obtain ⟨t, x, f⟩ := e
 obtain ⟨c, hv, hV⟩ := h.dat he
 exact h.pub he h.sane (fun b hb => ⟨hb, rfl⟩) (fun j s b _ _ hb => ⟨hb, rfl⟩) (fun p d L cr c h1 h2 _ _ _ h4 h5 => ⟨⟨d.f, h1, h2⟩, h4, h5⟩) ⟨c, hv, hV⟩
theorem nth_append {α : Type} {xs ys : List α} {i : Nat} {y : α} (h : nth (xs ++ ys) i = some y) : (i < xs.length ∧ nth xs i = some y) ∨ (xs.length ≤ i ∧ nth ys (i - xs.length) = some y) := by
 unfold nth at *
 by_cases hi : i < xs.length
 ·rw [List.getElem?_append_left hi] at h; exact .inl ⟨hi, h⟩
 ·rw [List.getElem?_append_right (by omega)] at h; exact .inr ⟨by omega, h⟩
theorem append_core {t t' ty e : TypeId} {τ : Ty} {z : Value} {vy : Value} {xs ys : List τ.D} {cy : List Value} {ad : Option Addr} {cap : Nat} {key : Key} (hok : SlOK E t e τ z)
  (hb : VRel S β H w key (.sl τ) (.own .sh) xs [.slice ad xs.length cap]) (hy : Elems S w τ ys cy) (ha : Added E.P w t' τ.size z.cells vy ys.length cy) (hlen : xs.length + ys.length ≤ 1099511627776) (hsep : ∀ b, β key = some b → ¬ S b) (hlt : ∀ b, S b → b < w.heap.size) :
  (∃ w', (Builtin.append_ #[t, t'] ty #[.slice ad xs.length cap, vy]).run E.P w = .ok (.slice ad (xs.length + ys.length) cap) w' ∧
   ((w' = w ∧ cap = 0 ∧ xs = [] ∧ ys = []) ∨ ∃ b₀ o, ad = some ⟨b₀, o, none⟩ ∧ β key = some b₀ ∧ Chg w w' b₀ (o + xs.length * τ.size) cy ∧ w'.heap.size = w.heap.size ∧ VRel S β H w' key (.sl τ) (.own .sh) (xs ++ ys : List τ.D) [.slice ad (xs.length + ys.length) cap])) ∨
  (∃ w' nc ob, (Builtin.append_ #[t, t'] ty #[.slice ad xs.length cap, vy]).run E.P w = .ok (.slice (some ⟨w.heap.size, 0, none⟩) (xs.length + ys.length) nc) w' ∧ Pushed w w' ob ∧
   ∀ key' β', β' key' = some w.heap.size → VRel S β' H w' key' (.sl τ) (.own .sh) (xs ++ ys : List τ.D) [.slice (some ⟨w.heap.size, 0, none⟩) (xs.length + ys.length) nc]) := by
 simp only [VRel, Fl.base] at hb
 obtain ⟨_, ad', cap', e1, hlc, hb⟩ := hb
 simp only [List.cons.injEq, Value.slice.injEq, and_true] at e1
 obtain ⟨rfl, _, rfl⟩ := e1
 by_cases hroom : xs.length + ys.length ≤ cap
 ·left
  rcases hb with hb | ⟨b, oo, cs, rfl, hk, hob, hz, hel⟩
  ·have hx : xs = [] := List.length_eq_zero_iff.1 (by omega)
   have hyy : ys = [] := List.length_eq_zero_iff.1 (by omega)
   subst hx; subst hyy
   have hcy : cy = [] := List.length_eq_zero_iff.1 (by have := hy.len; simpa using this)
   subst hcy
   exact ⟨w, run_append_in hok ha hroom (fun a _ => by simp [storeCells]) (fun _ => rfl), .inl ⟨rfl, hb, rfl, rfl⟩⟩
  ·obtain ⟨el, fz, hbl, hf⟩ := hob
   have hle : oo + xs.length * τ.size + cy.length ≤ cs.size := by
    rw [hy.len]
    have : xs.length * τ.size + ys.length * τ.size ≤ cap * τ.size := by rw [← Nat.add_mul]; exact Nat.mul_le_mul_right _ hroom
    omega
   obtain ⟨w', cs', k1, k2, k3, k4, k5, k6⟩ := run_storeCells' (P := E.P) (vs := cy) (i := 0) (o := oo + xs.length * τ.size) hbl (fun j hj => ⟨by omega, hf.1 _ (by omega)⟩) hy.one
   rw [Nat.add_zero] at k3
   have hchg : Chg w w' b (oo + xs.length * τ.size) cy := ⟨k4, ⟨cs, el, fz, cs', hbl, k2, k3, hle⟩, k6⟩
   have hsz : cs'.size = cs.size := by
    have := congrArg List.length k3
    rw [splice_len (by simpa using hle)] at this
    simpa using this
   have hS : ∀ b', S b' → S b' ∧ w'.heap[b']? = w.heap[b']? := fun b' hb' => ⟨hb', k4 b' (fun e => hsep b hk (e ▸ hb'))⟩
   refine ⟨w', run_append_in hok ha hroom (fun a ha' => ?_) (fun h => by cases h), .inr ⟨b, oo, rfl, hk, hchg, k5, ?_⟩⟩
   ·simp only [Option.some.injEq] at ha'; subst ha'
    rw [addr_add]; exact k1
   ·simp only [VRel, Fl.base]
    refine ⟨by simp [Pins, Fl.pins], _, cap, by rw [List.length_append], by rw [List.length_append]; exact hroom, .inr ⟨b, oo, cs', rfl, hk, ⟨el, fz, k2, by rw [hsz]; exact hf⟩, by rw [hsz]; exact hz, fun i y hi => ?_⟩⟩
    rw [VRel_sh, k3]
    rcases nth_append hi with ⟨hlt', hi⟩ | ⟨hge, hi⟩
    ·have hlt2 : (i + 1) * τ.size ≤ xs.length * τ.size := Nat.mul_le_mul_right _ hlt'
     rw [Nat.add_mul, Nat.one_mul] at hlt2
     rw [win_splice_out (by simpa using hle) (.inl (by omega))]
     have := hel i y hi
     rw [VRel_sh] at this
     exact Rd_mono hS this
    ·have hj : i - xs.length < ys.length := by unfold nth at hi; exact (List.getElem?_eq_some_iff.1 hi).1
     have hlt2 : (i - xs.length + 1) * τ.size ≤ ys.length * τ.size := Nat.mul_le_mul_right _ hj
     rw [Nat.add_mul, Nat.one_mul] at hlt2
     have e2 : oo + i * τ.size = oo + xs.length * τ.size + (i - xs.length) * τ.size := by
      have : i * τ.size = xs.length * τ.size + (i - xs.length) * τ.size := by rw [← Nat.add_mul]; congr 1; omega
      omega
     have e3 : win (splice cs.toList (oo + xs.length * τ.size) cy) (oo + i * τ.size) τ.size = win cy ((i - xs.length) * τ.size) τ.size := by
      rw [e2, ← win_win (n := cy.length) (by rw [hy.len]; omega), win_splice_in (by simpa using hle)]
     rw [e3]
     exact Rd_mono hS (hy.get _ y hi)
 ·right
  have hold : ∃ co : List Value, co.length = xs.length * τ.size ∧ (∀ w', w'.heap = w.heap → (Builtin.firstCells τ.size xs.length (.slice ad xs.length cap)).run E.P w' = .ok co.toArray w') ∧ ∀ i y, nth xs i = some y → Rd S w τ y (win co (i * τ.size) τ.size) := by
   rcases hb with hb | ⟨b, oo, cs, rfl, hk, hob, hz, hel⟩
   ·have hx : xs = [] := List.length_eq_zero_iff.1 (by omega)
    subst hx
    refine ⟨[], by simp, fun w' _ => ?_, fun i y h => by simp [nth] at h⟩
    cases ad with
    | none => simp [Builtin.firstCells]
    | some b => simp [Builtin.firstCells, loadCells_zero]
   ·have hle : oo + xs.length * τ.size ≤ cs.size := by
     have : xs.length * τ.size ≤ cap * τ.size := Nat.mul_le_mul_right _ hlc
     omega
    refine ⟨win cs.toList oo (xs.length * τ.size), win_len (by simpa using hle), fun w' hw' => ?_, fun i y hi => ?_⟩
    ·have hc := cellsAt_mem (o := oo) (n := xs.length * τ.size) hob.blk hle
     rw [← cellsAt_heap hw'] at hc
     simp only [Builtin.firstCells]
     exact run_loadCells' hc
    ·have hj : i < xs.length := by unfold nth at hi; exact (List.getElem?_eq_some_iff.1 hi).1
     have hlt' : (i + 1) * τ.size ≤ xs.length * τ.size := Nat.mul_le_mul_right _ hj
     rw [Nat.add_mul, Nat.one_mul] at hlt'
     rw [win_win (by omega)]
     have := hel i y hi
     rw [VRel_sh] at this; exact this
  obtain ⟨co, hcl, hold, hel⟩ := hold
  obtain ⟨nc, w', hnc, hrun, hheap⟩ := run_append_new (ty := ty) hok ha hroom hlen hold
  refine ⟨w', nc, _, hrun, hheap, fun key' β' hk' => ?_⟩
  have hS : ∀ b', S b' → S b' ∧ w'.heap[b']? = w.heap[b']? := fun b' hb' => ⟨hb', new_same hheap (hlt b' hb')⟩
  simp only [VRel, Fl.base]
  refine ⟨by simp [Pins, Fl.pins], _, nc, by rw [List.length_append], by rw [List.length_append]; exact hnc, .inr ⟨w.heap.size, 0, _, rfl, hk', OBlk.new hheap (.inl rfl), ?_, fun i y hi => ?_⟩⟩
  ·simp only [Array.size_append, List.size_toArray, again_size, hcl, hy.len]
   have : nc * τ.size = xs.length * τ.size + ys.length * τ.size + (nc - (xs.length + ys.length)) * τ.size := by
    rw [← Nat.add_mul, ← Nat.add_mul]; congr 1; omega
   omega
  ·rw [VRel_sh, Nat.zero_add]
   simp only [Array.toList_append]
   have wl : ∀ (A B : List Value) (p n : Nat), p + n ≤ A.length → win (A ++ B) p n = win A p n := fun A B p n h => by
    unfold win
    rw [List.drop_append_of_le_length (by omega), List.take_append_of_le_length (by simp; omega)]
   have wr : ∀ (A B : List Value) (p n : Nat), win (A ++ B) (A.length + p) n = win B p n := fun A B p n => by
    unfold win; rw [List.drop_append, List.drop_eq_nil_of_le (by omega)]; simp
   rcases nth_append hi with ⟨hlt', hi⟩ | ⟨hge, hi⟩
   ·have hlt2 : (i + 1) * τ.size ≤ xs.length * τ.size := Nat.mul_le_mul_right _ hlt'
    rw [Nat.add_mul, Nat.one_mul] at hlt2
    rw [wl _ _ _ _ (by omega)]
    exact Rd_mono hS (hel i y hi)
   ·have hj : i - xs.length < ys.length := by unfold nth at hi; exact (List.getElem?_eq_some_iff.1 hi).1
    have hlt2 : (i - xs.length + 1) * τ.size ≤ ys.length * τ.size := Nat.mul_le_mul_right _ hj
    rw [Nat.add_mul, Nat.one_mul] at hlt2
    have e2 : i * τ.size = co.length + (i - xs.length) * τ.size := by
     rw [hcl, ← Nat.add_mul]; congr 1; omega
    rw [e2, wr, wl _ _ _ _ (by rw [hy.len]; omega)]
    exact Rd_mono hS (hy.get _ y hi)
end
end Go.Rf

end
section
namespace Go.Rf
set_option linter.unusedSectionVars false
variable [T : Laid]
section
variable {P : Program} {H : Nat → Option (List Value)} {N : Nat} {g g' σ : View} {V V' : Nat → Option Value} {w w' : World} {S S' : Nat → Prop} {β β' : Key → Option Nat} {a : Act} {o : Oper}
variable {E : Env} {gv : View} {us : List Up}
theorem own_cells {key : Key} {τ : Ty} {ys : List τ.D} {e : Fl} {c : List Value} (hw : e.whole = true) (h : VRel S β H w key (.sl τ) (.own e) ys c) :
  ∃ ad cap cy, c = [.slice ad ys.length cap] ∧ ys.length ≤ cap ∧ cy.length = ys.length * τ.size ∧ (∀ v ∈ cy, v.oneCell' = true) ∧
   (∀ w', w'.heap = w.heap → (Builtin.firstCells τ.size ys.length (.slice ad ys.length cap)).run P w' = .ok cy.toArray w') ∧
   (∀ i y, nth ys i = some y → VRel S β H w (key ++ [i]) τ e y (win cy (i * τ.size) τ.size)) ∧
   ((cap = 0 ∧ ys = []) ∨ ∃ b o cs, ad = some ⟨b, o, none⟩ ∧ β key = some b ∧ OBlk (isU8 τ) w b cs ∧ o + cap * τ.size ≤ cs.size ∧ cy = win cs.toList o (ys.length * τ.size)) := by
 simp only [VRel, Fl.base] at h
 obtain ⟨_, ad, cap, rfl, hl, h⟩ := h
 rcases h with h | ⟨b, oo, cs, rfl, hk, hB, hz, h⟩
 ·have hy : ys = [] := List.length_eq_zero_iff.1 (by omega)
  subst hy
  refine ⟨ad, cap, [], rfl, hl, by simp, by simp, fun w' _ => ?_, fun i y hi => by simp [nth] at hi, .inl ⟨h, rfl⟩⟩
  cases ad with
  | none => simp [Builtin.firstCells]
  | some b => simp [Builtin.firstCells, loadCells_zero]
 ·have hle : oo + ys.length * τ.size ≤ cs.size := by
   have : ys.length * τ.size ≤ cap * τ.size := Nat.mul_le_mul_right _ hl
   omega
  have hel : ∀ i y, nth ys i = some y → VRel S β H w (key ++ [i]) τ e y (win (win cs.toList oo (ys.length * τ.size)) (i * τ.size) τ.size) := fun i y hi => by
   have hj : i < List.length ys := by unfold nth at hi; exact (List.getElem?_eq_some_iff.1 hi).1
   have hlt : (i + 1) * τ.size ≤ List.length ys * τ.size := Nat.mul_le_mul_right _ hj
   rw [Nat.add_mul, Nat.one_mul] at hlt
   rw [win_win (by omega)]
   exact h i y hi
  have hlen : (win cs.toList oo (ys.length * τ.size)).length = ys.length * τ.size := win_len (by simpa using hle)
  refine ⟨_, cap, win cs.toList oo (ys.length * τ.size), rfl, hl, hlen, (Elems.of (S := seenS S β) (w := w) hlen fun j v hv => VRel_seen hw (hel j v hv)).one, fun w' hw' => ?_, hel, .inr ⟨b, oo, cs, rfl, hk, hB, hz, rfl⟩⟩
  have hc := cellsAt_mem (o := oo) (n := ys.length * τ.size) hB.blk hle
  rw [← cellsAt_heap hw'] at hc
  simp only [Builtin.firstCells]
  exact run_loadCells' hc
def joinK (β : Key → Option Nat) (n m d b : Nat) : Key → Option Nat
 | [] => β []
 | [i] => if i = d then some b else if i = n ∨ i = n + 1 then none else β [i]
 | i :: j :: s => if i = d then (if j < m then β (n :: j :: s) else β ((n + 1) :: (j - m) :: s)) else if i = n ∨ i = n + 1 then none else β (i :: j :: s)
theorem joinK_cases {n m d b b' : Nat} {k : Key} (h : joinK β n m d b k = some b') :
  (k = [d] ∧ b' = b) ∨ (∃ j s, j < m ∧ k = d :: j :: s ∧ β (n :: j :: s) = some b') ∨ (∃ j s, k = d :: (m + j) :: s ∧ β ((n + 1) :: j :: s) = some b') ∨
   ((∀ s, k ≠ d :: s) ∧ (∀ s, k ≠ n :: s) ∧ (∀ s, k ≠ (n + 1) :: s) ∧ β k = some b') := by
 match k, h with
 | [], hh => exact .inr (.inr (.inr ⟨by simp, by simp, by simp, hh⟩))
 | [i], hh =>
  simp only [joinK] at hh
  split at hh
  ·rename_i e; subst e; exact .inl ⟨rfl, (Option.some.inj hh).symm⟩
  ·rename_i h1
   split at hh
   ·cases hh
   ·rename_i h2
    refine .inr (.inr (.inr ⟨?_, ?_, ?_, hh⟩)) <;> (intro s e; simp only [List.cons.injEq] at e; omega)
 | i :: j :: s, hh =>
  simp only [joinK] at hh
  split at hh
  ·rename_i e; subst e
   split at hh
   ·rename_i hj; exact .inr (.inl ⟨j, s, hj, rfl, hh⟩)
   ·rename_i hj; exact .inr (.inr (.inl ⟨j - m, s, by rw [show m + (j - m) = j by omega], hh⟩))
  ·rename_i h1
   split at hh
   ·cases hh
   ·rename_i h2
    refine .inr (.inr (.inr ⟨?_, ?_, ?_, hh⟩)) <;> (intro s e; simp only [List.cons.injEq] at e; omega)
theorem Sane.join {n m d b : Nat} (h : Sane w S β) (hsz : w.heap.size ≤ w'.heap.size) (hb : ∀ k, β k = some b → k = [n]) (hS : ¬ S b) (hlt : b < w'.heap.size) (hSS : ∀ b, S b → w'.heap[b]? = w.heap[b]?) : Sane w' S (joinK β n m d b) where
 inj k k' b' h1 h2 := by
  rcases joinK_cases h1 with ⟨rfl, rfl⟩ | ⟨j, s, hj, rfl, q1⟩ | ⟨j, s, rfl, q1⟩ | ⟨a1, a2, a3, q1⟩ <;>
   rcases joinK_cases h2 with ⟨rfl, e2⟩ | ⟨j', s', hj', rfl, q2⟩ | ⟨j', s', rfl, q2⟩ | ⟨c1, c2, c3, q2⟩
  ·rfl
  ·have := hb _ q2; simp at this
  ·have := hb _ q2; simp at this
  ·exact absurd (hb _ q2) (c2 _)
  ·subst e2; have := hb _ q1; simp at this
  ·have := h.inj _ _ _ q1 q2; simp only [List.cons.injEq] at this ⊢; exact ⟨trivial, this.2⟩
  ·have := h.inj _ _ _ q1 q2; simp only [List.cons.injEq] at this; omega
  ·exact absurd (h.inj _ _ _ q2 q1) (c2 _)
  ·subst e2; have := hb _ q1; simp at this
  ·have := h.inj _ _ _ q1 q2; simp only [List.cons.injEq] at this; omega
  ·have := h.inj _ _ _ q1 q2; simp only [List.cons.injEq] at this ⊢; exact ⟨trivial, by omega, this.2.2⟩
  ·exact absurd (h.inj _ _ _ q2 q1) (c3 _)
  ·subst e2; exact absurd (hb _ q1) (a2 _)
  ·exact absurd (h.inj _ _ _ q1 q2) (a2 _)
  ·exact absurd (h.inj _ _ _ q1 q2) (a3 _)
  ·exact h.inj _ _ _ q1 q2
 sep k b' h1 := by
  rcases joinK_cases h1 with ⟨rfl, rfl⟩ | ⟨j, s, hj, rfl, q1⟩ | ⟨j, s, rfl, q1⟩ | ⟨a1, a2, a3, q1⟩
  ·exact hS
  ·exact h.sep _ _ q1
  ·exact h.sep _ _ q1
  ·exact h.sep _ _ q1
 live k b' h1 := by
  rcases joinK_cases h1 with ⟨rfl, rfl⟩ | ⟨j, s, hj, rfl, q1⟩ | ⟨j, s, rfl, q1⟩ | ⟨a1, a2, a3, q1⟩
  ·exact hlt
  ·exact Nat.lt_of_lt_of_le (h.live _ _ q1) hsz
  ·exact Nat.lt_of_lt_of_le (h.live _ _ q1) hsz
  ·exact Nat.lt_of_lt_of_le (h.live _ _ q1) hsz
 liveS b' hb' := Nat.lt_of_lt_of_le (h.liveS b' hb') hsz
 tab := h.tabs fun b hb => ⟨hb, hSS b hb⟩
theorem Step.join {n m d b : Nat} (hb : (∃ k, β k = some b) ∨ w.heap.size ≤ b) (hsz : w.heap.size ≤ w'.heap.size) (hold : ∀ b', b' < w.heap.size → (∀ k, β k ≠ some b') → w'.heap[b']? = w.heap[b']?) (hout : SameOut w w') : Step w S β w' S (joinK β n m d b) where
 size := hsz
 old := hold
 new k b' h1 := by
  rcases joinK_cases h1 with ⟨rfl, rfl⟩ | ⟨j, s, hj, rfl, q1⟩ | ⟨j, s, rfl, q1⟩ | ⟨a1, a2, a3, q1⟩
  ·exact hb
  ·exact .inl ⟨_, q1⟩
  ·exact .inl ⟨_, q1⟩
  ·exact .inl ⟨_, q1⟩
 keepS _ h := h
 newS _ h := .inl h
 out := hout
theorem win_left (A B : List Value) (p n : Nat) (h : p + n ≤ A.length) : win (A ++ B) p n = win A p n := by
 unfold win
 rw [List.drop_append_of_le_length (by omega), List.take_append_of_le_length (by simp; omega)]
theorem win_right (A B : List Value) (p n : Nat) : win (A ++ B) (A.length + p) n = win B p n := by
 unfold win; rw [List.drop_append, List.drop_eq_nil_of_le (by omega)]; simp
theorem VRel_none' {k : Key} {τ : Ty} {ad : Option Addr} {e : Fl} : VRel S β H w k (.sl τ) (.own e) ([] : List τ.D) [.slice ad 0 0] := by
 simp only [VRel, Fl.base]
 exact ⟨by simp [Pins, Fl.pins], ad, 0, rfl, by simp, .inl rfl⟩
theorem deep_core {t t' ty e0 : TypeId} {τ : Ty} {z : Value} {vy : Value} {xs ys : List τ.D} {cx cy : List Value} {e : Fl} {n d : Nat} (hw : e.whole = true) (hok : SlOK E t e0 τ z) (hs : Sane w S β)
  (hx : VRel S β H w [n] (.sl τ) (.own e) xs cx) (hyl : cy.length = ys.length * τ.size) (hy1 : ∀ v ∈ cy, v.oneCell' = true) (hye : ∀ i y, nth ys i = some y → VRel S β H w ([n + 1] ++ [i]) τ e y (win cy (i * τ.size) τ.size))
  (ha : Added E.P w t' τ.size z.cells vy ys.length cy) (hlen : xs.length + ys.length ≤ 1099511627776) :
  ∃ v w' β', (Builtin.append_ #[t, t'] ty #[valOf (.sl τ) cx, vy]).run E.P w = .ok v w' ∧ Sane w' S β' ∧ Step w S β w' S β' ∧ (∀ b, S b → w'.heap[b]? = w.heap[b]?) ∧
   (∀ j s b, j ≠ d → j ≠ n → j ≠ n + 1 → β (j :: s) = some b → β' (j :: s) = some b ∧ w'.heap[b]? = w.heap[b]?) ∧ ∃ cr, v = valOf (.sl τ) cr ∧ VRel S β' H w' [d] (.sl τ) (.own e) (xs ++ ys : List τ.D) cr := by
 obtain ⟨ad, cap, co, rfl, hlc, hcl, hc1, hcf, hce, hblk⟩ := own_cells (P := E.P) hw hx
 have hv : valOf (.sl τ) [.slice ad xs.length cap] = .slice ad xs.length cap := rfl
 rw [hv]
 by_cases hroom : xs.length + ys.length ≤ cap
 ·rcases hblk with ⟨hb, hxx⟩ | ⟨b, oo, cs, rfl, hk, hob, hz, hco⟩
  ·have hyy : ys = [] := List.length_eq_zero_iff.1 (by omega)
   subst hxx; subst hyy
   have hcy : cy = [] := List.length_eq_zero_iff.1 (by simpa using hyl)
   subst hcy
   have hrun := run_append_in (base := ad) (ty := ty) (w' := w) hok ha hroom (fun a _ => by simp [storeCells]) (fun _ => rfl)
   have hsr := hs.rekey [n] [d]
   refine ⟨_, w, _, hrun, (hs.rekey [n] [d]).rekey [n + 1] [n], ((Step.rekey [n] [d]).trans (Step.rekey [n + 1] [n])), fun _ _ => rfl, fun j s b h1 h2 h3 hb => ⟨?_, rfl⟩, [.slice ad 0 cap], rfl, ?_⟩
   ·rw [rekey_else (strip_head h2) (strip_head h3), rekey_else (strip_head h1) (strip_head h2)]; exact hb
   ·rw [hb]; exact VRel_none'
  ·obtain ⟨el, fz, hbl, hf⟩ := hob
   have hle : oo + xs.length * τ.size + cy.length ≤ cs.size := by
    rw [hyl]
    have : xs.length * τ.size + ys.length * τ.size ≤ cap * τ.size := by rw [← Nat.add_mul]; exact Nat.mul_le_mul_right _ hroom
    omega
   obtain ⟨w', cs', k1, k2, k3, k4, k5, k6⟩ := run_storeCells' (P := E.P) (vs := cy) (i := 0) (o := oo + xs.length * τ.size) hbl (fun j hj => ⟨by omega, hf.1 _ (by omega)⟩) hy1
   rw [Nat.add_zero] at k3
   have hsz : cs'.size = cs.size := by
    have := congrArg List.length k3
    rw [splice_len (by simpa using hle)] at this
    simpa using this
   have hSne : ∀ b', S b' → b' ≠ b := fun b' hb' e => hs.sep [n] b hk (e ▸ hb')
   have hown : ∀ k b', β k = some b' → k ≠ [n] → w'.heap[b']? = w.heap[b']? := fun k b' hb' hne => k4 b' (fun e => hne (hs.inj _ _ _ hb' (e ▸ hk)))
   have hrun := run_append_in (base := some ⟨b, oo, none⟩) (ty := ty) (w' := w') hok ha hroom (fun a ha' => by
    simp only [Option.some.injEq] at ha'; subst ha'
    rw [addr_add]; exact k1) (fun h => by cases h)
   refine ⟨_, w', joinK β n xs.length d b, hrun, hs.join (Nat.le_of_eq k5.symm) (fun k hb => hs.inj _ _ _ hb hk) (hs.sep _ _ hk) (by rw [k5]; exact hs.live _ _ hk) (fun b' hb' => k4 b' (hSne b' hb')), Step.join (.inl ⟨_, hk⟩) (Nat.le_of_eq k5.symm) (fun b' _ hb' => k4 b' (fun e => hb' [n] (e ▸ hk))) k6,
    fun b' hb' => k4 b' (hSne b' hb'), fun j s b' h1 h2 h3 hb => ⟨?_, hown _ _ hb (by simp [h2])⟩, [.slice (some ⟨b, oo, none⟩) (xs.length + ys.length) cap], rfl, ?_⟩
   ·cases s with
    | nil => simp only [joinK]; rw [if_neg h1, if_neg (by omega)]; exact hb
    | cons j' s => simp only [joinK]; rw [if_neg h1, if_neg (by omega)]; exact hb
   ·simp only [VRel, Fl.base]
    refine ⟨by simp [Pins, Fl.pins], _, cap, by rw [List.length_append], by rw [List.length_append]; exact hroom, .inr ⟨b, oo, cs', rfl, by simp [joinK], ⟨el, fz, k2, by rw [hsz]; exact hf⟩, by rw [hsz]; exact hz, fun i y hi => ?_⟩⟩
    rw [k3]
    rcases nth_append hi with ⟨hlt', hi⟩ | ⟨hge, hi⟩
    ·have hlt2 : (i + 1) * τ.size ≤ xs.length * τ.size := Nat.mul_le_mul_right _ hlt'
     rw [Nat.add_mul, Nat.one_mul] at hlt2
     rw [win_splice_out (by simpa using hle) (.inl (by omega)), ← win_win (o := oo) (n := xs.length * τ.size) (by omega), ← hco]
     refine VRel_trans (fun b' hb' => ⟨hb', k4 b' (hSne b' hb')⟩) (fun s b' hb' => ⟨?_, hown _ _ hb' (by simp)⟩) (hce i y hi)
     show joinK β n xs.length d b (d :: i :: s) = some b'
     simp only [joinK, if_true, if_pos hlt']; exact hb'
    ·have hj : i - xs.length < ys.length := by unfold nth at hi; exact (List.getElem?_eq_some_iff.1 hi).1
     have hlt2 : (i - xs.length + 1) * τ.size ≤ ys.length * τ.size := Nat.mul_le_mul_right _ hj
     rw [Nat.add_mul, Nat.one_mul] at hlt2
     have e2 : oo + i * τ.size = oo + xs.length * τ.size + (i - xs.length) * τ.size := by
      have : i * τ.size = xs.length * τ.size + (i - xs.length) * τ.size := by rw [← Nat.add_mul]; congr 1; omega
      omega
     have e3 : win (splice cs.toList (oo + xs.length * τ.size) cy) (oo + i * τ.size) τ.size = win cy ((i - xs.length) * τ.size) τ.size := by
      rw [e2, ← win_win (n := cy.length) (by rw [hyl]; omega), win_splice_in (by simpa using hle)]
     rw [e3]
     refine VRel_trans (fun b' hb' => ⟨hb', k4 b' (hSne b' hb')⟩) (fun s b' hb' => ⟨?_, hown _ _ hb' (by simp)⟩) (hye _ y hi)
     show joinK β n xs.length d b (d :: i :: s) = some b'
     simp only [joinK, if_true, if_neg (Nat.not_lt.2 hge)]; exact hb'
 ·obtain ⟨nc, w', hnc, hrun, hheap⟩ := run_append_new (ty := ty) hok ha hroom hlen hcf
  have hl : ∀ k b', β k = some b' → w'.heap[b']? = w.heap[b']? := fun k b' hb' => new_same hheap (hs.live _ _ hb')
  have hS : ∀ b', S b' → S b' ∧ w'.heap[b']? = w.heap[b']? := fun b' hb' => ⟨hb', new_same hheap (hs.liveS _ hb')⟩
  have hsz := new_size hheap
  refine ⟨_, w', joinK β n xs.length d w.heap.size, hrun, hs.join (by omega) (fun k hb => absurd (hs.live _ _ hb) (Nat.lt_irrefl _)) (fun hb => absurd (hs.liveS _ hb) (Nat.lt_irrefl _)) (by omega) (fun b' hb' => (hS b' hb').2), Step.join (.inr (Nat.le_refl _)) (by omega) (fun b' hb' _ => new_same hheap hb') hheap.out,
   fun b' hb' => (hS b' hb').2, fun j s b' h1 h2 h3 hb => ⟨?_, hl _ _ hb⟩, [.slice (some ⟨w.heap.size, 0, none⟩) (xs.length + ys.length) nc], rfl, ?_⟩
  ·cases s with
   | nil => simp only [joinK]; rw [if_neg h1, if_neg (by omega)]; exact hb
   | cons j' s => simp only [joinK]; rw [if_neg h1, if_neg (by omega)]; exact hb
  ·simp only [VRel, Fl.base]
   refine ⟨by simp [Pins, Fl.pins], _, nc, by rw [List.length_append], by rw [List.length_append]; exact hnc, .inr ⟨w.heap.size, 0, _, rfl, by simp [joinK], OBlk.new hheap (.inl rfl), ?_, fun i y hi => ?_⟩⟩
   ·simp only [Array.size_append, List.size_toArray, again_size, hcl, hyl]
    have : nc * τ.size = xs.length * τ.size + ys.length * τ.size + (nc - (xs.length + ys.length)) * τ.size := by
     rw [← Nat.add_mul, ← Nat.add_mul]; congr 1; omega
    omega
   ·rw [Nat.zero_add]
    simp only [Array.toList_append]
    rcases nth_append hi with ⟨hlt', hi⟩ | ⟨hge, hi⟩
    ·have hlt2 : (i + 1) * τ.size ≤ xs.length * τ.size := Nat.mul_le_mul_right _ hlt'
     rw [Nat.add_mul, Nat.one_mul] at hlt2
     rw [win_left _ _ _ _ (by omega)]
     refine VRel_trans hS (fun s b' hb' => ⟨?_, hl _ _ hb'⟩) (hce i y hi)
     show joinK β n xs.length d w.heap.size (d :: i :: s) = some b'
     simp only [joinK, if_true, if_pos hlt']; exact hb'
    ·have hj : i - xs.length < ys.length := by unfold nth at hi; exact (List.getElem?_eq_some_iff.1 hi).1
     have hlt2 : (i - xs.length + 1) * τ.size ≤ ys.length * τ.size := Nat.mul_le_mul_right _ hj
     rw [Nat.add_mul, Nat.one_mul] at hlt2
     have e2 : i * τ.size = co.length + (i - xs.length) * τ.size := by
      rw [hcl, ← Nat.add_mul]; congr 1; omega
     rw [e2, win_right, win_left _ _ _ _ (by rw [hyl]; omega)]
     refine VRel_trans hS (fun s b' hb' => ⟨?_, hl _ _ hb'⟩) (hye _ y hi)
     show joinK β n xs.length d w.heap.size (d :: i :: s) = some b'
     simp only [joinK, if_true, if_neg (Nat.not_lt.2 hge)]; exact hb'
end
end Go.Rf

end
section
namespace Go.Rf
set_option linter.unusedSectionVars false
variable [T : Laid]
section
variable {P : Program} {H : Nat → Option (List Value)} {N : Nat} {g g' σ : View} {V V' : Nat → Option Value} {w w' : World} {S S' : Nat → Prop} {β β' : Key → Option Nat} {a : Act} {o : Oper}
variable {E : Env} {gv : View} {us : List Up}
theorem pend_put {d r c s u : Nat} {p : List PS} {v : SV} {val : Value} {e : Dat} (h0 : r < N) (h1 : c ≤ (g r).c) (h2 : s ≤ (g r).s) (h3 : u ≤ (g r).u) (h : r ≠ d → PendB H (g.up (.put d v)) w S β d r p e (some val)) :
  SVRel H N (g.up (.put d v)) (upd V d val) w S β d (.pend r p c s u e) := by
 refine ⟨h0, ?_⟩
 by_cases hr : r = d
 ·subst hr
  refine ⟨by rw [put_self]; simp; omega, by rw [put_self]; simp; omega, by rw [put_self]; simp; omega, fun ok => ?_⟩
  have := (okU_iff.1 ok).2
  rw [put_self] at this; simp at this; omega
 ·refine ⟨by rw [put_at hr]; exact h1, by rw [put_at hr]; exact h2, by rw [put_at hr]; exact h3, fun _ => ?_⟩
  have : (upd V d val) d = some val := by simp [upd]
  rw [this]; exact h hr
theorem exec_append {c : Call} {x y : Operand} {t t' : TypeId} {val : Value} (ho : o.op = .call c) (hcal : c.callee = .builtin .append) (hargs : c.args = #[x, y]) (hts : c.argTypes = #[t, t'])
  (hr : (Builtin.append_ #[t, t'] o.type #[a.eval x, a.eval y]).run P w = .ok val w') : (execOp a.eval o).run P w = .ok (.value val) w' :=
 exec_builtinV ho hcal (s := Builtin.append_ #[t, t'] o.type #[a.eval x, a.eval y]) (by rw [hargs, hts, show Array.map a.eval #[x, y] = #[a.eval x, a.eval y] by simp]; rfl) hr
theorem evl_fin {x : Operand} {n : Nat} {v u : Value} (h : evl (upd V n u) x = some v) (hx : ∀ s, x = .tmp s → s ≠ n) : evl V x = some v := by
 cases x with
 | tmp s => simp only [evl, upd] at h ⊢; rw [if_neg (hx s rfl)] at h; exact h
 | _ => exact h
theorem append_new {d : Nat} {t : Ty} {x : t.D} {f : Fl} {val : Value} {ob : Obj} {c : List Value} (h : Rel H N g V w S β) (hD : DeadFrom N g) (hd : d < N) (hw : Pushed w w' ob) (hv : VRel S (setK β [d] w.heap.size) H w' [d] t f x c) (hval : val = valOf t c) :
  Rel H N (g.up (.put d (.dat ⟨t, x, f⟩))) (upd V d val) w' S (setK β [d] w.heap.size) :=
 h.finish (fun _ _ => rfl) hD (fun _ _ => rfl) hd (h.sane.new hw [d]) (fun b hb => ⟨hb, new_same hw (h.sane.liveS b hb)⟩)
  (fun j s b hj _ hb => ⟨by unfold setK; rw [if_neg (by simp [hj])]; exact hb, new_same hw (h.sane.live _ b hb)⟩) ⟨c, hv, by simp [upd, hval]⟩
theorem VRel_none {k : Key} {τ : Ty} {ad : Option Addr} {e : Fl} {xs : List τ.D} (h : xs = []) : VRel S β H w k (.sl τ) (.own e) xs [.slice ad xs.length 0] := by
 subst h
 simp only [VRel, Fl.base]
 exact ⟨by simp [Pins, Fl.pins], ad, 0, rfl, by simp, .inl rfl⟩
theorem appDeep_sound {t t' e0 : TypeId} {x y : Operand} {c : Call} {τ : Ty} {z : Value} {xs ys : List τ.D} {e : Fl} {us1 : List Up} (hc : Ctx E.P H S β a w o g) (hs : Sub gv g) (ho : o.op = .call c) (hcal : c.callee = .builtin .append) (hargs : c.args = #[x, y]) (hts : c.argTypes = #[t, t'])
  (hok : SlOK E t e0 τ z) (hq : appDeepQ gv τ (E.ty t') x y = some ((xs, ys), e, us1)) (hlen : xs.length + ys.length ≤ 1099511627776)
  (hk : outp o us1 (.dat ⟨.sl τ, (xs ++ ys : List τ.D), .own e⟩) some = some us) : OpSound E.P H S β a w o (g.ups us) := by
 unfold appDeepQ at hq
 split at hq
 ·rename_i τ' ht
  obtain ⟨e', he', _⟩ := tyN_sl ht
  split at hq
  ·rename_i i1 τ1 xs1 e1 i2 τ2 ys1 e2 us2 htp
   split at hq
   ·rename_i hcond
    simp only [Bool.and_eq_true, decide_eq_true_eq] at hcond
    obtain ⟨hee, _⟩ := hcond
    subst hee
    obtain ⟨xs2, hx2, hq⟩ := Option.bind_eq_some_iff.1 hq
    obtain ⟨ys2, hy2, hq⟩ := Option.map_eq_some_iff.1 hq
    simp only [Prod.mk.injEq] at hq
    obtain ⟨⟨rfl, rfl⟩, rfl, rfl⟩ := hq
    obtain ⟨hex, hx2⟩ := castD_some hx2
    cases hex
    have hx2 : xs = xs1 := hx2
    subst hx2
    obtain ⟨hey, hy2⟩ := castD_some hy2
    cases hey
    have hy2 : ys = ys1 := hy2
    subst hy2
    obtain ⟨dd, hdst, rfl⟩ := outp_some hk
    have hd := opIn_dst hc.opIn hdst
    obtain ⟨S1, β1, g1, V1, cs, k1, k2, k3, k4, k5, k6⟩ := parts_taken (ps := #[(0, x), (1, y)]) hc hs htp (by
     intro q hq
     rw [ho]
     simp only [List.mem_cons, List.not_mem_nil, or_false] at hq
     rcases hq with rfl | rfl <;> simp [Op.operands, Call.operands, hargs])
    obtain ⟨k31, k32⟩ := k3
    match cs, k31 with
    | [cx, cy], _ =>
     obtain ⟨m1, m2, m3, m4⟩ := k32 0 _ cx rfl rfl
     obtain ⟨n1, n2, n3, n4⟩ := k32 1 _ cy rfl rfl
     rw [Nat.add_zero] at m1 m2
     obtain ⟨cx', hvx, hVx⟩ := k1.dat m1
     obtain ⟨cy', hvy, hVy⟩ := k1.dat n1
     have ex : cx' = cx := valOf_inj (Option.some.inj (hVx.symm.trans m2)) (VRel_len hvx) m3
     have ey : cy' = cy := valOf_inj (Option.some.inj (hVy.symm.trans n2)) (VRel_len hvy) n3
     subst ex; subst ey
     simp only [valsOf, List.zip_cons_cons, List.zip_nil_right, List.map_cons, List.map_nil, Array.toList_map, List.cons.injEq, Prod.mk.injEq, and_true] at k6
     obtain ⟨⟨_, exv⟩, _, eyv⟩ := k6
     have hwh : e1.whole = true := m4
     obtain ⟨ady, capy, cyy, q1, q2, q3, q4, q5, q6, _⟩ := own_cells (P := E.P) hwh hvy
     subst q1
     have hadd : Added E.P w t' τ.size z.cells (valOf (.sl τ) [.slice ady ys.length capy]) ys.length cyy := .inl ⟨_, he', by simp, fun w' => by simp [valOf, Ty.agg, Builtin.lenOf], fun w' hw' => q5 w' hw'⟩
     obtain ⟨v, w', β', r1, r2, r3, r4, r5, cr, r6, r7⟩ := deep_core (ty := o.type) (d := dd) hwh hok k1.sane hvx q3 q4 q6 hadd hlen
     intro K Q hK
     refine wp_value (exec_append ho hcal hargs hts (by rw [exv, eyv]; exact r1)) (hK _ _ S1 β' put_size put_defers ?_ (k2.trans r3))
     rw [hdst, vals_put hd, ups_append]
     refine k4.finish (fun _ _ => rfl) k5 (fun _ _ => rfl) hd r2 (fun b hb => ⟨hb, r4 b hb⟩) (fun j s b hj ha hb => ?_) ⟨cr, r7, by simp [upd, r6]⟩
     have := k5.lt ha
     exact r5 j s b hj (by omega) (by omega) hb
    | [], h | [_], h => simp at h
    | _ :: _ :: _ :: _, h => simp at h
   ·cases hq
  ·cases hq
 ·cases hq
theorem appendK_sound {t t' : TypeId} {x y : Operand} {c : Call} (hc : Ctx E.P H S β a w o g) (hs : Sub gv g) (ho : o.op = .call c) (hcal : c.callee = .builtin .append) (hargs : c.args = #[x, y]) (hts : c.argTypes = #[t, t'])
  (hk : appendK gv o (E.sl t) (E.ty t') x y some = some us) : OpSound E.P H S β a w o (g.ups us) := by
 unfold appendK at hk
 split at hk
 ·rename_i τ ht
  obtain ⟨τ2, e, z, heq, hok⟩ := sl_inv ht
  simp only [Ty.sl.injEq] at heq
  subst heq
  split at hk
  ·rename_i xs ys e0 us1 hq
   simp only [Bool.cond_eq_ite] at hk
   split at hk
   ·rename_i hlen
    exact appDeep_sound hc hs ho hcal hargs hts hok hq (lenOK_le hlen) hk
   ·cases hk
  simp only [Bool.cond_eq_ite] at hk
  split at hk
  case isFalse => cases hk
  rename_i hcondA
  split at hk
  case isFalse => cases hk
  rename_i hcondD
  split at hk
  ·rename_i ys us1 hadds
   have hadds := addsOf_of hcondA hcondD hadds
   split at hk
   ·rename_i xs vs q hfirst
    try simp only [Bool.cond_eq_ite] at hk
    split at hk
    ·rename_i hlen
     have hlen := lenOK_le hlen
     obtain ⟨S1, β1, cy, vy, hrel, hst, hsub, halive, hel, hvy, hadd⟩ := addsOf_sound hc.rel hs hok.cells hok.size hadds
     have hD0 : DeadFrom a.tmps.size (g.ups us1) := hc.dead.ups fun u hu => hc.dead.lt (halive u hu)
     have eyv := evl_eval hvy
     unfold appFirst at hfirst
     split at hfirst
     ·
      rename_i hx
      simp only [Option.some.injEq, Prod.mk.injEq] at hfirst
      obtain ⟨rfl, rfl, rfl⟩ := hfirst
      simp only [List.append_nil, List.nil_append] at hk
      obtain ⟨dd, hdst, rfl⟩ := outp_some hk
      have hd := opIn_dst hc.opIn hdst
      have hxv : a.eval x = .slice none 0 0 := by
       rcases opnd_nils (hsub.sv hx (by simp)) with ⟨s, rfl, h'⟩ | rfl
       ·have := hrel.slots s
        rw [h'] at this; exact this.elim
       ·rfl
      have hcore := append_core (ty := o.type) (ad := none) (xs := ([] : List τ.D)) (key := [dd]) (β := β1) (H := H) hok (VRel_none rfl) hel hadd (by simpa using hlen) (fun b hb => hrel.sane.sep _ _ hb) hrel.sane.liveS
      intro K Q hK
      rcases hcore with ⟨w', hrun, hres⟩ | ⟨w', nc, ob, hrun, hheap, hres⟩
      ·rcases hres with ⟨rfl, _, _, hyy⟩ | ⟨b₀, oo, hnone, _⟩
       ·subst hyy
        refine wp_value (exec_append ho hcal hargs hts (by rw [hxv, eyv]; exact hrun)) (hK _ _ S1 β1 put_size put_defers ?_ hst)
        rw [hdst, vals_put hd, ups_append]
        exact hrel.finish (fun _ _ => rfl) hD0 (fun _ _ => rfl) hd hrel.sane (fun b hb => ⟨hb, rfl⟩) (fun _ _ _ _ _ hb => ⟨hb, rfl⟩) ⟨[.slice none 0 0], VRel_none (ad := none) (xs := ([] : List τ.D)) rfl, by simp [upd, valOf, Ty.agg]⟩
       ·cases hnone
      ·refine wp_value (exec_append ho hcal hargs hts (by rw [hxv, eyv]; exact hrun)) (hK _ _ S1 _ put_size put_defers ?_ (hst.trans (Step.newB hheap [dd])))
       rw [hdst, vals_put hd, ups_append]
       exact append_new hrel hD0 hd hheap (hres [dd] _ (by simp [setK])) rfl
     ·
      rename_i r p c0 s0 u0 d0 hx
      split at hfirst
      ·rename_i τ' xs0 vs0 htk
       obtain ⟨xs1, hcast, hpair⟩ := Option.map_eq_some_iff.1 hfirst
       simp only [Prod.mk.injEq] at hpair
       obtain ⟨rfl, rfl, rfl⟩ := hpair
       obtain ⟨het, hex⟩ := castD_some hcast
       cases het
       have hex : xs1 = xs0 := hex
       subst hex
       simp only at hk
       obtain ⟨dd, hdst, rfl⟩ := outp_some hk
       have hd := opIn_dst hc.opIn hdst
       rw [← hx] at htk
       obtain ⟨htk', _⟩ := take_mono hsub htk
       have hal2 := take_alive htk'
       have hD1 : DeadFrom a.tmps.size ((g.ups us1).ups vs0) := hD0.ups fun u hu => hD0.lt (hal2 u hu)
       obtain ⟨S2, β2, cc, k1, k2, k3, k4⟩ := take_sound hrel htk' (n := a.tmps.size) (hD0 _ (Nat.le_refl _)) (Nat.le_refl _)
       obtain ⟨cx, hvr, hVn⟩ := k1.dat upN_self
       have hcc : cx = cc := by
        simp only [upd, if_true] at hVn
        exact (valOf_inj (Option.some.inj hVn) k4 (VRel_len hvr)).symm
       subst hcc
       have hfin : Rel H a.tmps.size ((g.ups us1).ups vs0) (vals a) w S2 β2 := k1.fin (fun i hi => (upN_at (by omega)).symm) hD1 (fun i hi => by simp only [upd]; rw [if_neg (by omega)])
       have hvr0 := hvr
       simp only [VRel, Fl.base] at hvr0
       obtain ⟨_, ad, cap, rfl, _, _⟩ := hvr0
       have exv : a.eval x = .slice ad (List.length xs1) cap := evl_eval k3
       have hcore := append_core (ty := o.type) (xs := xs1) (key := [a.tmps.size]) (β := β2) (H := H) hok hvr (hel.len |> fun _ => (⟨hel.len, hel.one, fun j v h => Rd_mono (fun b hb => ⟨k2.keepS b hb, rfl⟩) (hel.get j v h)⟩ : Elems S2 w τ ys cy)) hadd hlen (fun b hb => k1.sane.sep _ _ hb) k1.sane.liveS
       intro K Q hK
       rcases hcore with ⟨w', hrun, hres⟩ | ⟨w', nc, ob, hrun, hheap, hres⟩
       ·rcases hres with ⟨rfl, hcap, hxx, hyy⟩ | ⟨b₀, oo, had, hb0, hchg, hsz, hnew⟩
        ·refine wp_value (exec_append ho hcal hargs hts (by rw [exv, eyv]; exact hrun)) (hK _ _ S2 β2 put_size put_defers ?_ (hst.trans k2))
         rw [hdst, vals_put hd, ups_append, ups_append]
         refine hfin.finish (fun _ _ => rfl) hD1 (fun _ _ => rfl) hd hfin.sane (fun b hb => ⟨hb, rfl⟩) (fun _ _ _ _ _ hb => ⟨hb, rfl⟩) ⟨[.slice ad (List.length xs1 + ys.length) cap], ?_, by simp [upd, valOf, Ty.agg]⟩
         have hn : xs1 ++ ys = [] := by rw [hxx, hyy]; rfl
         have := VRel_none (S := S2) (β := β2) (H := H) (w := w') (k := [dd]) (ad := ad) (e := .sh) hn
         rw [List.length_append] at this
         rw [hcap]; exact this
        ·refine wp_value (exec_append ho hcal hargs hts (by rw [exv, eyv]; exact hrun)) (hK _ _ S2 (rekey β2 [a.tmps.size] [dd]) put_size put_defers ?_ (((hst.trans k2).trans (Step.store hb0 hchg hsz)).trans ((Step.rekey [a.tmps.size] [dd]).at hsz |> fun h => ⟨h.size, h.old, h.new, h.keepS, h.newS, h.out⟩)))
         rw [hdst, vals_put hd, ups_append, ups_append]
         have hne : ∀ b, S2 b → b ≠ b₀ := fun b hb e => k1.sane.sep _ _ hb0 (e ▸ hb)
         have hsr := k1.sane.rekey [a.tmps.size] [dd]
         refine hfin.finish (fun _ _ => rfl) hD1 (fun _ _ => rfl) hd ⟨hsr.inj, hsr.sep, fun k b hk => by rw [hsz]; exact hsr.live k b hk, fun b hk => by rw [hsz]; exact hsr.liveS b hk, hsr.tabs fun b hb => ⟨hb, hchg.other b (hne b hb)⟩⟩ (fun b hb => ⟨hb, hchg.other b (hne b hb)⟩)
          (fun j s b hj ha hb => ⟨?_, hchg.other b (fun e => ?_)⟩) ⟨_, VRel_rekey hnew, by simp [upd, valOf, Ty.agg]⟩
         ·have := hD1.lt ha
          rw [rekey_else (strip_head hj) (strip_head (by omega))]; exact hb
         ·subst e
          have := k1.sane.inj _ _ _ hb hb0
          have hjN := hD1.lt ha
          simp only [List.cons.injEq] at this
          omega
       ·refine wp_value (exec_append ho hcal hargs hts (by rw [exv, eyv]; exact hrun)) (hK _ _ S2 _ put_size put_defers ?_ ((hst.trans k2).trans (Step.newB hheap [dd])))
        rw [hdst, vals_put hd, ups_append, ups_append]
        exact append_new hfin hD1 hd hheap (hres [dd] _ (by simp [setK])) rfl
      ·cases hfirst
     ·
      split at hfirst
      ·rename_i q0 hq
       split at hfirst
       ·rename_i τ' xs0 hat
        obtain ⟨xs1, hcast, hpair⟩ := Option.map_eq_some_iff.1 hfirst
        simp only [Prod.mk.injEq] at hpair
        obtain ⟨rfl, rfl, rfl⟩ := hpair
        obtain ⟨het, hex⟩ := castD_some hcast
        cases het
        have hex : xs1 = xs0 := hex
        subst hex
        simp only at hk
        obtain ⟨dd, hdst, rfl⟩ := outp_some hk
        have hd := opIn_dst hc.opIn hdst
        obtain ⟨hq', hat', hr⟩ := placeOf_mono hsub hq hat
        obtain ⟨e0, cr, L, cc, he0, hg0, hb0, hV0, hl0, hvr, hw0, hcc0, hvp, hxv⟩ := placeOf_sound hrel hq' hat' (by simp [Fl.base])
        have hvp0 := hvp
        simp only [VRel, Fl.base] at hvp0
        obtain ⟨_, ad, cap, rfl, hlc, hvp1⟩ := hvp0
        have exv : a.eval x = .slice ad (List.length xs1) cap := evl_eval hxv
        have hgv : (gv.ups us1) q0.1 = (g.ups us1) q0.1 := hr.symm
        have hq0N := hD0.root he0
        have hcore := append_core (ty := o.type) (xs := xs1) (key := q0.1 :: keyP q0.2) (β := β1) (H := H) hok hvp hel hadd hlen (fun b hb => hrel.sane.sep _ _ hb) hrel.sane.liveS
        have hups : (g.ups (us1 ++ [Up.pub q0.1 ((gv.ups us1) q0.1).sv] ++ [Up.put dd (.pend q0.1 q0.2 ((gv.ups us1) q0.1).c ((gv.ups us1) q0.1).s (((gv.ups us1) q0.1).u + 1) ⟨.sl τ, (xs1 ++ ys : List τ.D), .own .sh⟩)])) =
          ((g.ups us1).up (.pub q0.1 (.dat e0))).up (.put dd (.pend q0.1 q0.2 ((g.ups us1) q0.1).c ((g.ups us1) q0.1).s (((g.ups us1) q0.1).u + 1) ⟨.sl τ, (xs1 ++ ys : List τ.D), .own .sh⟩)) := by
         rw [ups_append, ups_append, hgv, he0]; rfl
        rw [hups]
        have g1q : ((g.ups us1).up (.pub q0.1 (.dat e0))) q0.1 = ⟨.dat e0, ((g.ups us1) q0.1).c, ((g.ups us1) q0.1).s, ((g.ups us1) q0.1).u + 1⟩ := up_eq (u := .pub q0.1 (.dat e0))
        have hD1 : DeadFrom a.tmps.size ((g.ups us1).up (.pub q0.1 (.dat e0))) := hD0.up hq0N
        have fin : ∀ {w' : World} {S2 : Nat → Prop} {β2 : Key → Option Nat} {val : Value} {cx : List Value}, Rel H a.tmps.size ((g.ups us1).up (.pub q0.1 (.dat e0))) (vals a) w' S2 β2 → ∀ {w2 : World} {β3 : Key → Option Nat}, Sane w2 S2 β3 → (∀ b, S2 b → w2.heap[b]? = w'.heap[b]?) →
          (∀ j s b, j ≠ dd → β2 (j :: s) = some b → β3 (j :: s) = some b ∧ w2.heap[b]? = w'.heap[b]?) → val = valOf (.sl τ) cx →
          (q0.1 ≠ dd → ∃ β4, (β4 = β3 ∨ ∃ b, β3 [dd] = some b ∧ β4 = repl β3 (q0.1 :: keyP q0.2) dd b) ∧ VRel S2 β4 H w2 (q0.1 :: keyP q0.2) (.sl τ) (.own .sh) (xs1 ++ ys : List τ.D) cx) →
          Rel H a.tmps.size (((g.ups us1).up (.pub q0.1 (.dat e0))).up (.put dd (.pend q0.1 q0.2 ((g.ups us1) q0.1).c ((g.ups us1) q0.1).s (((g.ups us1) q0.1).u + 1) ⟨.sl τ, (xs1 ++ ys : List τ.D), .own .sh⟩))) (upd (vals a) dd val) w2 S2 β3 := by
         intro w' S2 β2 val cx hR w2 β3 hs2 hS2 hβ2 hval hex
         refine hR.finish (fun _ _ => rfl) hD1 (fun _ _ => rfl) hd hs2 (fun b hb => ⟨hb, hS2 b hb⟩) (fun j s b hj _ hb => hβ2 j s b hj hb) ?_
         refine pend_put hq0N (by rw [g1q]; exact Nat.le_refl _) (by rw [g1q]; exact Nat.le_refl _) (by rw [g1q]; exact Nat.le_refl _) fun hne dr hdr => ?_
         rw [put_at hne, g1q] at hdr
         simp only [SV.dat.injEq] at hdr
         subst hdr
         obtain ⟨β4, h1, h2⟩ := hex hne
         exact ⟨⟨_, hg0, by simp [Fl.base], hb0⟩, β4, cx, h1, h2, by rw [hval]⟩
        intro K Q hK
        rcases hcore with ⟨w', hrun, hres⟩ | ⟨w', nc, ob, hrun, hheap, hres⟩
        ·rcases hres with ⟨rfl, hcap, hxx, hyy⟩ | ⟨b₀, oo, had, hkb, hchg, hsz, hnew⟩
         ·refine wp_value (exec_append ho hcal hargs hts (by rw [exv, eyv]; exact hrun)) (hK _ _ S1 β1 put_size put_defers ?_ hst)
          rw [hdst, vals_put hd]
          refine fin (cx := [.slice ad (List.length xs1 + ys.length) cap]) (hrel.touch he0) hrel.sane (fun _ _ => rfl) (fun j s b _ hb => ⟨hb, rfl⟩) rfl (fun _ => ⟨β1, .inl rfl, ?_⟩)
          have hn : xs1 ++ ys = [] := by rw [hxx, hyy]; rfl
          have := VRel_none (S := S1) (β := β1) (H := H) (w := w') (k := q0.1 :: keyP q0.2) (ad := ad) (e := .sh) hn
          rw [List.length_append] at this
          rw [hcap]; exact this
         ·subst had
          have hbeh : Behind S1 β1 w w' ([q0.1] ++ keyP q0.2) b₀ (oo + List.length xs1 * τ.size) cy := ⟨hchg, fun key hkey => hrel.sane.inj _ _ _ hkey hkb, fun hS => hrel.sane.sep _ _ hkb hS⟩
          have hcells : cellsAt w e0.t.size (.reg cr) = some cr := by simp [cellsAt, hl0]
          have hcells' : cellsAt w' e0.t.size (.reg cr) = some cr := by simp [cellsAt, hl0]
          have hne : ∀ b, S1 b → b ≠ b₀ := fun b hb e => hrel.sane.sep _ _ hkb (e ▸ hb)
          have hsane' : Sane w' S1 β1 := ⟨hrel.sane.inj, hrel.sane.sep, fun k b hk => by rw [hsz]; exact hrel.sane.live k b hk, fun b hk => by rw [hsz]; exact hrel.sane.liveS b hk, hrel.sane.tabs fun b hb => ⟨hb, hchg.other b (hne b hb)⟩⟩
          have hpub : Rel H a.tmps.size ((g.ups us1).up (.pub q0.1 (.dat ⟨e0.t, e0.x, e0.f⟩))) (vals a) w' S1 β1 := by
           refine hrel.pub he0 hsane' (fun b hb => ⟨hb, hchg.other b (hne b hb)⟩) (fun j s b hj _ hb => ⟨hb, hchg.other b (fun e => ?_)⟩) (fun p d L2 cr2 c2 h1 h2 h3 h4 h5 h6 h7 => ?_) ⟨cr, ?_, hV0⟩
           ·subst e
            have := hrel.sane.inj _ _ _ hb hkb
            simp only [List.cons.injEq] at this
            exact hj this.1
           ·have hcr : cr2 = cr := valOf_inj (Option.some.inj (h4.symm.trans hV0)) (VRel_len h5) hl0
            subst hcr
            obtain ⟨Lq, cq, k1, k2, k3, k4⟩ := walk_app (w' := w') (k := [q0.1]) h1 h2 h3 hg0 rfl hb0 hcells hcells' hvr hw0 (by simpa [Ty.size] using hcc0) (Nat.le_refl _) hbeh
            rw [h6] at k1
            simp only [Option.some.injEq, Prod.mk.injEq, true_and] at k1
            subst k1
            rw [h7] at k3
            cases k3
            exact ⟨⟨d.f, h1, h2⟩, k2, k4⟩
           ·exact VRel_app hg0 rfl hb0 hcells hvr hw0 (by simpa [Ty.size] using hcc0) (Nat.le_refl _) hbeh
          refine wp_value (exec_append ho hcal hargs hts (by rw [exv, eyv]; exact hrun)) (hK _ _ S1 β1 put_size put_defers ?_ (hst.trans (Step.store hkb hchg hsz)))
          rw [hdst, vals_put hd]
          exact fin hpub hsane' (fun _ _ => rfl) (fun j s b _ hb => ⟨hb, rfl⟩) rfl (fun _ => ⟨β1, .inl rfl, hnew⟩)
        ·refine wp_value (exec_append ho hcal hargs hts (by rw [exv, eyv]; exact hrun)) (hK _ _ S1 _ put_size put_defers ?_ (hst.trans (Step.newB hheap [dd])))
         rw [hdst, vals_put hd]
         refine fin (hrel.touch he0) (hrel.sane.new hheap [dd]) (fun b hb => new_same hheap (hrel.sane.liveS b hb)) (fun j s b hj hb => ⟨by unfold setK; rw [if_neg (by simp [hj])]; exact hb, new_same hheap (hrel.sane.live _ b hb)⟩) rfl
          (fun _ => ⟨repl (setK β1 [dd] w.heap.size) (q0.1 :: keyP q0.2) dd w.heap.size, .inr ⟨w.heap.size, by simp [setK], rfl⟩, hres _ _ (by simp [repl])⟩)
       ·cases hfirst
      ·cases hfirst
    ·cases hk
   ·cases hk
  ·cases hk
 ·cases hk
end
end Go.Rf

end
section
namespace Go.Rf
set_option linter.unusedSectionVars false
variable [T : Laid]
section
variable {P : Program} {H : Nat → Option (List Value)} {N : Nat} {g g' σ : View} {V V' : Nat → Option Value} {w w' : World} {S S' : Nat → Prop} {β β' : Key → Option Nat} {a : Act} {o : Oper}
variable {E : Env} {gv : View} {us : List Up}
theorem cloSlots_sound (hs : Sub gv g) : ∀ {xs : List Operand} {rs : List (Nat × Nat)}, cloSlots gv xs = some rs → xs = rs.map (fun x => .tmp x.1) ∧ ∀ x ∈ rs, (g x.1).s = x.2 ∧ (g x.1).sv ≠ .dead
 | [], rs, h => by
  simp only [cloSlots, Option.some.injEq] at h; subst h; exact ⟨rfl, by simp⟩
 | x :: xs, rs, h => by
  cases x with
  | tmp s =>
   simp only [cloSlots] at h
   split at h
   ·rename_i t y f hy
    simp only [Option.map_eq_some_iff] at h
    obtain ⟨rs', h', rfl⟩ := h
    obtain ⟨h1, h2⟩ := cloSlots_sound hs h'
    have hg := hs.get hy (by simp)
    refine ⟨by simp [h1], fun x hx => ?_⟩
    rcases List.mem_cons.1 hx with rfl | hx
    ·exact ⟨by simp only [hg], by simp only [hg, hy]; simp⟩
    ·exact h2 x hx
   ·cases h
  | _ => simp [cloSlots] at h
theorem makeFuncK_sound {h : FuncId} {caps : Array Operand} {rs : List (Nat × Nat)} (hc : Ctx P H S β a w o g) (hs : Sub gv g) (hm : o.op = .makeFunc (.func h) #[] caps) (hr : cloSlots gv caps.toList = some rs)
  (hk : outp o [] (.clo h rs) some = some us) : OpSound P H S β a w o (g.ups us) := by
 obtain ⟨d, ho, rfl⟩ := outp_some hk
 obtain ⟨h1, h2⟩ := cloSlots_sound hs hr
 refine look0 (val := .func (.func h) #[] (caps.map a.eval)) hc.rel hc.dead ho (opIn_dst hc.opIn ho) (by simp [execOp, hm, Instr.makeFunc]) ?_
 refine clo_put (fun x hx => ⟨hc.dead.lt (h2 x hx).2, by rw [(h2 x hx).1]; exact Nat.le_refl _⟩) fun _ vs hvs => ?_
 congr 2
 apply Array.toList_inj.1
 rw [Array.toList_map, h1, List.map_map]
 have : (rs.map fun x => vals a x.1) = rs.map fun x => some (a.eval (.tmp x.1)) := List.map_congr_left fun x hx => eval_vals (hc.dead.lt (h2 x hx).2)
 rw [this] at hvs
 have h3 : (rs.map fun x => a.eval (.tmp x.1)).map some = vs.map some := by rw [← hvs, List.map_map]; rfl
 have h4 := (List.map_inj_right (fun _ _ => Option.some.inj)).1 h3
 simpa [Function.comp_def] using h4
end
end Go.Rf

end
