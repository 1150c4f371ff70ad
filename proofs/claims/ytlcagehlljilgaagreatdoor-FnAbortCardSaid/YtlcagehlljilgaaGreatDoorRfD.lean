/- An interpreter of the code over plain data, proved right against the machine: part 4. No condition. -/
import Derived.Test.YtlcagehlljilgaaGreatDoorRfC
import Derived.OpenShut
import Derived.ChangeOld
import Derived.WalkKit
import Derived.ProofKit
import Derived.ShutString
import Derived.SizedLaws
import Derived.Test.YtlcagehlljilgaaGreatDoorRfA
set_option linter.unusedVariables false
set_option linter.unusedSimpArgs false
section
namespace Go.Rf
set_option linter.unusedSectionVars false
variable [T : Laid]
section
variable {E : Env} {ρ : Type}
theorem kseq_mono {k k' : List SV → (Out → Option ρ) → Option ρ} {κ κ' : Out → Option ρ} (hk : ∀ σ r, k σ κ = some r → k' σ κ' = some r) (hκ : ∀ o r, κ o = some r → κ' o = some r) : ∀ o r, kseq k κ o = some r → kseq k' κ' o = some r := by
 intro o r h
 obtain ⟨e, σ⟩ := o
 cases e with
 | nm => exact hk σ r h
 | ex id => exact hκ _ r h
 | ret => exact hκ _ r h
theorem kblock_mono {id : Nat} {κ κ' : Out → Option ρ} (hκ : ∀ o r, κ o = some r → κ' o = some r) : ∀ o r, kblock id κ o = some r → kblock id κ' o = some r := by
 intro o r h
 obtain ⟨e, σ⟩ := o
 cases e with
 | ex j =>
  simp only [kblock] at h ⊢
  split at h
  ·rename_i c; rw [if_pos c]; exact hκ _ r h
  ·rename_i c; rw [if_neg c]; exact hκ _ r h
 | nm => exact hκ _ r h
 | ret => exact hκ _ r h
theorem evB_mono {R R' : Run E} {L L' : Loops} {f : FuncId} (hR : RLe R R') (hL : LLe L L') : ∀ {c : Code} {σ : List SV} {κ κ' : Out → Option ρ} {r : ρ}, (∀ o r, κ o = some r → κ' o = some r) → evB E R L f c σ κ = some r → evB E R' L' f c σ κ' = some r
 | .skip, σ, κ, κ', r, hκ, h => hκ _ r h
 | .exit _, σ, κ, κ', r, hκ, h => hκ _ r h
 | .ret, σ, κ, κ', r, hκ, h => hκ _ r h
 | .region id ops draw, σ, κ, κ', r, hκ, h => by
  simp only [evB, opsS_eq] at h ⊢
  exact opsK_mono hR (fun l r => hκ _ r) h
 | .seq a b, σ, κ, κ', r, hκ, h => by
  simp only [evB] at h ⊢
  exact evB_mono hR hL (kseq_mono (fun σ r => evB_mono hR hL hκ) hκ) h
 | .block id b, σ, κ, κ', r, hκ, h => by
  simp only [evB] at h ⊢
  exact evB_mono hR hL (kblock_mono hκ) h
 | .loop b, σ, κ, κ', r, hκ, h => by
  simp only [evB, loopK] at h ⊢
  obtain ⟨o, h1, h2⟩ := Option.bind_eq_some_iff.1 h
  exact Option.bind_eq_some_iff.2 ⟨o, hL _ _ _ _ h1, hκ _ r h2⟩
 | .cond c a b, σ, κ, κ', r, hκ, h => by
  simp only [evB] at h ⊢
  split at h
  ·split at h
   ·rename_i x hx
    cases x with
    | true => simp only [cond_true] at h ⊢; exact evB_mono hR hL hκ h
    | false => simp only [cond_false] at h ⊢; exact evB_mono hR hL hκ h
   ·split at h
    ·rename_i hu
     obtain ⟨h1, h2⟩ := agree_some h
     rw [if_pos hu]
     exact agree_of (evB_mono hR hL hκ h1) (evB_mono hR hL hκ h2)
    ·cases h
   ·cases h
  ·rename_i x
   cases x with
   | true => simp only [cond_true] at h ⊢; exact evB_mono hR hL hκ h
   | false => simp only [cond_false] at h ⊢; exact evB_mono hR hL hκ h
  ·cases h
 | .rangeFunc _ _ _ _, _, _, _, _, _, h | .scope _, _, _, _, _, _, h | .label _, _, _, _, _, _, h | .goto _, _, _, _, _, _, h | .refuse _, _, _, _, _, _, h => by simp [evB] at h
theorem evB_fin (T : Tower E) {f : FuncId} : ∀ {c : Code} {σ : List SV} {κ : Nat → Out → Option ρ} {κw : Out → Option ρ} {r : ρ}, (∀ j k, j ≤ k → ∀ o r, κ j o = some r → κ k o = some r) → (∀ o r, κw o = some r → ∃ k, κ k o = some r) →
  evB E T.Rw T.Lw f c σ κw = some r → ∃ k, evB E (T.R k) (T.L k) f c σ (κ k) = some r
 | .skip, σ, κ, κw, r, hup, hκ, h => hκ _ r h
 | .exit _, σ, κ, κw, r, hup, hκ, h => hκ _ r h
 | .ret, σ, κ, κw, r, hup, hκ, h => hκ _ r h
 | .region id ops draw, σ, κ, κw, r, hup, hκ, h => by
  simp only [evB, opsS_eq] at h ⊢
  exact opsK_fin T (κ := fun k l => κ k ⟨.nm, scrub (E.cfg f).keep l l 0⟩) (fun j k hjk l r => hup j k hjk _ r) (fun l r => hκ _ r) h
 | .seq a b, σ, κ, κw, r, hup, hκ, h => by
  simp only [evB] at h ⊢
  refine evB_fin T (κ := fun k => kseq (evB E (T.R k) (T.L k) f b) (κ k)) (fun j k hjk => kseq_mono (fun σ r => evB_mono (T.leR hjk) (T.leL hjk) (hup j k hjk)) (hup j k hjk)) (fun o r ho => ?_) h
  obtain ⟨e, σ'⟩ := o
  cases e with
  | nm => exact evB_fin T hup hκ ho
  | ex id => exact hκ _ r ho
  | ret => exact hκ _ r ho
 | .block id b, σ, κ, κw, r, hup, hκ, h => by
  simp only [evB] at h ⊢
  refine evB_fin T (κ := fun k => kblock id (κ k)) (fun j k hjk => kblock_mono (hup j k hjk)) (fun o r ho => ?_) h
  obtain ⟨e, σ'⟩ := o
  cases e with
  | ex j =>
   simp only [kblock] at ho ⊢
   split at ho
   ·rename_i c; simp only [c, if_true]; exact hκ _ r ho
   ·rename_i c; simp only [c]; exact hκ _ r ho
  | nm => exact hκ _ r ho
  | ret => exact hκ _ r ho
 | .loop b, σ, κ, κw, r, hup, hκ, h => by
  simp only [evB, loopK] at h ⊢
  obtain ⟨o, h1, h2⟩ := Option.bind_eq_some_iff.1 h
  obtain ⟨k1, h1⟩ := (T.limL f b _ o).1 h1
  obtain ⟨k2, h2⟩ := hκ _ _ h2
  exact ⟨max k1 k2, Option.bind_eq_some_iff.2 ⟨o, T.leL (Nat.le_max_left _ _) _ _ _ _ h1, hup _ _ (Nat.le_max_right _ _) _ _ h2⟩⟩
 | .cond c a b, σ, κ, κw, r, hup, hκ, h => by
  simp only [evB] at h ⊢
  split at h
  ·split at h
   ·rename_i x hx
    cases x with
    | true => simp only [cond_true] at h ⊢; exact evB_fin T hup hκ h
    | false => simp only [cond_false] at h ⊢; exact evB_fin T hup hκ h
   ·split at h
    ·rename_i hu
     obtain ⟨h1, h2⟩ := agree_some h
     obtain ⟨k1, h1⟩ := evB_fin T hup hκ h1
     obtain ⟨k2, h2⟩ := evB_fin T hup hκ h2
     refine ⟨max k1 k2, ?_⟩
     simp only [hu, if_true]
     exact agree_of (evB_mono (T.leR (Nat.le_max_left _ _)) (T.leL (Nat.le_max_left _ _)) (hup _ _ (Nat.le_max_left _ _)) h1) (evB_mono (T.leR (Nat.le_max_right _ _)) (T.leL (Nat.le_max_right _ _)) (hup _ _ (Nat.le_max_right _ _)) h2)
    ·cases h
   ·cases h
  ·rename_i x
   cases x with
   | true => simp only [cond_true] at h ⊢; exact evB_fin T hup hκ h
   | false => simp only [cond_false] at h ⊢; exact evB_fin T hup hκ h
  ·cases h
 | .rangeFunc _ _ _ _, _, _, _, _, _, _, h | .scope _, _, _, _, _, _, _, h | .label _, _, _, _, _, _, _, h | .goto _, _, _, _, _, _, _, h | .refuse _, _, _, _, _, _, _, h => by simp [evB] at h
theorem bodyK_mono {R R' : Run E} {L L' : Loops} (hR : RLe R R') (hL : LLe L L') {f : FuncId} {ds : List Dyn} {x : (E.cfg f).rt.D} (h : bodyK E R L f ds = some x) : bodyK E R' L' f ds = some x := by
 unfold bodyK at h ⊢
 split at h
 ·split at h
  ·split at h
   ·rename_i hc; rw [if_pos hc]; exact evB_mono hR hL (fun _ _ h => h) h
   ·cases h
  ·cases h
 ·cases h
theorem bodyK_fin (T : Tower E) {f : FuncId} {ds : List Dyn} {x : (E.cfg f).rt.D} (h : bodyK E T.Rw T.Lw f ds = some x) : ∃ k, bodyK E (T.R k) (T.L k) f ds = some x := by
 unfold bodyK at h ⊢
 split at h
 ·split at h
  ·split at h
   ·rename_i hc
    simp only [hc, if_true]
    exact evB_fin T (κ := fun _ => _) (fun _ _ _ _ _ h => h) (fun _ _ h => ⟨0, h⟩) h
   ·cases h
  ·cases h
 ·cases h
def nextκ (E : Env) (L : Loops) (f : FuncId) (b : Code) : Out → Option Out
 | ⟨.nm, σ⟩ => L f b (killS (deadAt (E.cfg f) b) σ)
 | o => some o
theorem nextL_eq {R : Run E} {L : Loops} {f : FuncId} {b : Code} {σ : List SV} : nextL E R L f b σ = evB E R L f b σ (nextκ E L f b) := by
 unfold nextL
 congr
theorem nextκ_mono {L L' : Loops} (hL : LLe L L') {f : FuncId} {b : Code} : ∀ o r, nextκ E L f b o = some r → nextκ E L' f b o = some r := by
 intro o r h
 obtain ⟨e, σ⟩ := o
 cases e with
 | nm => exact hL _ _ _ _ h
 | ex id => exact h
 | ret => exact h
variable (X : (f : FuncId) → Option (List Dyn → Option (E.cfg f).rt.D))
theorem rounds_up : ∀ k, RLe (rounds E X k).1 (rounds E X (k + 1)).1 ∧ LLe (rounds E X k).2 (rounds E X (k + 1)).2
 | 0 => ⟨fun _ _ _ h => by simp [rounds] at h, fun _ _ _ _ h => by simp [rounds] at h⟩
 | k + 1 => by
  obtain ⟨h1, h2⟩ := rounds_up k
  refine ⟨fun f ds x h => ?_, fun f b σ o h => ?_⟩
  ·show nextR E X (rounds E X (k + 1)).1 (rounds E X (k + 1)).2 f ds = some x
   have h : nextR E X (rounds E X k).1 (rounds E X k).2 f ds = some x := h
   unfold nextR at h ⊢
   split at h
   ·exact h
   ·exact bodyK_mono h1 h2 h
  ·show nextL E (rounds E X (k + 1)).1 (rounds E X (k + 1)).2 f b σ = some o
   have h : nextL E (rounds E X k).1 (rounds E X k).2 f b σ = some o := h
   rw [nextL_eq] at h ⊢
   exact evB_mono h1 h2 (nextκ_mono h2) h
open Classical in
noncomputable def sup {α : Type} (s : Nat → Option α) : Option α := if h : ∃ x k, s k = some x then some h.choose else none
theorem sup_iff {α : Type} {s : Nat → Option α} (hu : ∀ k x, s k = some x → s (k + 1) = some x) {x : α} : sup s = some x ↔ ∃ k, s k = some x := by
 have up : ∀ d k x, s k = some x → s (k + d) = some x := by
  intro d
  induction d with
  | zero => intro k x h; exact h
  | succ d ih => intro k x h; exact hu _ _ (ih k x h)
 have det : ∀ k k' x y, s k = some x → s k' = some y → x = y := fun k k' x y h h' => by
  have a := up k' k x h
  have b := up k k' y h'
  rw [Nat.add_comm] at b
  rw [a] at b; exact Option.some.inj b
 unfold sup
 constructor
 ·intro h
  split at h
  ·rename_i hx
   obtain ⟨k, hk⟩ := hx.choose_spec
   simp only [Option.some.injEq] at h
   exact ⟨k, by rw [← h]; exact hk⟩
  ·cases h
 ·rintro ⟨k, hk⟩
  have hx : ∃ x k, s k = some x := ⟨x, k, hk⟩
  rw [dif_pos hx]
  obtain ⟨k', hk'⟩ := hx.choose_spec
  rw [det _ _ _ _ hk' hk]
noncomputable def tower : Tower E where
 R k := (rounds E X k).1
 L k := (rounds E X k).2
 Rw f ds := sup fun k => (rounds E X k).1 f ds
 Lw f b σ := sup fun k => (rounds E X k).2 f b σ
 upR k := (rounds_up X k).1
 upL k := (rounds_up X k).2
 limR f ds _ := sup_iff fun k x h => (rounds_up X k).1 f ds x h
 limL f b σ _ := sup_iff fun k x h => (rounds_up X k).2 f b σ x h
noncomputable def run : Run E := (tower X).Rw
noncomputable def lps : Loops := (tower X).Lw
theorem run_eq (f : FuncId) (ds : List Dyn) : run X f ds = nextR E X (run X) (lps X) f ds := by
 have T := tower X
 apply Option.ext
 intro x
 constructor
 ·intro h
  obtain ⟨k, hk⟩ := ((tower X).limR f ds x).1 h
  cases k with
  | zero => cases (show (none : Option _) = some x from hk)
  | succ k =>
   have hk : nextR E X (rounds E X k).1 (rounds E X k).2 f ds = some x := hk
   unfold nextR at hk ⊢
   split at hk
   ·exact hk
   ·exact bodyK_mono (fun f ds x h => ((tower X).limR f ds x).2 ⟨k, h⟩) (fun f b σ o h => ((tower X).limL f b σ o).2 ⟨k, h⟩) hk
 ·intro h
  refine ((tower X).limR f ds x).2 ?_
  unfold nextR at h
  split at h
  ·rename_i h' hX
   refine ⟨1, ?_⟩
   show nextR E X (rounds E X 0).1 (rounds E X 0).2 f ds = some x
   unfold nextR
   rw [hX]; exact h
  ·rename_i hX
   obtain ⟨k, hk⟩ := bodyK_fin (tower X) h
   refine ⟨k + 1, ?_⟩
   show nextR E X (rounds E X k).1 (rounds E X k).2 f ds = some x
   unfold nextR
   rw [hX]; exact hk
theorem lps_eq (f : FuncId) (b : Code) (σ : List SV) : lps X f b σ = nextL E (run X) (lps X) f b σ := by
 rw [nextL_eq]
 apply Option.ext
 intro o
 constructor
 ·intro h
  obtain ⟨k, hk⟩ := ((tower X).limL f b σ o).1 h
  cases k with
  | zero => cases (show (none : Option _) = some o from hk)
  | succ k =>
   have hk : nextL E (rounds E X k).1 (rounds E X k).2 f b σ = some o := hk
   rw [nextL_eq] at hk
   have hL : LLe (rounds E X k).2 (lps X) := fun f b σ o h => ((tower X).limL f b σ o).2 ⟨k, h⟩
   exact evB_mono (fun f ds x h => ((tower X).limR f ds x).2 ⟨k, h⟩) hL (nextκ_mono hL) hk
 ·intro h
  obtain ⟨k, hk⟩ := evB_fin (tower X) (κ := fun k => nextκ E ((tower X).L k) f b) (fun j k hjk => nextκ_mono ((tower X).leL hjk)) (fun o r ho => by
   obtain ⟨e, σ'⟩ := o
   cases e with
   | nm => exact ((tower X).limL _ _ _ _).1 ho
   | ex id => exact ⟨0, ho⟩
   | ret => exact ⟨0, ho⟩) h
  refine ((tower X).limL f b σ o).2 ⟨k + 1, ?_⟩
  show nextL E (rounds E X k).1 (rounds E X k).2 f b σ = some o
  rw [nextL_eq]; exact hk
theorem run_fn {f : FuncId} (hX : X f = none) (ds : List Dyn) : run X f ds = bodyK E (run X) (lps X) f ds := by
 rw [run_eq]; unfold nextR; rw [hX]
theorem run_ok (hX : ∀ f h, X f = some h → ∀ ds x, h ds = some x → FnOK E f ds x) (hm : E.P.follows .mixedOrders = true) (hN : NamesOK E.P) : RunOK E (run X) := fun f ds x h => by
 obtain ⟨k, hk⟩ := ((tower X).limR f ds x).1 h
 exact (rounds_ok hX hm hN k).1 f ds x hk
end
end Go.Rf

end
section
namespace Go.Rf
set_option linter.unusedSectionVars false
variable [T : Laid]
def plainT : Ty → Bool
 | .int _ => true
 | .bool => true
 | .str => true
 | .unit => true
 | .sl t => plainT t && Nat.blt 0 t.size
 | .arr _ t => plainT t
 | .pair a b => plainT a && plainT b
 | _ => false
def Fine : (t : Ty) → t.D → Prop
 | .int k, x => (Lit.int k x).wf = true
 | .str, x => List.length x ≤ maxLen
 | .sl t, x => List.length x ≤ maxLen ∧ ∀ (i : Nat) (y : t.D), nth x i = some y → Fine t y
 | .arr _ t, x => ∀ (i : Nat) (y : t.D), nth x i = some y → Fine t y
 | .pair a b, x => Fine a x.1 ∧ Fine b x.2
 | _, _ => True
theorem list_choice {α : Type} {Q : Nat → α → Prop} : ∀ {n : Nat}, (∀ i, i < n → ∃ y, Q i y) → ∃ xs : List α, xs.length = n ∧ ∀ i y, nth xs i = some y → Q i y
 | 0, _ => ⟨[], rfl, by simp [nth]⟩
 | n + 1, h => by
  obtain ⟨xs, h1, h2⟩ := list_choice (n := n) fun i hi => h i (by omega)
  obtain ⟨y, hy⟩ := h n (by omega)
  refine ⟨xs ++ [y], by simp [h1], fun i z hz => ?_⟩
  simp only [nth] at hz h2
  rcases Nat.lt_or_ge i n with hi | hi
  ·rw [List.getElem?_append_left (by omega)] at hz; exact h2 i z hz
  ·rw [List.getElem?_append_right (by omega), h1] at hz
   have : i = n := by
    have := (List.getElem?_eq_some_iff.1 hz).1
    simp at this; omega
   subst this
   simp at hz
   subst hz; exact hy
theorem mapM_at {α β : Type} {f : α → Option β} : ∀ {l : List α} {r : List β}, l.mapM f = some r → ∀ (i : Nat) (x : α), l[i]? = some x → ∃ y, f x = some y ∧ r[i]? = some y := fun {_ _} h i x hx => by
 have := mapM_some_get h i x hx
 have hl := mapM_some_length h
 have hi := (List.getElem?_eq_some_iff.1 hx).1
 exact ⟨_, this.trans (List.getElem?_eq_getElem (by omega)), List.getElem?_eq_getElem (by omega)⟩
section
variable {P : Program} {w : World} {H : Type} {enc : TypeId × Value → H} {sp : Nat → Bool} {held : Bool}
theorem cells_inv {a : Addr} {n : Nat} {c : List Value} (hn : 0 < n) (h : w.cells? 0 a n = some c) : ∃ cs e fz, a.spot = none ∧ w.heap[a.block]? = some (.cells cs e fz) ∧ a.off + n ≤ cs.size ∧ c = win cs.toList a.off n := by
 obtain ⟨b, o, spot⟩ := a
 unfold World.cells? at h
 rw [if_pos (Nat.zero_le _)] at h
 have hlen := mapM_some_length h
 have hat : ∀ i, i < n → ∃ y, w.cell? (Addr.add ⟨b, o, spot⟩ i) = some y ∧ c[i]? = some y := fun i hi => mapM_at h i i (by simp [hi])
 have h0 := hat 0 hn
 obtain ⟨y0, h0, _⟩ := h0
 simp only [Addr.add, if_true, World.cell?] at h0
 cases hb : w.heap[b]? with
 | none => rw [hb] at h0; simp at h0
 | some ob =>
  cases ob with
  | cells cs e fz =>
   rw [hb] at h0
   simp only at h0
   split at h0
   ·cases h0
   ·rename_i hs
    have hs : spot = none := by cases spot <;> simp_all
    subst hs
    have hc : ∀ i, i < n → cs[o + i]? = c[i]? := fun i hi => by
     obtain ⟨y, h1, h2⟩ := hat i hi
     rw [addr_add] at h1
     simp only [World.cell?, hb] at h1
     rw [h2]
     simpa using h1
    have hsz : o + n ≤ cs.size := by
     have := hc (n - 1) (by omega)
     have h2 : n - 1 < c.length := by simp at hlen; omega
     rw [List.getElem?_eq_getElem h2] at this
     have := (Array.getElem?_eq_some_iff.1 this).1
     omega
    refine ⟨cs, e, fz, rfl, rfl, hsz, ?_⟩
    apply List.ext_getElem?
    intro i
    simp only [win]
    by_cases hi : i < n
    ·rw [List.getElem?_take_of_lt hi, List.getElem?_drop, ← hc i hi]
     simp
    ·rw [List.getElem?_eq_none (by simp at hlen; omega), List.getElem?_eq_none (by simp; omega)]
  | _ => rw [hb] at h0; simp at h0
theorem cellsOf_size {d : Nat} {t : TypeId} {τ : Ty} (h : tyN P (d + 1) t = some τ) : P.cellsOf t = τ.size := by
 obtain ⟨i, u, h1, _, h3, _⟩ := tyN_inv h
 simp [Program.cellsOf, h1, h3]
theorem chain_trod {d fuel : Nat} (ih : ∀ (t : TypeId) (τ : Ty) (cs : List Value) (data : DataW H × List MemPlace), tyN P (d + 1) t = some τ → plainT τ = true → DataW.trod enc P w 0 sp held fuel t cs = some data → ∃ x : τ.D, Rd (fun b => b < w.heap.size) w τ x cs ∧ Fine τ x) {cs : List Value} :
  ∀ {fs : List Field} {off : Nat} {τ : Ty}, chain (tyN P (d + 1)) fs off = some τ → plainT τ = true →
   (∀ f ∈ fs, ∃ y, DataW.trod enc P w 0 sp held fuel f.type ((cs.drop f.offset).take (P.cellsOf f.type)) = some y) → cs.length = off + τ.size → ∃ x : τ.D, Rd (fun b => b < w.heap.size) w τ x (cs.drop off) ∧ Fine τ x
 | [], off, τ, hc, _, _, hl => by
  simp only [chain, Option.some.injEq] at hc
  subst hc
  simp only [Ty.size] at hl
  refine ⟨(), ?_, trivial⟩
  simp only [Rd]
  exact List.drop_eq_nil_iff.2 (by omega)
 | f :: fs, off, τ, hc, hp, hm, hl => by
  simp only [chain] at hc
  split at hc
  ·rename_i a ha
   split at hc
   ·rename_i ho
    have ho : f.offset = off := by simpa [Nat.beq_eq] using ho
    obtain ⟨b, hb, rfl⟩ := Option.map_eq_some_iff.1 hc
    simp only [plainT, Bool.and_eq_true] at hp
    simp only [Ty.size] at hl
    obtain ⟨y, h1⟩ := hm f (by simp)
    rw [cellsOf_size ha, ho] at h1
    obtain ⟨x, hx, hfx⟩ := ih f.type a _ y ha hp.1 h1
    obtain ⟨z, hz, hfz⟩ := chain_trod ih hb hp.2 (fun f' hf' => hm f' (by simp [hf'])) (by omega)
    refine ⟨(x, z), ?_, hfx, hfz⟩
    simp only [Rd]
    refine ⟨hx, ?_⟩
    rw [List.drop_drop]; exact hz
   ·cases hc
  ·cases hc
theorem trod_Rd : ∀ {d fuel : Nat} {t : TypeId} {τ : Ty} {cs : List Value} {data : DataW H × List MemPlace}, tyN P d t = some τ → plainT τ = true → DataW.trod enc P w 0 sp held fuel t cs = some data →
  ∃ x : τ.D, Rd (fun b => b < w.heap.size) w τ x cs ∧ Fine τ x
 | 0, _, _, _, _, _, h, _, _ => by simp [tyN] at h
 | d + 1, fuel, t, τ, cs, data, ht, hp, h => by
  obtain ⟨i, u, hi, hu, hsz, hsh⟩ := tyN_inv ht
  have hcell : P.cellsOf t = τ.size := cellsOf_size ht
  unfold TyShape at hsh
  split at hsh
  ·subst hsh
   obtain ⟨n, rfl, _, hw⟩ := DataW.trod_int hu h
   exact ⟨n, by simp only [Rd], hw⟩
  ·subst hsh
   obtain ⟨b, rfl, _⟩ := DataW.trod_bool hu h
   exact ⟨b, by simp only [Rd], trivial⟩
  ·subst hsh
   obtain ⟨s, rfl, _, hs⟩ := DataW.trod_string hu h
   exact ⟨s.data.toList, by simp only [Rd], by simp only [Fine]; rw [Array.length_toList]; exact hs⟩
  ·subst hsh; simp [plainT] at hp
  ·rename_i e
   obtain ⟨a, ha, rfl⟩ := hsh
   simp only [plainT, Bool.and_eq_true] at hp
   have hpos : 0 < a.size := by have := hp.2; simpa [Nat.blt_eq] using this
   cases d with
   | zero => simp [tyN] at ha
   | succ d =>
   have hce := cellsOf_size ha
   rcases DataW.trod_slice hu h with ⟨rfl, _⟩ | ⟨ad, len, cap, elems, rest, n, rfl, rfl, _, _, hlc, hcm, hel, hat, _, _⟩
   ·exact ⟨([] : List a.D), by simp only [Rd]; exact ⟨none, 0, rfl, Nat.le_refl _, .inl rfl⟩, by simp [Fine, nth]⟩
   ·rw [hce] at hat
    have key : ∀ i, i < len → ∃ y : a.D, ∃ c, w.cells? 0 (ad.add (i * a.size)) a.size = some c ∧ Rd (fun b => b < w.heap.size) w a y c ∧ Fine a y := fun i hi => by
     have := hat i hi
     rw [List.getElem?_eq_getElem (by omega)] at this
     obtain ⟨c, h1, h2⟩ := Option.bind_eq_some_iff.1 this
     obtain ⟨y, hy, hf⟩ := trod_Rd ha hp.1 h2
     exact ⟨y, c, h1, hy, hf⟩
    obtain ⟨xs, hx1, hx2⟩ := list_choice key
    rcases Nat.eq_zero_or_pos len with h0 | h0
    ·refine ⟨xs, ?_, ?_⟩
     ·simp only [Rd]
      exact ⟨some ad, cap, by rw [hx1], by rw [hx1]; exact hlc, .inl (List.length_eq_zero_iff.1 (by omega))⟩
     ·simp only [Fine]
      exact ⟨by rw [hx1]; omega, fun i y hy => (hx2 i y hy).choose_spec.2.2⟩
    ·obtain ⟨c0, hc0⟩ : ∃ c, w.cells? 0 (ad.add (0 * a.size)) a.size = some c := by
      obtain ⟨y, c, h1, _⟩ := key 0 h0; exact ⟨c, h1⟩
     obtain ⟨cs, ee, fz, hsp, hb, _, _⟩ := cells_inv hpos hc0
     obtain ⟨b, o, spot⟩ := ad
     simp only [Nat.zero_mul, Addr.add, if_true] at hsp hb
     subst hsp
     have hcell : ∀ i c, w.cells? 0 (Addr.add ⟨b, o, none⟩ (i * a.size)) a.size = some c → o + i * a.size + a.size ≤ cs.size ∧ c = win cs.toList (o + i * a.size) a.size := fun i c hc => by
      rw [addr_add] at hc
      obtain ⟨cs', ee', fz', _, hb', h3, h4⟩ := cells_inv hpos hc
      rw [hb] at hb'
      simp only [Option.some.injEq, Obj.cells.injEq] at hb'
      obtain ⟨rfl, _, _⟩ := hb'
      exact ⟨h3, h4⟩
     refine ⟨xs, ?_, ?_⟩
     ·simp only [Rd]
      refine ⟨some ⟨b, o, none⟩, cap, by rw [hx1], by rw [hx1]; exact hlc, .inr ⟨b, o, cs, rfl, (Array.getElem?_eq_some_iff.1 hb).1, ⟨ee, fz, hb⟩, ?_, fun i y hy => ?_⟩⟩
      ·obtain ⟨y, c, h1, _⟩ := key (len - 1) (by omega)
       have := (hcell _ _ h1).1
       rw [hx1]
       have e : len * a.size = (len - 1) * a.size + a.size := by
        rw [← Nat.succ_mul]; congr 1; omega
       omega
      ·obtain ⟨c, h1, h2, _⟩ := hx2 i y hy
       rw [← (hcell i c h1).2]; exact h2
     ·simp only [Fine]
      exact ⟨by rw [hx1]; omega, fun i y hy => (hx2 i y hy).choose_spec.2.2⟩
  ·obtain ⟨a, _, rfl⟩ := hsh; simp [plainT] at hp
  ·rename_i n e
   obtain ⟨a, ha, rfl⟩ := hsh
   simp only [plainT] at hp
   cases d with
   | zero => simp [tyN] at ha
   | succ d =>
   have hce := cellsOf_size ha
   obtain ⟨xs, m, rfl, _, hl, hxl, hat⟩ := DataW.trod_array hu h
   rw [hce] at hat
   rw [hcell] at hl
   have key : ∀ i, i < n → ∃ y : a.D, Rd (fun b => b < w.heap.size) w a y (win cs (i * a.size) a.size) ∧ Fine a y := fun i hi => by
    have := hat i hi
    rw [List.getElem?_eq_getElem (by omega)] at this
    exact trod_Rd ha hp this
   obtain ⟨ys, hy1, hy2⟩ := list_choice key
   refine ⟨ys, ?_, ?_⟩
   ·simp only [Rd]
    exact ⟨hy1, hl, fun i y hy => (hy2 i y hy).1⟩
   ·simp only [Fine]
    exact fun i y hy => (hy2 i y hy).2
  ·rename_i fs
   cases d with
   | zero =>
    cases hfs : fs.toList with
    | nil =>
     rw [hfs] at hsh
     simp only [chain, Option.some.injEq] at hsh
     subst hsh
     obtain ⟨xs, n, rfl, _, hl, _, _⟩ := DataW.trod_struct hu h
     rw [hcell] at hl
     exact ⟨(), by simp only [Rd]; exact List.length_eq_zero_iff.1 hl, trivial⟩
    | cons f fs' =>
     rw [hfs] at hsh
     simp [chain, tyN] at hsh
   | succ d =>
   obtain ⟨xs, n, rfl, _, hl, hxl, hat⟩ := DataW.trod_struct hu h
   rw [hcell] at hl
   have := chain_trod (cs := cs) (fun t τ cs data h1 h2 h3 => trod_Rd h1 h2 h3) hsh hp (fun f hf => by
    obtain ⟨i, hi, e⟩ := List.mem_iff_getElem.1 hf
    have h1 : fs[i]? = some f := by
     rw [← Array.getElem?_toList, List.getElem?_eq_getElem hi, e]
    have := hat i f h1
    rw [List.getElem?_eq_getElem (by simp at hi; omega)] at this
    exact ⟨_, this⟩) (by omega)
   simpa using this
  ·exact hsh.elim
end
end Go.Rf

end
section
namespace Go.Rf
set_option linter.unusedSectionVars false
variable [T : Laid]
open Go.ChangeShapes Go.WideShapes Go.ChangeAt Go.RowKit
def FineAll : List Dyn → Prop
 | [] => True
 | d :: ds => Fine d.t d.x ∧ FineAll ds
section
variable {P : Program} {w : World} {H : Type} {enc : TypeId × Value → H} {sp : Nat → Bool} {held : Bool}
theorem value_valOf {d : Nat} {t : TypeId} {τ : Ty} {v : Value} (ht : tyN P (d + 1) t = some τ) (hp : plainT τ = true) (hv : Value.okWide P w .any 0 t v ∨ ∃ b, Value.okWide P w .any b t v) : v = valOf τ v.cells.toList := by
 have hv : ∃ b, Value.okWide P w .any b t v := hv.elim (fun h => ⟨0, h⟩) id
 obtain ⟨b, hv⟩ := hv
 obtain ⟨i, u, hi, hu, hsz, hsh⟩ := tyN_inv ht
 unfold TyShape at hsh
 split at hsh
 ·subst hsh; obtain ⟨n, rfl⟩ := okWide_int hu hv; rfl
 ·subst hsh; obtain ⟨n, rfl⟩ := okWide_bool hu hv; rfl
 ·subst hsh; obtain ⟨n, rfl⟩ := okWide_string hu hv; rfl
 ·subst hsh; simp [plainT] at hp
 ·obtain ⟨a, _, rfl⟩ := hsh; obtain ⟨_, _, _, rfl⟩ := okWide_slice hu hv; rfl
 ·obtain ⟨a, _, rfl⟩ := hsh; simp [plainT] at hp
 ·obtain ⟨a, _, rfl⟩ := hsh
  unfold Value.okWide at hv
  rw [hu] at hv
  obtain ⟨cs, rfl, _⟩ := hv
  simp [valOf, Ty.agg, Value.cells]
 ·obtain ⟨cs, rfl, _⟩ := okWide_struct hu hv
  rcases chain_agg hsh with rfl | ⟨a, b, rfl⟩ <;> simp [valOf, Ty.agg, Value.cells]
 ·exact hsh.elim
theorem args_read : ∀ {ts : List TypeId} {vs : List Value} {ds : List (DataW H)} {ps : List MemPlace} {tys : List Ty} {b : Nat}, DataW.TrodAll enc P w 0 sp held ts vs ds ps → ts.map (tyN P 8) = tys.map some → tys.all plainT = true →
  (∀ (j : Nat) (t : TypeId) (v : Value), ts[j]? = some t → vs[j]? = some v → Value.okWide P w .any b t v) →
  ∃ dy cs, RdAll (fun b => b < w.heap.size) w dy cs ∧ argVals dy cs = vs ∧ dy.map Dyn.t = tys ∧ FineAll dy ∧ ds.length = ts.length
 | [], [], [], ps, tys, b, _, ht, _, _ => by
  cases tys with
  | nil => exact ⟨[], [], by simp [RdAll], by simp [argVals], rfl, trivial, rfl⟩
  | cons _ _ => simp at ht
 | t :: ts, v :: vs, d :: ds, ps, tys, b, h, ht, hp, hv => by
  cases tys with
  | nil => simp at ht
  | cons τ tys =>
   simp only [List.map_cons, List.cons.injEq] at ht
   simp only [List.all_cons, Bool.and_eq_true] at hp
   obtain ⟨p, q, ⟨fuel, h1⟩, h2, _⟩ := h
   obtain ⟨x, hx, hf⟩ := trod_Rd ht.1 hp.1 h1
   obtain ⟨dy, cs, q1, q2, q3, q4, q5⟩ := args_read h2 ht.2 hp.2 (fun j t' v' h1 h2 => hv (j + 1) t' v' (by simpa using h1) (by simpa using h2))
   refine ⟨⟨τ, x⟩ :: dy, v.cells.toList :: cs, ⟨hx, q1⟩, ?_, by simp [q3], ⟨hf, q4⟩, by simp [q5]⟩
   simp only [argVals, q2]
   rw [← value_valOf ht.1 hp.1 (.inr ⟨b, hv 0 t v rfl rfl⟩)]
 | [], _ :: _, _, _, _, _, h, _, _, _ => by simp [DataW.TrodAll] at h
 | [], [], _ :: _, _, _, _, h, _, _, _ => by simp [DataW.TrodAll] at h
 | _ :: _, [], _, _, _, _, h, _, _, _ => by simp [DataW.TrodAll] at h
 | _ :: _, _ :: _, [], _, _, _, h, _, _, _ => by simp [DataW.TrodAll] at h
theorem trodAll_below (hl : laidOutB P = true) {W W' : World} (hb : Below W.heap.size W W') : ∀ {ts : List TypeId} {vs : List Value} {ds : List (DataW H)} {ps : List MemPlace}, DataW.TrodAll enc P W 0 (fun _ => true) true ts vs ds ps →
  (∀ t ∈ ts, P.readableRec t = true ∧ t < P.types.size) → DataW.TrodAll enc P W' 0 (fun b => decide (b < W.heap.size)) true ts vs ds ps
 | [], [], [], ps, h, _ => h
 | t :: ts, v :: vs, d :: ds, ps, h, hr => by
  obtain ⟨p, q, h1, h2, rfl⟩ := h
  refine ⟨p, q, ?_, trodAll_below hl hb h2 fun t' h' => hr t' (by simp [h']), rfl⟩
  have ⟨fuel, h1'⟩ := h1
  exact Below.trod hl (hr t (by simp)).1 (hr t (by simp)).2 h1 hb (DataW.trod_lt fuel _ _ _ h1')
 | [], _ :: _, _, _, h, _ => by simp [DataW.TrodAll] at h
 | [], [], _ :: _, _, h, _ => by simp [DataW.TrodAll] at h
 | _ :: _, [], _, _, h, _ => by simp [DataW.TrodAll] at h
 | _ :: _, _ :: _, [], _, h, _ => by simp [DataW.TrodAll] at h
end
def isTrue : (t : Ty) → t.D → Bool
 | .pair .bool _, x => x.1
 | _, _ => false
theorem ros_of : ∀ {tys : List Ty} {dy : List Dyn}, dy.map Dyn.t = tys → rosOK (tys.map .ro) dy = true
 | [], [], _ => rfl
 | t :: tys, d :: dy, h => by
  simp only [List.map_cons, List.cons.injEq] at h
  simp only [List.map_cons, rosOK, h.1, decide_true, Bool.true_and]
  exact ros_of h.2
 | [], _ :: _, h => by simp at h
 | _ :: _, [], h => by simp at h
theorem law_call {E : Env} {R : Run E} (hR : RunOK E R) {f : FuncId} {fn : Func} {W : World} {tys : List Ty} {dy : List Dyn} {cs : List (List Value)} (hfn : E.P.funcs[f]? = some fn) (hb : fn.body.isNone = false) {keep : List Nat} {mv : List (Nat × Nat)}
  (hcfg : E.cfg f = ⟨tys.map .ro, 1, .pair .bool .unit, .sh, keep, mv⟩) (hdy : dy.map Dyn.t = tys) (hrd : RdAll (fun b => b < W.heap.size) W dy cs) {x : (E.cfg f).rt.D} (hx : R f dy = some x) (ht : isTrue _ x = true) (htab : ∀ t ∈ T.tabs, Blk W t.1 t.2) :
  Calls E.P f (argVals dy cs).toArray W fun e W' => e = .returned (.bool true) ∧ Below W.heap.size W W' := by
 have h := hR f dy x hx W (fun b => b < W.heap.size) (fun _ => none) cs ⟨fun _ _ _ h => by simp at h, fun _ _ h => by simp at h, fun _ _ h => by simp at h, fun _ h => h, fun t ht => ⟨(htab t ht).lt, htab t ht⟩⟩ (ros_at (by rw [hcfg]; exact ros_of hdy) hrd)
 have post : ∀ v W', Ret (E.cfg f) x cs W (fun b => b < W.heap.size) (fun _ => none) v W' → v = .bool true ∧ Below W.heap.size W W' := by
  rintro v W' ⟨S', β', crs, h1, h2, h3, h4, h5⟩
  refine ⟨?_, ⟨h2.out.os, h2.out.tape, h2.out.output, h2.size, fun k hk => h2.old k hk (fun _ => by simp)⟩⟩
  have key : ∀ (c : FCfg) (x : c.rt.D), c = ⟨tys.map .ro, 1, .pair .bool .unit, .sh, keep, mv⟩ → isTrue _ x = true → ResAt S' β' W' c.nres 0 c.rt c.rf x crs → v = retVal (resVals c.nres c.rt crs) → v = .bool true := by
   intro c x hc ht h3 h4
   subst hc
   match crs, h3 with
   | [c], h3 =>
    simp only [ResAt] at h3
    have := h3.1
    simp only [Fl.l] at this
    rw [VRel_sh] at this
    simp only [Rd] at this
    subst this
    have ht : x.1 = true := ht
    rw [h4]
    show Value.bool x.1 = _
    rw [ht]
   | [], h3 => simp [ResAt] at h3
   | _ :: _ :: _, h3 => simp [ResAt] at h3
  exact key _ x hcfg ht h3 h4
 rcases h with ⟨fn', _, _, _, h⟩ | ⟨v, w', hrun, hret⟩
 ·refine h.mono fun e W' he => ?_
  cases e with
  | returned v => obtain ⟨rfl, hb⟩ := post v W' he; exact ⟨rfl, hb⟩
  | panicked _ => exact he.elim
  | outgrown => exact he.elim
 ·exfalso
  have hb' : fn.body ≠ none := fun e => by rw [e] at hb; simp at hb
  by_cases hnm : fn.name = "runtime.NumGoroutine"
  ·have hr : (callFunc f (argVals dy cs).toArray).run E.P W = .ok .numGoroutine W := by
    simp only [callFunc, go_sem]
    simp [hfn, hnm]
   rw [hr] at hrun; simp at hrun
  ·have hr : (callFunc f (argVals dy cs).toArray).run E.P W = .ok (.enter f (argVals dy cs).toArray) W := by
    simp only [callFunc, go_sem]
    simp [hfn, hnm, hb']
   rw [hr] at hrun; simp at hrun
theorem law_row {C : Checked} {cfg : FuncId → FCfg} {R : Run ⟨C.prog, cfg⟩} (hR : RunOK ⟨C.prog, cfg⟩ R) {f : FuncId} {fn : Func} {s : ChangeSpec} {tys : List Ty} {keep : List Nat} {mv : List (Nat × Nat)} {tb : TypeId} {n : Nat}
  (hcfg : cfg f = ⟨tys.map .ro, 1, .pair .bool .unit, .sh, keep, mv⟩) (hfn : C.prog.funcs[f]? = some fn) (hb : fn.body.isNone = false) (hty : fn.params.toList.map (tyN C.prog 8) = tys.map some) (hp : tys.all plainT = true)
  (hvars : s.vars = []) (hs : ∀ (H : Type) (ds : List (DataW H)), ds.length = n → s.fn H ds = { results := [.lit (.bool true)], args := ds }) (hn : fn.params.toList.length = n) (hrt : fn.resultTypes = #[tb]) (hut : C.prog.underlying tb = some .bool)
  (hl : laidOutB C.prog = true) (hr : ∀ t ∈ fn.params.toList, C.prog.readableRec t = true ∧ t < C.prog.types.size)
  (hx : ∀ dy : List Dyn, dy.map Dyn.t = tys → FineAll dy → ∃ x, R f dy = some x ∧ isTrue _ x = true)
  {H : Type} (enc : TypeId × Value → H) (W : World) (htab : ∀ t ∈ T.tabs, Blk W t.1 t.2) (base : Nat) (args : Array Value) (ds gs : List (DataW H)) (before : List MemPlace)
  (hval : ∀ (j : Nat) t v, fn.params[j]? = some t → args[j]? = some v → Value.okWide C.prog W .any base t v)
  (hW : DataW.Whole enc C.prog fn.params.toList s.vars false W args.toList ds gs before) :
  Calls C.prog f args W fun e W' => ∃ v, e = .returned v ∧ s.post enc C.prog fn false true false false W args v W' := by
 have hW' := hW
 obtain ⟨p, q, hA, hV, rfl, hfz, hnd⟩ := hW
 rw [hvars] at hV
 obtain ⟨rfl, rfl⟩ := trodVars_none hV
 obtain ⟨dy, cs, h1, h2, h3, h4, h5⟩ := args_read (b := base) hA hty hp (fun j t v hj hv => hval j t v (by simpa using hj) (by simpa using hv))
 obtain ⟨x, hx1, hx2⟩ := hx dy h3 h4
 have hc := law_call hR hfn hb hcfg h3 h1 hx1 hx2 htab
 have hargs : (argVals dy cs).toArray = args := by rw [h2]
 rw [hargs] at hc
 refine hc.mono fun e W' ⟨he, bel⟩ => ?_
 refine ⟨_, he, ds, [], _, [], p, [], hW', ?_, ?_, ?_, bel.frame _, fun h => by cases h⟩
 ·rw [hs H (ds ++ []) (by simp [h5, hn]), hrt]
  exact trodAll_mk1 (shut_bool hut _)
 ·rw [hs H (ds ++ []) (by simp [h5, hn])]
  simp only [List.append_nil]
  exact trodAll_below hl bel hA hr
 ·rw [hvars, hs H (ds ++ []) (by simp [h5, hn])]
  rfl
end Go.Rf

end
section
namespace Go.Rf
set_option linter.unusedSectionVars false
variable [T : Laid]
def lookC : List (Nat × FCfg) → FuncId → FCfg
 | [], _ => ⟨[], 0, .unit, .sh, [], []⟩
 | (n, c) :: l, f => cond (Nat.beq n f) c (lookC l f)
def namesB (P : Program) : Bool := P.funcs.toList.all fun fn => !(fn.name == "runtime.NumGoroutine")
theorem namesOK_of {P : Program} (h : namesB P = true) : NamesOK P := fun f fn hf => by
 have := List.all_eq_true.1 h fn (by
  obtain ⟨hi, e⟩ := Array.getElem?_eq_some_iff.1 hf
  rw [← e]; exact Array.mem_toList_iff.2 (Array.getElem_mem hi))
 simpa using this
def callVB (E : Env) (R : Run E) (v : FnVal) (ds : List Dyn) : Option Bool := callV E R v ds .bool
def callVI (E : Env) (R : Run E) (v : FnVal) (ds : List Dyn) : Option Int := callV E R v ds (.int .i64)
def okPath : Code → List Nat → Bool
 | .loop (.loop _), [] => false
 | .loop _, [] => true
 | .seq a _, 0 :: p => okPath a p
 | .seq _ b, 1 :: p => okPath b p
 | .cond _ a _, 0 :: p => okPath a p
 | .cond _ _ b, 1 :: p => okPath b p
 | .block _ b, 0 :: p => okPath b p
 | .loop b, 0 :: p => okPath b p
 | _, _ => false
section
variable {E : Env} {X : (f : FuncId) → Option (List Dyn → Option (E.cfg f).rt.D)} {ρ : Type} {f : FuncId}
theorem opsK_then {R : Run E} {ρ' : Type} {mv : List Nat} {all : List Oper} {draw : Bool} {κ1 : List Slot → Option ρ} {κ2 : ρ → Option ρ'} : ∀ {os : List Oper} {i : Nat} {l : List Slot} {acc : List Rec},
  opsK E R mv all draw os i l acc (fun l => (κ1 l).bind κ2) = (opsK E R mv all draw os i l acc κ1).bind κ2
 | [], i, l, acc => by
  unfold opsK
  split
  ·split <;> rfl
  ·rfl
 | o :: os, i, l, acc => by
  have hgo : ∀ {gs : List Nat} {l : List Slot}, opK E R (mv.any (Nat.beq i ·)) (viewOf l (fpOf o l)) o (fun us => opsK E R mv all draw os (i + 1) (upsL l us) (acc ++ [(recOf (mv.any (Nat.beq i ·)) gs l o us : Rec)]) (fun l => (κ1 l).bind κ2)) =
    (opK E R (mv.any (Nat.beq i ·)) (viewOf l (fpOf o l)) o (fun us => opsK E R mv all draw os (i + 1) (upsL l us) (acc ++ [(recOf (mv.any (Nat.beq i ·)) gs l o us : Rec)]) κ1)).bind κ2 := fun {gs l} => by
   have e1 := opK_bind (E := E) (R := R) (mv := mv.any (Nat.beq i ·)) (g := viewOf l (fpOf o l)) (o := o) (κ := fun us => opsK E R mv all draw os (i + 1) (upsL l us) (acc ++ [(recOf (mv.any (Nat.beq i ·)) gs l o us : Rec)]) κ1)
   rw [opK_bind, e1, Option.bind_assoc]
   congr
   funext us
   exact opsK_then
  have hskip : ∀ {gs : List Nat} {l : List Slot}, (match o.dst with
    | some d => opsK E R mv all draw os (i + 1) (upL l (.put d .und)) (acc ++ [(⟨gs, [d], [], [d], [], [d]⟩ : Rec)]) (fun l => (κ1 l).bind κ2)
    | none => opsK E R mv all draw os (i + 1) l (acc ++ [(⟨gs, [], [], [], [], []⟩ : Rec)]) (fun l => (κ1 l).bind κ2)) =
    (match o.dst with
    | some d => opsK E R mv all draw os (i + 1) (upL l (.put d .und)) (acc ++ [(⟨gs, [d], [], [d], [], [d]⟩ : Rec)]) κ1
    | none => opsK E R mv all draw os (i + 1) l (acc ++ [(⟨gs, [], [], [], [], []⟩ : Rec)]) κ1).bind κ2 := fun {gs l} => by
   cases hd : o.dst with
   | some d => exact opsK_then
   | none => exact opsK_then
  unfold opsK
  simp only
  split
  ·exact hgo
  ·split
   ·rfl
   ·split
    ·rename_i t hv
     cases t with
     | true =>
      simp only [cond_true]
      split
      ·exact hgo
      ·exact hskip
     | false =>
      simp only [cond_false]
      split
      ·exact hskip
      ·exact hgo
    ·exact hskip
    ·rfl
theorem evB_then {R : Run E} {L : Loops} {ρ' : Type} {κ2 : ρ → Option ρ'} (hu : unkOK (E.cfg f).keep = false) : ∀ {c : Code} {σ : List SV} {κ1 : Out → Option ρ}, evB E R L f c σ (fun o => (κ1 o).bind κ2) = (evB E R L f c σ κ1).bind κ2
 | .skip, _, _ => rfl
 | .exit _, _, _ => rfl
 | .ret, _, _ => rfl
 | .region id ops draw, σ, κ1 => by
  simp only [evB, opsS_eq]
  exact opsK_then (κ1 := fun l => κ1 ⟨.nm, scrub (E.cfg f).keep l l 0⟩)
 | .seq a b, σ, κ1 => by
  simp only [evB]
  rw [← evB_then hu (c := a)]
  congr
  funext o
  obtain ⟨e, σ'⟩ := o
  cases e with
  | nm => exact evB_then hu
  | ex id => rfl
  | ret => rfl
 | .block id b, σ, κ1 => by
  simp only [evB]
  rw [← evB_then hu (c := b)]
  congr
  funext o
  obtain ⟨e, σ'⟩ := o
  cases e with
  | ex j => simp only [kblock]; split <;> rfl
  | nm => rfl
  | ret => rfl
 | .loop b, σ, κ1 => by
  simp only [evB, loopK]
  rw [Option.bind_assoc]
 | .cond c a b, σ, κ1 => by
  simp only [evB]
  split
  ·split
   ·rename_i x hx
    cases x with
    | true => simp only [cond_true]; exact evB_then hu
    | false => simp only [cond_false]; exact evB_then hu
   ·simp only [hu, Bool.false_eq_true, if_false]; rfl
   ·rfl
  ·rename_i x
   cases x with
   | true => simp only [cond_true]; exact evB_then hu
   | false => simp only [cond_false]; exact evB_then hu
  ·rfl
 | .rangeFunc _ _ _ _, _, _ | .scope _, _, _ | .label _, _, _ | .goto _, _, _ | .refuse _, _, _ => rfl
theorem loopK_round (hu : unkOK (E.cfg f).keep = false) {b : Code} {σ : List SV} {κ : Out → Option ρ} : loopK (lps X) f b σ κ = evB E (run X) (lps X) f b σ (kloop E (lps X) f b κ) := by
 unfold loopK
 rw [lps_eq, nextL_eq, ← evB_then hu]
 congr
 funext o
 obtain ⟨e, σ'⟩ := o
 cases e <;> rfl
theorem from_loop_go (hu : unkOK (E.cfg f).keep = false) : ∀ {c : Code} {p : List Nat} {σ : List SV} {κ : Out → Option ρ}, okPath c p = true →
  atLoop E (run X) (lps X) f (sub c p) σ (kontAt E (run X) (lps X) f c p κ) = atLoop E (run X) (lps X) f (sub c (p ++ [0])) σ (kontAt E (run X) (lps X) f c (p ++ [0]) κ)
 | .loop b, [], σ, κ, h => by
  have e : ∀ κ' : Out → Option ρ, atLoop E (run X) (lps X) f b σ κ' = evB E (run X) (lps X) f b σ κ' := fun κ' => by
   cases b <;> first | rfl | simp [okPath] at h
  simp only [sub, List.nil_append, kontAt]
  rw [e]
  exact loopK_round hu
 | .seq a _, 0 :: p, σ, κ, h => by simp only [okPath] at h; simp only [sub, kontAt, List.cons_append]; exact from_loop_go hu h
 | .seq _ b, 1 :: p, σ, κ, h => by simp only [okPath] at h; simp only [sub, kontAt, List.cons_append]; exact from_loop_go hu h
 | .cond _ a _, 0 :: p, σ, κ, h => by simp only [okPath] at h; simp only [sub, kontAt, List.cons_append]; exact from_loop_go hu h
 | .cond _ _ b, 1 :: p, σ, κ, h => by simp only [okPath] at h; simp only [sub, kontAt, List.cons_append]; exact from_loop_go hu h
 | .block _ b, 0 :: p, σ, κ, h => by simp only [okPath] at h; simp only [sub, kontAt, List.cons_append]; exact from_loop_go hu h
 | .loop b, 0 :: p, σ, κ, h => by simp only [okPath] at h; simp only [sub, kontAt, List.cons_append]; exact from_loop_go hu h
 | .skip, _, _, _, h | .region _ _ _, _, _, _, h | .exit _, _, _, _, h | .ret, _, _, _, h | .rangeFunc _ _ _ _, _, _, _, h | .scope _, _, _, _, h | .label _, _, _, _, h | .goto _, _, _, _, h | .refuse _, _, _, _, h => by simp [okPath] at h
 | .seq _ _, [], _, _, h | .cond _ _ _, [], _, _, h | .block _ _, [], _, _, h => by simp [okPath] at h
 | .seq _ _, (_ + 2) :: _, _, _, h | .cond _ _ _, (_ + 2) :: _, _, _, h | .block _ _, (_ + 1) :: _, _, _, h | .loop _, (_ + 1) :: _, _, _, h => by simp [okPath] at h
theorem from_loop {fn : Func} {p : List Nat} {σ : List SV} (h : (okPath (codeOf fn) p && !unkOK (E.cfg f).keep) = true) : from_ E (run X) (lps X) f fn p σ = from_ E (run X) (lps X) f fn (p ++ [0]) σ := by
 rw [Bool.and_eq_true, Bool.not_eq_true'] at h
 exact from_loop_go h.2 h.1
end
end Go.Rf

end
section
namespace Go.Rf
set_option linter.unusedSectionVars false
variable [T : Laid]
theorem nn (i : Nat) : nonneg (i : Int) = true := by simp [nonneg]
theorem tn (i : Nat) : Int.toNat (i : Int) = i := Int.toNat_natCast i
theorem blt_t {i n : Nat} (h : i < n) : Nat.blt i n = true := by simpa [Nat.blt_eq] using h
theorem lt_t {i n : Nat} (h : i < n) : decide ((i : Int) < (n : Int)) = true := by simpa using h
theorem lt_f {i n : Nat} (h : n ≤ i) : decide ((i : Int) < (n : Int)) = false := by simpa using h
theorem wrap_id {n : Int} (h1 : -9223372036854775808 ≤ n) (h2 : n ≤ 9223372036854775807) : IntKind.wrap .i64 n = n := by
 have e : ∀ m : Int, (if (IntKind.i64.signed && decide (m ≥ (2 ^ (IntKind.i64.bits - 1) : Int))) = true then m - (2 ^ IntKind.i64.bits : Int) else m) = if (9223372036854775808 : Int) ≤ m then m - 18446744073709551616 else m := fun m => by
  by_cases h : (9223372036854775808 : Int) ≤ m
  ·rw [if_pos h, if_pos]
   ·rfl
   ·show (true && decide (m ≥ (9223372036854775808 : Int))) = true
    simpa using h
  ·rw [if_neg h, if_neg]
   show ¬ (true && decide (m ≥ (9223372036854775808 : Int))) = true
   simpa using h
 unfold IntKind.wrap
 refine (e _).trans ?_
 show (if (9223372036854775808 : Int) ≤ n % 18446744073709551616 then n % 18446744073709551616 - 18446744073709551616 else n % 18446744073709551616) = n
 split <;> omega
theorem wrap_succ {i : Nat} (h : i < 9223372036854775807) : IntKind.wrap .i64 ((i : Int) + 1) = ((i + 1 : Nat) : Int) := by
 rw [wrap_id (by omega) (by omega)]; omega
theorem eqI_iff {a b : Int} : eqI a b = decide (a = b) := rfl
theorem eqS_iff {a b : List UInt8} : eqS a b = decide (a = b) := rfl
theorem leI_self (a : Int) : leI a a = true := by simp [leI]
theorem lenOK_t {n : Nat} (h : n ≤ 1099511627776) : lenOK n = true := by simpa [lenOK, Nat.ble_eq] using h
theorem getD_mem {α : Type} {l : List α} {i : Nat} {d : α} (h : i < l.length) : l.getD i d ∈ l := by
 rw [List.getD_eq_getElem?_getD, List.getElem?_eq_getElem h]; exact List.getElem_mem h
theorem drop_getD {α : Type} {l : List α} {i : Nat} {d : α} (h : i < l.length) : l.drop i = l.getD i d :: l.drop (i + 1) := by
 rw [List.getD_eq_getElem?_getD, List.getElem?_eq_getElem h, List.drop_eq_getElem_cons h]; rfl
theorem fine_mem {t : Ty} {x : List t.D} (h : Fine (.sl t) x) : ∀ s ∈ x, Fine t s := fun s hs => by
 obtain ⟨i, hi, e⟩ := List.mem_iff_getElem.1 hs
 refine h.2 i s ?_
 show x[i]? = some s
 rw [List.getElem?_eq_getElem hi, e]
theorem getD_eq {α : Type} {l : List α} {i : Nat} {d : α} {x : α} (h : l[i]? = some x) : l.getD i d = x := by
 rw [List.getD_eq_getElem?_getD, h]; rfl
theorem written {α : Type} {a b : List α} {i : Nat} (hl : b.length = a.length) (h : ∀ j, j < i → b[j]? = a[j]?) (hi : a.length ≤ i) : b = a := by
 apply List.ext_getElem?
 intro j
 rcases Nat.lt_or_ge j i with hj | hj
 ·exact h j hj
 ·rw [List.getElem?_eq_none (by omega), List.getElem?_eq_none (by omega)]
theorem written_next {α : Type} {a b : List α} {i : Nat} {d : α} (hl : b.length = a.length) (hi : i < a.length) (h : ∀ j, j < i → b[j]? = a[j]?) : ∀ j, j < i + 1 → (b.set i (a.getD i d))[j]? = a[j]? := fun j hj => by
 rw [List.getElem?_set]
 by_cases e : i = j
 ·subst e
  rw [if_pos rfl, if_pos (by omega), List.getD_eq_getElem?_getD, List.getElem?_eq_getElem hi]; rfl
 ·rw [if_neg e]; exact h j (by omega)
end Go.Rf

end
section
namespace Go.Rf
set_option linter.unusedSectionVars false
variable [T : Laid]
def cnt : (t : Ty) → t.D → Nat
 | .str, x => List.length x
 | .sl t, x => List.length x + (List.map (cnt t) x).sum
 | .pair a b, x => cnt a x.1 + cnt b x.2
 | _, _ => 0
def szF (c : Nat) (l : Int) : Int := if (c : Int) ≤ l then l - c else -1
theorem szF_t {c : Nat} {l : Int} (h : (c : Int) ≤ l) : szF c l = l - c := if_pos h
theorem szF_f {c : Nat} {l : Int} (h : l < (c : Int)) : szF c l = -1 := if_neg (by omega)
theorem gen_sz {α : Type} (F : Int → Int → Option (Int × Unit)) (v : List α) (d : α) (f : α → Nat)
  (stop : ∀ l, F l (v.length : Nat) = some (l, ()))
  (step : ∀ (l : Int) (i : Nat), i < v.length → 0 ≤ l → l ≤ 1048576 → F l i = if (f (v.getD i d) : Int) ≤ l then F (l - f (v.getD i d)) ((i + 1 : Nat) : Int) else some (-1, ())) :
  ∀ (n i : Nat) (l : Int), v.length - i = n → i ≤ v.length → 0 ≤ l → l ≤ 1048576 → F l i = some (szF (((v.drop i).map f).sum) l, ())
 | 0, i, l, hn, hi, h0, h1 => by
  have : i = v.length := by omega
  subst this
  rw [stop, List.drop_eq_nil_of_le (Nat.le_refl _)]
  simp [szF, h0]
 | n + 1, i, l, hn, hi, h0, h1 => by
  have hlt : i < v.length := by omega
  rw [step l i hlt h0 h1, drop_getD (d := d) hlt, List.map_cons, List.sum_cons]
  generalize f (v.getD i d) = c
  by_cases h : (c : Int) ≤ l
  ·rw [if_pos h, gen_sz F v d f stop step n (i + 1) (l - c) (by omega) (by omega) (by omega) (by omega)]
   generalize ((v.drop (i + 1)).map f).sum = e
   unfold szF
   by_cases h2 : (e : Int) ≤ l - c
   ·rw [if_pos h2, if_pos (by omega)]; congr 2; omega
   ·rw [if_neg h2, if_neg (by omega)]
  ·rw [if_neg h, szF_f (by omega)]
theorem gen_to {α : Type} (F : List α → Int → Option (List α × Unit)) (v : List α) (d : α)
  (stop : ∀ w, w.length = v.length → F w (v.length : Nat) = some (w, ()))
  (step : ∀ (w : List α) (i : Nat), i < v.length → w.length = v.length → F w i = F (w.set i (v.getD i d)) ((i + 1 : Nat) : Int)) :
  ∀ (n i : Nat) (w : List α), v.length - i = n → i ≤ v.length → w.length = v.length → (∀ j, j < i → w[j]? = v[j]?) → F w i = some (v, ())
 | 0, i, w, hn, hi, hl, hw => by
  have : i = v.length := by omega
  subst this
  rw [stop w hl, written hl hw (Nat.le_refl _)]
 | n + 1, i, w, hn, hi, hl, hw => by
  have hlt : i < v.length := by omega
  rw [step w i hlt hl]
  exact gen_to F v d stop step n (i + 1) _ (by omega) (by omega) (by simpa using hl) (written_next hl hlt hw)
theorem gen_eq {α : Type} (F : Int → Option (Bool × Unit)) (v : List α)
  (stop : F (v.length : Nat) = some (true, ()))
  (step : ∀ (i : Nat), i < v.length → F i = F ((i + 1 : Nat) : Int)) :
  ∀ (n i : Nat), v.length - i = n → i ≤ v.length → F i = some (true, ())
 | 0, i, hn, hi => by
  have : i = v.length := by omega
  subst this
  exact stop
 | n + 1, i, hn, hi => by
  rw [step i (by omega)]
  exact gen_eq F v stop step n (i + 1) (by omega) (by omega)
def mapM {α : Type} (f : α → Nat → α × Nat) : List α → Nat → List α × Nat
 | [], k => ([], k)
 | x :: xs, k => ((f x k).1 :: (mapM f xs (f x k).2).1, (mapM f xs (f x k).2).2)
def mk_ (mt : Nat → List UInt8) : Bool → (t : Ty) → t.D → Nat → t.D × Nat
 | true, .int _, _, k => ((k : Int), k + 1)
 | true, .str, _, k => (mt k, k + 1)
 | _, .sl t, x, k => mapM (mk_ mt true t) x k
 | c, .pair a b, x, k => (((mk_ mt c a x.1 k).1, (mk_ mt c b x.2 (mk_ mt c a x.1 k).2).1), (mk_ mt c b x.2 (mk_ mt c a x.1 k).2).2)
 | _, _, x, k => (x, k)
def nmk : Bool → (t : Ty) → t.D → Nat
 | true, .int _, _ => 1
 | true, .str, _ => 1
 | _, .sl t, x => (List.map (nmk true t) x).sum
 | c, .pair a b, x => nmk c a x.1 + nmk c b x.2
 | _, _, _ => 0
theorem mapM_snd {α : Type} {f : α → Nat → α × Nat} {m : α → Nat} (h : ∀ x k, (f x k).2 = k + m x) : ∀ (l : List α) (k : Nat), (mapM f l k).2 = k + (l.map m).sum
 | [], k => rfl
 | x :: xs, k => by
  show (mapM f xs (f x k).2).2 = _
  rw [mapM_snd h xs, h, List.map_cons, List.sum_cons]; omega
theorem mk_snd (mt : Nat → List UInt8) : ∀ (c : Bool) (t : Ty) (x : t.D) (k : Nat), (mk_ mt c t x k).2 = k + nmk c t x
 | true, .int _, _, _ => rfl
 | true, .str, _, _ => rfl
 | true, .sl t, x, k => mapM_snd (mk_snd mt true t) x k
 | false, .sl t, x, k => mapM_snd (mk_snd mt true t) x k
 | c, .pair a b, x, k => by
  have e : (mk_ mt c (.pair a b) x k).2 = (mk_ mt c b x.2 (mk_ mt c a x.1 k).2).2 := by cases c <;> rfl
  have e' : nmk c (.pair a b) x = nmk c a x.1 + nmk c b x.2 := by cases c <;> rfl
  rw [e, e', mk_snd mt c b, mk_snd mt c a]; omega
 | true, .bool, _, _ => rfl
 | true, .fn, _, _ => rfl
 | true, .unit, _, _ => rfl
 | true, .ptr _, _, _ => rfl
 | true, .arr _ _, _, _ => rfl
 | false, .int _, _, _ => rfl
 | false, .str, _, _ => rfl
 | false, .bool, _, _ => rfl
 | false, .fn, _, _ => rfl
 | false, .unit, _, _ => rfl
 | false, .ptr _, _, _ => rfl
 | false, .arr _ _, _, _ => rfl
def hl_ {α : Type} (f : α → Nat → Option Nat) : List α → Nat → Option Nat
 | [], k => some k
 | x :: xs, k => (f x k).bind fun k => hl_ f xs k
def hd_ (mt : Nat → List UInt8) : Bool → (t : Ty) → t.D → Nat → Option Nat
 | true, .int _, x, k => cond (eqI x (k : Int)) (some (k + 1)) none
 | true, .str, x, k => cond (eqS x (mt k)) (some (k + 1)) none
 | _, .sl t, x, k => hl_ (hd_ mt true t) x k
 | c, .pair a b, x, k => (hd_ mt c a x.1 k).bind fun k => hd_ mt c b x.2 k
 | _, _, _, k => some k
theorem hl_map {α : Type} {f : α → Nat → α × Nat} {g : α → Nat → Option Nat} (h : ∀ x k, g (f x k).1 k = some (f x k).2) : ∀ (l : List α) (k : Nat), hl_ g (mapM f l k).1 k = some (mapM f l k).2
 | [], k => rfl
 | x :: xs, k => by
  show (g (f x k).1 k).bind _ = _
  rw [h x k]
  exact hl_map h xs _
theorem hd_mk (mt : Nat → List UInt8) : ∀ (c : Bool) (t : Ty) (x : t.D) (k : Nat), hd_ mt c t (mk_ mt c t x k).1 k = some (mk_ mt c t x k).2
 | true, .int _, _, k => by
  show cond (eqI (k : Int) (k : Int)) (some (k + 1)) none = some (k + 1)
  simp [eqI]
 | true, .str, _, k => by
  show cond (eqS (mt k) (mt k)) (some (k + 1)) none = some (k + 1)
  simp [eqS]
 | true, .sl t, x, k => hl_map (hd_mk mt true t) x k
 | false, .sl t, x, k => hl_map (hd_mk mt true t) x k
 | c, .pair a b, x, k => by
  have e : hd_ mt c (.pair a b) (mk_ mt c (.pair a b) x k).1 k = (hd_ mt c a (mk_ mt c a x.1 k).1 k).bind fun k' => hd_ mt c b (mk_ mt c b x.2 (mk_ mt c a x.1 k).2).1 k' := by cases c <;> rfl
  rw [e, hd_mk mt c a]
  show hd_ mt c b _ _ = _
  rw [hd_mk mt c b]
  cases c <;> rfl
 | true, .bool, _, _ => rfl
 | true, .fn, _, _ => rfl
 | true, .unit, _, _ => rfl
 | true, .ptr _, _, _ => rfl
 | true, .arr _ _, _, _ => rfl
 | false, .int _, _, _ => rfl
 | false, .str, _, _ => rfl
 | false, .bool, _, _ => rfl
 | false, .fn, _, _ => rfl
 | false, .unit, _, _ => rfl
 | false, .ptr _, _, _ => rfl
 | false, .arr _ _, _, _ => rfl
theorem set_take {α : Type} {l : List α} {i : Nat} {a : α} (h : i < l.length) : (l.set i a).take (i + 1) = l.take i ++ [a] := by
 rw [List.take_add_one, List.take_set_of_le (Nat.le_refl _), List.getElem?_set]
 simp [h]
theorem gen_mark {α : Type} (F : List α → Int → Int → Option (Int × (List α × Unit))) (len : Nat) (d : α) (g : α → Nat → α × Nat) (m : α → Nat) (B : Nat) (hg : ∀ x k, (g x k).2 = k + m x) (Q : α → Prop)
  (stop : ∀ (w : List α) (k : Int), w.length = len → F w k (len : Nat) = some (k, (w, ())))
  (step : ∀ (w : List α) (k i : Nat), w.length = len → i < len → k + m (w.getD i d) ≤ B → Q (w.getD i d) → F w k i = F (w.set i (g (w.getD i d) k).1) ((g (w.getD i d) k).2 : Nat) ((i + 1 : Nat) : Int)) :
  ∀ (n i : Nat) (w : List α) (k : Nat), len - i = n → i ≤ len → w.length = len → k + ((w.drop i).map m).sum ≤ B → (∀ y ∈ w.drop i, Q y) →
   F w k i = some ((((mapM g (w.drop i) k).2 : Nat) : Int), (w.take i ++ (mapM g (w.drop i) k).1, ()))
 | 0, i, w, k, hn, hi, hl, hb, hQ => by
  have : i = len := by omega
  subst this
  rw [stop w k hl, List.drop_eq_nil_of_le (by omega), List.take_of_length_le (by omega)]
  simp [mapM]
 | n + 1, i, w, k, hn, hi, hl, hb, hQ => by
  have hlt : i < w.length := by omega
  rw [drop_getD (d := d) hlt] at hQ
  rw [drop_getD (d := d) hlt, List.map_cons, List.sum_cons] at hb
  rw [step w k i hl (by omega) (by omega) (hQ _ (List.mem_cons_self ..))]
  have e : (w.set i (g (w.getD i d) k).1).drop (i + 1) = w.drop (i + 1) := by
   rw [List.drop_set_of_lt (by omega)]
  rw [gen_mark F len d g m B hg Q stop step n (i + 1) _ _ (by omega) (by omega) (by simpa using hl) (by rw [e, hg]; omega) (by rw [e]; exact fun y hy => hQ y (List.mem_cons_of_mem _ hy)), e, drop_getD (d := d) hlt, set_take hlt]
  simp [mapM]
theorem gen_held {α : Type} (F : Int → Int → Option (Int × Unit)) (v : List α) (d : α) (g : α → Nat → Option Nat) (m : α → Nat) (B : Nat) (hg : ∀ x k k', g x k = some k' → k' = k + m x)
  (stop : ∀ k, F k (v.length : Nat) = some (k, ()))
  (step : ∀ (k i k' : Nat), i < v.length → g (v.getD i d) k = some k' → k' ≤ B → F k i = F k' ((i + 1 : Nat) : Int)) :
  ∀ (n i k k' : Nat), v.length - i = n → i ≤ v.length → k' ≤ B → hl_ g (v.drop i) k = some k' → F k i = some ((k' : Int), ())
 | 0, i, k, k', hn, hi, hb, hh => by
  have : i = v.length := by omega
  subst this
  rw [List.drop_eq_nil_of_le (by omega)] at hh
  rw [stop]
  cases hh; rfl
 | n + 1, i, k, k', hn, hi, hb, hh => by
  have hlt : i < v.length := by omega
  rw [drop_getD (d := d) hlt] at hh
  obtain ⟨k1, h1, h2⟩ := Option.bind_eq_some_iff.1 hh
  have hle : k1 ≤ k' := by
   clear hh h1 hn stop step hb hlt hi
   generalize v.drop (i + 1) = l at h2
   induction l generalizing k1 with
   | nil => cases h2; exact Nat.le_refl _
   | cons x xs ih =>
    obtain ⟨k2, h3, h4⟩ := Option.bind_eq_some_iff.1 h2
    have := hg _ _ _ h3
    have := ih k2 h4
    omega
  rw [step k i k1 hlt h1 (by omega)]
  exact gen_held F v d g m B hg stop step n (i + 1) k1 k' (by omega) (by omega) hb h2
theorem hl_len {α : Type} {g : α → Nat → Option Nat} {m : α → Nat} (h : ∀ x k k', g x k = some k' → k' = k + m x) : ∀ (l : List α) (k k' : Nat), hl_ g l k = some k' → k' = k + (l.map m).sum
 | [], k, k', e => by cases e; rfl
 | x :: xs, k, k', e => by
  obtain ⟨k1, h1, h2⟩ := Option.bind_eq_some_iff.1 e
  have := h _ _ _ h1
  have := hl_len h xs k1 k' h2
  rw [List.map_cons, List.sum_cons]; omega
theorem hd_len (mt : Nat → List UInt8) : ∀ (c : Bool) (t : Ty) (x : t.D) (k k' : Nat), hd_ mt c t x k = some k' → k' = k + nmk c t x
 | true, .int _, x, k, k', h => by
  have h : cond (eqI x (k : Int)) (some (k + 1)) none = some k' := h
  show k' = k + 1
  cases hc : eqI x (k : Int) <;> rw [hc] at h <;> cases h
  rfl
 | true, .str, x, k, k', h => by
  have h : cond (eqS x (mt k)) (some (k + 1)) none = some k' := h
  show k' = k + 1
  cases hc : eqS x (mt k) <;> rw [hc] at h <;> cases h
  rfl
 | true, .sl t, x, k, k', h => hl_len (hd_len mt true t) x k k' h
 | false, .sl t, x, k, k', h => hl_len (hd_len mt true t) x k k' h
 | c, .pair a b, x, k, k', h => by
  have e : hd_ mt c (.pair a b) x k = (hd_ mt c a x.1 k).bind fun k => hd_ mt c b x.2 k := by cases c <;> rfl
  have e' : nmk c (.pair a b) x = nmk c a x.1 + nmk c b x.2 := by cases c <;> rfl
  rw [e] at h
  obtain ⟨k1, h1, h2⟩ := Option.bind_eq_some_iff.1 h
  have := hd_len mt c a _ _ _ h1
  have := hd_len mt c b _ _ _ h2
  omega
 | true, .bool, _, _, _, h => by cases h; rfl
 | true, .fn, _, _, _, h => by cases h; rfl
 | true, .unit, _, _, _, h => by cases h; rfl
 | true, .ptr _, _, _, _, h => by cases h; rfl
 | true, .arr _ _, _, _, _, h => by cases h; rfl
 | false, .int _, _, _, _, h => by cases h; rfl
 | false, .str, _, _, _, h => by cases h; rfl
 | false, .bool, _, _, _, h => by cases h; rfl
 | false, .fn, _, _, _, h => by cases h; rfl
 | false, .unit, _, _, _, h => by cases h; rfl
 | false, .ptr _, _, _, _, h => by cases h; rfl
 | false, .arr _ _, _, _, _, h => by cases h; rfl
def fields : Ty → Nat
 | .int _ => 1
 | .str => 1
 | .pair a b => fields a + fields b
 | _ => 0
def wide : Ty → Nat
 | .sl t => max (fields t) (wide t)
 | .pair a b => max (wide a) (wide b)
 | _ => 0
theorem sum_le {α : Type} {f g : α → Nat} {B C : Nat} : ∀ (l : List α), (∀ x, f x ≤ C + B * g x) → C ≤ B → (l.map f).sum ≤ B * (l.length + (l.map g).sum)
 | [], _, _ => by simp
 | x :: xs, h, hc => by
  have h1 := h x
  have h2 := sum_le xs h hc
  simp only [List.map_cons, List.sum_cons, List.length_cons]
  have : B * (xs.length + 1 + (g x + (xs.map g).sum)) = B + B * g x + B * (xs.length + (xs.map g).sum) := by
   simp only [Nat.mul_add]; omega
  omega
theorem nmk_le (B : Nat) : ∀ (c : Bool) (t : Ty) (x : t.D), wide t ≤ B → nmk c t x ≤ (if c then fields t else 0) + B * cnt t x
 | true, .int _, _, _ => by show 1 ≤ 1 + _; omega
 | true, .str, _, _ => by show 1 ≤ 1 + _; omega
 | true, .sl t, x, h => by
  have h : max (fields t) (wide t) ≤ B := h
  have := sum_le (f := nmk true t) (g := cnt t) x (fun y => nmk_le B true t y (by omega)) (B := B) (C := fields t) (by omega)
  show (List.map (nmk true t) x).sum ≤ 0 + B * (List.length x + (List.map (cnt t) x).sum)
  omega
 | false, .sl t, x, h => by
  have h : max (fields t) (wide t) ≤ B := h
  have := sum_le (f := nmk true t) (g := cnt t) x (fun y => nmk_le B true t y (by omega)) (B := B) (C := fields t) (by omega)
  show (List.map (nmk true t) x).sum ≤ 0 + B * (List.length x + (List.map (cnt t) x).sum)
  omega
 | c, .pair a b, x, h => by
  have h : max (wide a) (wide b) ≤ B := h
  have h1 := nmk_le B c a x.1 (by omega)
  have h2 := nmk_le B c b x.2 (by omega)
  have e' : nmk c (.pair a b) x = nmk c a x.1 + nmk c b x.2 := by cases c <;> rfl
  have e : cnt (.pair a b) x = cnt a x.1 + cnt b x.2 := rfl
  have e2 : fields (.pair a b) = fields a + fields b := rfl
  rw [e', e, e2, Nat.mul_add]
  cases c
  ·simp only [if_neg (show ¬ (false = true) by decide)] at *; omega
  ·simp only [if_true] at *; omega
 | true, .bool, _, _ => Nat.zero_le _
 | true, .fn, _, _ => Nat.zero_le _
 | true, .unit, _, _ => Nat.zero_le _
 | true, .ptr _, _, _ => Nat.zero_le _
 | true, .arr _ _, _, _ => Nat.zero_le _
 | false, .int _, _, _ => Nat.zero_le _
 | false, .str, _, _ => Nat.zero_le _
 | false, .bool, _, _ => Nat.zero_le _
 | false, .fn, _, _ => Nat.zero_le _
 | false, .unit, _, _ => Nat.zero_le _
 | false, .ptr _, _, _ => Nat.zero_le _
 | false, .arr _ _, _, _ => Nat.zero_le _
def lens : (t : Ty) → t.D → Nat
 | .sl t, x => List.length x + (List.map (lens t) x).sum
 | .pair a b, x => lens a x.1 + lens b x.2
 | _, _ => 0
theorem sum_le2 {α : Type} {f g : α → Nat} : ∀ (l : List α), (∀ x, f x ≤ g x) → (l.map f).sum ≤ (l.map g).sum
 | [], _ => Nat.le_refl _
 | x :: xs, h => by
  have := h x
  have := sum_le2 xs h
  simp only [List.map_cons, List.sum_cons]; omega
theorem lens_cnt : ∀ (t : Ty) (x : t.D), lens t x ≤ cnt t x
 | .sl t, x => by
  have := sum_le2 (f := lens t) (g := cnt t) x (lens_cnt t)
  show List.length x + _ ≤ List.length x + _
  omega
 | .pair a b, x => by
  have := lens_cnt a x.1
  have := lens_cnt b x.2
  show lens a x.1 + lens b x.2 ≤ cnt a x.1 + cnt b x.2
  omega
 | .int _, _ => Nat.zero_le _
 | .bool, _ => Nat.zero_le _
 | .str, _ => Nat.zero_le _
 | .fn, _ => Nat.zero_le _
 | .unit, _ => Nat.zero_le _
 | .ptr _, _ => Nat.zero_le _
 | .arr _ _, _ => Nat.zero_le _
theorem mapM_lens {α : Type} {f : α → Nat → α × Nat} {m : α → Nat} (h : ∀ x k, m (f x k).1 = m x) : ∀ (l : List α) (k : Nat), (mapM f l k).1.length = l.length ∧ ((mapM f l k).1.map m).sum = (l.map m).sum
 | [], _ => ⟨rfl, rfl⟩
 | x :: xs, k => by
  obtain ⟨h1, h2⟩ := mapM_lens h xs (f x k).2
  refine ⟨congrArg (· + 1) h1, ?_⟩
  show m (f x k).1 + ((mapM f xs (f x k).2).1.map m).sum = _
  rw [h, h2]; rfl
theorem lens_mk (mt : Nat → List UInt8) : ∀ (c : Bool) (t : Ty) (x : t.D) (k : Nat), lens t (mk_ mt c t x k).1 = lens t x
 | true, .sl t, x, k => by
  obtain ⟨h1, h2⟩ := mapM_lens (m := lens t) (lens_mk mt true t) x k
  show List.length (mapM (mk_ mt true t) x k).1 + _ = List.length x + _
  exact (congr (congrArg HAdd.hAdd h1) h2)
 | false, .sl t, x, k => by
  obtain ⟨h1, h2⟩ := mapM_lens (m := lens t) (lens_mk mt true t) x k
  show List.length (mapM (mk_ mt true t) x k).1 + _ = List.length x + _
  exact (congr (congrArg HAdd.hAdd h1) h2)
 | c, .pair a b, x, k => by
  have h1 := lens_mk mt c a x.1 k
  have h2 := lens_mk mt c b x.2 (mk_ mt c a x.1 k).2
  have e : lens (.pair a b) (mk_ mt c (.pair a b) x k).1 = lens a (mk_ mt c a x.1 k).1 + lens b (mk_ mt c b x.2 (mk_ mt c a x.1 k).2).1 := by cases c <;> rfl
  rw [e, h1, h2]; rfl
 | true, .int _, _, _ => rfl
 | true, .str, _, _ => rfl
 | true, .bool, _, _ => rfl
 | true, .fn, _, _ => rfl
 | true, .unit, _, _ => rfl
 | true, .ptr _, _, _ => rfl
 | true, .arr _ _, _, _ => rfl
 | false, .int _, _, _ => rfl
 | false, .str, _, _ => rfl
 | false, .bool, _, _ => rfl
 | false, .fn, _, _ => rfl
 | false, .unit, _, _ => rfl
 | false, .ptr _, _, _ => rfl
 | false, .arr _ _, _, _ => rfl
theorem sum_mem {α : Type} {f : α → Nat} : ∀ {l : List α} {y : α}, y ∈ l → f y ≤ (l.map f).sum
 | x :: xs, y, h => by
  simp only [List.map_cons, List.sum_cons]
  rcases List.mem_cons.1 h with e | e
  ·subst e; omega
  ·have := sum_mem (f := f) e
   omega
theorem cnt_mem {t : Ty} {x : List t.D} {i : Nat} {d : t.D} (h : i < x.length) : cnt t (x.getD i d) ≤ cnt (.sl t) x := by
 have := sum_mem (f := cnt t) (getD_mem (d := d) h)
 show _ ≤ List.length x + (List.map (cnt t) x).sum
 omega
theorem lens_in {t : Ty} {x : List t.D} {y : t.D} (h : y ∈ x) : lens t y ≤ lens (.sl t) x := by
 have := sum_mem (f := lens t) h
 show _ ≤ List.length x + (List.map (lens t) x).sum
 omega
theorem lens_mem {t : Ty} {x : List t.D} {i : Nat} {d : t.D} (h : i < x.length) : lens t (x.getD i d) ≤ lens (.sl t) x := lens_in (getD_mem (d := d) h)
theorem szF_add {a c : Nat} {l : Int} (h : (a : Int) ≤ l) : szF c (l - a) = szF (a + c) l := by
 unfold szF
 by_cases h2 : (c : Int) ≤ l - a
 ·rw [if_pos h2, if_pos (by omega)]; omega
 ·rw [if_neg h2, if_neg (by omega)]
theorem sum_zero {α : Type} {f : α → Nat} : ∀ (l : List α), (∀ x, f x = 0) → (l.map f).sum = 0
 | [], _ => rfl
 | x :: xs, h => by
  simp only [List.map_cons, List.sum_cons]
  rw [h x, sum_zero xs h]
theorem nlt0 (k : Nat) : decide ((k : Int) < 0) = false := decide_eq_false (by omega)
theorem bind_cond {α β : Type} {b : Bool} {a : α} {f : α → Option β} {c : β} (h : (cond b (some a) none).bind f = some c) : b = true ∧ f a = some c := by
 cases b with
 | true => exact ⟨rfl, h⟩
 | false => cases h
theorem cond_none {α : Type} {b : Bool} {a c : α} (h : cond b (some a) none = some c) : b = true ∧ some a = some c := by
 cases b with
 | true => exact ⟨rfl, h⟩
 | false => cases h
def idxF {α : Type} (p : α → Bool) : List α → Nat → Int
 | [], _ => -1
 | x :: xs, i => cond (p x) (i : Int) (idxF p xs (i + 1))
theorem idxF_any {α : Type} (p : α → Bool) : ∀ (l : List α) (i : Nat), decide (0 ≤ idxF p l i) = l.any p
 | [], _ => rfl
 | x :: xs, i => by
  show decide (0 ≤ cond (p x) (i : Int) (idxF p xs (i + 1))) = (p x || xs.any p)
  cases p x with
  | true => exact decide_eq_true (by simp only [cond_true]; omega)
  | false => simp only [cond_false, Bool.false_or]; exact idxF_any p xs (i + 1)
theorem gen_idx {α : Type} (F : Int → Int → Option (Int × Unit)) (v : List α) (d : α) (p : α → Bool)
  (stop : ∀ a, F a (v.length : Nat) = some (-1, ()))
  (step : ∀ (a : Int) (i : Nat), i < v.length → F a i = cond (p (v.getD i d)) (some ((i : Int), ())) (F i ((i + 1 : Nat) : Int))) :
  ∀ (n i : Nat) (a : Int), v.length - i = n → i ≤ v.length → F a i = some (idxF p (v.drop i) i, ())
 | 0, i, a, hn, hi => by
  have : i = v.length := by omega
  subst this
  rw [stop, List.drop_eq_nil_of_le (Nat.le_refl _)]; rfl
 | n + 1, i, a, hn, hi => by
  rw [step a i (by omega), drop_getD (d := d) (by omega), gen_idx F v d p stop step n (i + 1) i (by omega) (by omega)]
  show _ = some (cond (p (v.getD i d)) (i : Int) (idxF p (v.drop (i + 1)) (i + 1)), ())
  cases p (v.getD i d) <;> rfl
theorem all_any {α : Type} (p : α → Bool) (l : List α) : (!l.any fun x => !p x) = l.all p := by
 simp [List.all_eq_not_any_not]
theorem gs {α : Type} {l : List α} {i : Nat} {a d : α} (h : i < l.length) : (l.set i a).getD i d = a := by
 rw [List.getD_eq_getElem?_getD, List.getElem?_set]; simp [h]
theorem ss {α : Type} {l : List α} {i : Nat} {a b : α} : (l.set i a).set i b = l.set i b := List.set_set ..
def plainEq : Ty → Bool
 | .int _ => true
 | .bool => true
 | .str => true
 | .unit => true
 | .pair a b => plainEq a && plainEq b
 | _ => false
noncomputable def eqC {α : Type} (a b : α) : Bool := @decide (a = b) (Classical.propDecidable _)
theorem eqC_t {α : Type} {a b : α} (h : a = b) : eqC a b = true := @decide_eq_true _ (Classical.propDecidable _) h
theorem eqC_f {α : Type} {a b : α} (h : ¬ a = b) : eqC a b = false := @decide_eq_false _ (Classical.propDecidable _) h
theorem eqC_iff {α : Type} {a b : α} : eqC a b = true ↔ a = b := by
 constructor
 ·intro h
  by_cases e : a = b
  ·exact e
  ·rw [eqC_f e] at h; cases h
 ·exact eqC_t
theorem eqC_congr {α γ : Type} {a b : α} {c d : γ} (h : a = b ↔ c = d) : eqC a b = eqC c d := by
 by_cases e : a = b
 ·rw [eqC_t e, eqC_t (h.1 e)]
 ·rw [eqC_f e, eqC_f (fun e' => e (h.2 e'))]
theorem eqC_dec {α : Type} [DecidableEq α] {a b : α} : decide (a = b) = eqC a b := by
 by_cases e : a = b
 ·rw [eqC_t e, decide_eq_true e]
 ·rw [eqC_f e, decide_eq_false e]
theorem eqC_I {a b : Int} : eqI a b = eqC a b := eqC_dec
theorem eqC_S {a b : List UInt8} : eqS a b = eqC a b := eqC_dec
theorem eqC_B {a b : Bool} : eqB a b = eqC a b := by
 by_cases e : a = b
 ·rw [eqC_t e]; subst e; simp [eqB]
 ·rw [eqC_f e]; simp [eqB, e]
theorem eqC_unit {a b : Unit} : eqC a b = true := eqC_t rfl
theorem eqC_pair {α γ : Type} {a b : α × γ} : (eqC a.1 b.1 && eqC a.2 b.2) = eqC a b := by
 rw [Bool.eq_iff_iff, Bool.and_eq_true, eqC_iff, eqC_iff, eqC_iff]
 exact ⟨fun h => Prod.ext h.1 h.2, fun h => ⟨by rw [h], by rw [h]⟩⟩
theorem eqC_cons {α : Type} {a b : α} {as bs : List α} : eqC (a :: as) (b :: bs) = (eqC a b && eqC as bs) := by
 rw [Bool.eq_iff_iff, Bool.and_eq_true, eqC_iff, eqC_iff, eqC_iff]
 exact ⟨fun h => by cases h; exact ⟨rfl, rfl⟩, fun h => by rw [h.1, h.2]⟩
theorem eqD_eqC : ∀ {t : Ty} (h : plainEq t = true) (x y : t.D), eqD t x y = eqC x y
 | .int _, _, x, y => eqC_I
 | .bool, _, x, y => eqC_B
 | .str, _, x, y => eqC_S
 | .unit, _, x, y => (eqC_t (Subsingleton.elim (α := Unit) x y)).symm
 | .pair a b, h, x, y => by
  have h : (plainEq a && plainEq b) = true := h
  rw [Bool.and_eq_true] at h
  show (eqD a x.1 y.1 && eqD b x.2 y.2) = _
  rw [eqD_eqC h.1, eqD_eqC h.2]; exact eqC_pair
 | .fn, h, _, _ => by cases h
 | .sl _, h, _, _ => by cases h
 | .ptr _, h, _, _ => by cases h
 | .arr _ _, h, _, _ => by cases h
theorem gen_eq2 {α β : Type} (F : β → Int → Option (Bool × Unit)) (nx : Nat → β) (x y : List α) (d : α) (q : α → α → Bool) (hq : ∀ a b, q a b = eqC a b) (hl : x.length = y.length)
  (stop : ∀ s, F s (x.length : Nat) = some (true, ()))
  (step : ∀ (s : β) (i : Nat), i < x.length → F s i = cond (q (x.getD i d) (y.getD i d)) (F (nx i) ((i + 1 : Nat) : Int)) (some (false, ()))) :
  ∀ (n i : Nat) (s : β), x.length - i = n → i ≤ x.length → F s i = some (eqC (x.drop i) (y.drop i), ())
 | 0, i, s, hn, hi => by
  have : i = x.length := by omega
  subst this
  rw [stop, List.drop_eq_nil_of_le (Nat.le_refl _), List.drop_eq_nil_of_le (by omega), eqC_t rfl]
 | n + 1, i, s, hn, hi => by
  rw [step s i (by omega), drop_getD (l := x) (d := d) (by omega), drop_getD (l := y) (d := d) (by omega), eqC_cons, hq, gen_eq2 F nx x y d q hq hl stop step n (i + 1) _ (by omega) (by omega)]
  cases eqC (x.getD i d) (y.getD i d) <;> rfl
def all2 {α γ : Type} (p : α → γ → Bool) : List α → List γ → Bool
 | a :: as, b :: bs => p a b && all2 p as bs
 | [], [] => true
 | _, _ => false
theorem gen_all2 {α β γ : Type} (F : β → Int → Option (Bool × Unit)) (nx : Nat → β) (x : List α) (y : List γ) (d : α) (e : γ) (p : α → γ → Bool) (hl : x.length = y.length)
  (stop : ∀ s, F s (x.length : Nat) = some (true, ()))
  (step : ∀ (s : β) (i : Nat), i < x.length → F s i = cond (p (x.getD i d) (y.getD i e)) (F (nx i) ((i + 1 : Nat) : Int)) (some (false, ()))) :
  ∀ (n i : Nat) (s : β), x.length - i = n → i ≤ x.length → F s i = some (all2 p (x.drop i) (y.drop i), ())
 | 0, i, s, hn, hi => by
  have : i = x.length := by omega
  subst this
  rw [stop, List.drop_eq_nil_of_le (Nat.le_refl _), List.drop_eq_nil_of_le (by omega)]; rfl
 | n + 1, i, s, hn, hi => by
  rw [step s i (by omega), drop_getD (l := x) (d := d) (by omega), drop_getD (l := y) (d := e) (by omega), gen_all2 F nx x y d e p hl stop step n (i + 1) _ (by omega) (by omega)]
  show _ = some (p (x.getD i d) (y.getD i e) && _, ())
  cases p (x.getD i d) (y.getD i e) <;> rfl
theorem all2_len {α γ : Type} {p : α → γ → Bool} : ∀ {x : List α} {y : List γ}, ¬ x.length = y.length → all2 p x y = false
 | [], [], h => absurd rfl h
 | [], _ :: _, _ => rfl
 | _ :: _, [], _ => rfl
 | a :: as, b :: bs, h => by
  show (p a b && all2 p as bs) = false
  rw [all2_len (x := as) (y := bs) (by simpa using h), Bool.and_false]
theorem all2_eq {α : Type} {p : α → α → Bool} : ∀ {x y : List α}, (∀ a ∈ x, ∀ b ∈ y, p a b = eqC a b) → all2 p x y = eqC x y
 | [], [], _ => (eqC_t rfl).symm
 | [], _ :: _, _ => (eqC_f (by simp)).symm
 | _ :: _, [], _ => (eqC_f (by simp)).symm
 | a :: as, b :: bs, h => by
  show (p a b && all2 p as bs) = _
  rw [h a (List.mem_cons_self ..) b (List.mem_cons_self ..), all2_eq (fun c hc d hd => h c (List.mem_cons_of_mem _ hc) d (List.mem_cons_of_mem _ hd)), eqC_cons]
theorem eqC_len {α : Type} {x y : List α} (h : ¬ x.length = y.length) : eqC x y = false := eqC_f fun e => h (by rw [e])
theorem eqI_len {n m : Nat} : eqI (n : Int) (m : Int) = decide (n = m) := by
 rw [eqI_iff]; exact decide_eq_decide.2 (by omega)
theorem cond_not {α : Type} (b : Bool) {x y : α} : cond (!b) x y = cond b y x := by cases b <;> rfl
theorem gen_acc {α γ ρ : Type} (F : List γ → Int → Option ρ) (K : List γ → Option ρ) (v : List α) (d : α) (g : α → List γ) (A B : Nat) (hg : ∀ x ∈ v, (g x).length ≤ B)
  (stop : ∀ acc, acc.length ≤ A + B * v.length → F acc (v.length : Nat) = K acc)
  (step : ∀ (acc : List γ) (i : Nat), i < v.length → acc.length ≤ A + B * i → F acc i = F (acc ++ g (v.getD i d)) ((i + 1 : Nat) : Int)) :
  ∀ (n i : Nat) (acc : List γ), v.length - i = n → i ≤ v.length → acc.length ≤ A + B * i → F acc i = K (acc ++ ((v.drop i).map g).flatten)
 | 0, i, acc, hn, hi, ha => by
  have : i = v.length := by omega
  subst this
  rw [stop acc ha, List.drop_eq_nil_of_le (Nat.le_refl _)]; simp
 | n + 1, i, acc, hn, hi, ha => by
  have hlt : i < v.length := by omega
  rw [step acc i hlt ha, gen_acc F K v d g A B hg stop step n (i + 1) _ (by omega) (by omega) (by
   have := hg _ (getD_mem (d := d) hlt)
   rw [List.length_append, Nat.mul_succ]; omega), drop_getD (d := d) hlt]
  simp
theorem flatten_one {α γ : Type} (g : α → γ) : ∀ (l : List α), (l.map fun x => [g x]).flatten = l.map g
 | [] => rfl
 | x :: xs => by simp [flatten_one g xs]
theorem bind_eq {α β : Type} {o : Option α} {a : α} {f : α → Option β} {r : Option β} (h : o = some a) (h2 : f a = r) : o.bind f = r := by rw [h]; exact h2
end Go.Rf

end
