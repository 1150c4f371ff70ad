/- What the program computes, in plain words: part 8. No condition. -/
import Derived.Test.YtcikhcfofnlegaaGreatSut3
set_option linter.unusedVariables false
set_option linter.unusedSimpArgs false
section
namespace Go.Rf.S
set_option maxRecDepth 100000
def txnI (t : D_Txn) : List Int := (t.1.length : Int) :: t.1.flatMap b3
def entI (l : List D_Txn) (ds : List Int) : List Int := (ds ++ [(l.length : Int)]) ++ l.flatMap txnI
def entT (l : List D_Txn) (ds : List Int) : List UInt8 := (fil (entI l ds) 68).flatMap itx
theorem opOK_NN {o : D_Op} (h : opOK o = true) : NN (b3 o) := by
 unfold opOK at h
 simp only [Bool.and_eq_true] at h
 have h1 := inB_bounds h.1
 have h2 := inB_bounds h.2.1
 have h3 : 0 ≤ o.2.2.1 := by
  have h3 := h.2.2
  cases hc : (decide (o.1 = 1) || decide (o.1 = 3)) with
  | true => rw [hc] at h3; simp only [cond_true, decide_eq_true_eq] at h3; omega
  | false =>
   rw [hc] at h3
   simp only [cond_false] at h3
   cases hc2 : decide (o.1 = 6) with
   | true => rw [hc2] at h3; have := inB_bounds h3; omega
   | false => rw [hc2] at h3; have := inB_bounds h3; omega
 intro x hx
 simp only [b3, List.mem_cons, List.not_mem_nil, or_false] at hx
 rcases hx with rfl | rfl | rfl
 ·omega
 ·omega
 ·exact h3
theorem txnOK_b {t : D_Txn} (h : txnOK t = true) : 1 ≤ t.1.length ∧ t.1.length ≤ 4 ∧ ∀ o ∈ t.1, opOK o = true := by
 unfold txnOK at h
 simp only [Bool.and_eq_true] at h
 have h1 := inB_bounds h.1
 exact ⟨by omega, by omega, List.all_eq_true.1 h.2⟩
theorem batchOK_b {l : List D_Txn} (h : batchOK l = true) : 1 ≤ l.length ∧ l.length ≤ 2 ∧ ∀ t ∈ l, txnOK t = true := by
 unfold batchOK at h
 simp only [Bool.and_eq_true] at h
 have h1 := inB_bounds h.1
 exact ⟨by omega, by omega, List.all_eq_true.1 h.2⟩
theorem txnI_len (t : D_Txn) : (txnI t).length = 3 * t.1.length + 1 := by unfold txnI; rw [List.length_cons, b3_len]
theorem txnsI_len {l : List D_Txn} (h : ∀ t ∈ l, t.1.length ≤ 4) : (l.flatMap txnI).length ≤ 13 * l.length := by
 induction l with
 | nil => simp
 | cons a l ih =>
  have := h a (List.mem_cons_self ..)
  have := ih fun t ht => h t (List.mem_cons_of_mem _ ht)
  rw [List.flatMap_cons, List.length_append, txnI_len]; simp only [List.length_cons]; omega
theorem entI_len {l : List D_Txn} {ds : List Int} (h : batchOK l = true) (hd : ds.length = 40) : (entI l ds).length ≤ 67 := by
 obtain ⟨h1, h2, h3⟩ := batchOK_b h
 have := txnsI_len fun t ht => (txnOK_b (h3 t ht)).2.1
 unfold entI
 simp only [List.length_append, List.length_cons, List.length_nil]; omega
theorem entI_NN {l : List D_Txn} {ds : List Int} (h : batchOK l = true) (hd : NN ds) : NN (entI l ds) := by
 obtain ⟨h1, h2, h3⟩ := batchOK_b h
 refine (hd.app fun x hx => ?_).app fun x hx => ?_
 ·rw [List.mem_singleton.1 hx]; omega
 ·obtain ⟨t, ht, hx⟩ := List.mem_flatMap.1 hx
  rcases List.mem_cons.1 hx with rfl | hx
  ·omega
  ·obtain ⟨o, ho, hx⟩ := List.mem_flatMap.1 hx
   exact opOK_NN ((txnOK_b (h3 t ht)).2.2 o ho) x hx
theorem entT_len {l : List D_Txn} {ds : List Int} (h : batchOK l = true) (hd : ds.length = 40) : (entT l ds).length = 272 := by
 unfold entT; rw [ints_len, fil_len (by have := entI_len h hd; omega)]
theorem entry_p {l : List D_Txn} {ds : List Int} (h : batchOK l = true) (hd : ds.length = 40) (hN : NN ds) : c_i_entryText R l ds = some (entT l ds, ()) ∧ c_s_l12Entry R l ds = some (entT l ds, ()) := by
 have hE := entI_len h hd
 obtain ⟨h1, h2, h3⟩ := batchOK_b h
 have hf := fill_p (n := 68) (by decide) (show (entI l ds).length ≤ 68 by omega) (entI_NN h hN)
 have f1 : c_i_textOf R (entI l ds) 68 = _ := hf.1
 have f2 : c_s_l12Fill R (entI l ds) 68 = _ := hf.2
 have hc : ∀ t ∈ l, (txnI t).length ≤ 13 := fun t ht => by rw [txnI_len]; have := (txnOK_b (h3 t ht)).2.1; omega
 constructor
 ·have hh := gen_flat (fun (o : List Int) i => lp_i_entryText_0 R L o l (l.length : Int) i) l ([], ()) txnI (fun o => (c_i_textOf R o 68).bind fun r0 => some (r0.1, ())) (ds ++ [(l.length : Int)]) 13 hc
   (fun o ho => by
    rw [show lp_i_entryText_0 R L o l (l.length : Int) (l.length : Nat) = _ from round (by kernel_rfl) (q_i_entryText_0 R L o l (l.length : Int) (l.length : Nat))]
    simp (disch := omega) only [st, dF])
   (fun o i hi ho hm => by
    simp only [List.length_append, List.length_cons, List.length_nil] at ho
    rw [show lp_i_entryText_0 R L o l (l.length : Int) (i : Nat) = _ from round (by kernel_rfl) (q_i_entryText_0 R L o l (l.length : Int) (i : Nat))]
    simp (disch := omega) only [st, dT]
    have hv := (txnOK_b (h3 _ hm)).2.1
    generalize l.getD i ([], ()) = t at hv
    have hin := gen_flat (fun (o : List Int) k => lp_i_entryText_1 R L o l (l.length : Int) (i : Int) t.1 (t.1.length : Int) k) t.1 (0, (0, (0, ()))) b3 (fun o => lp_i_entryText_0 R L o l (l.length : Int) ((i + 1 : Nat) : Int)) (o ++ [(t.1.length : Int)]) 3 (fun _ _ => Nat.le_refl _)
     (fun o ho => by
      rw [show lp_i_entryText_1 R L o l (l.length : Int) (i : Int) t.1 (t.1.length : Int) (t.1.length : Nat) = _ from round (by kernel_rfl) (q_i_entryText_1 R L o l (l.length : Int) (i : Int) t.1 (t.1.length : Int) (t.1.length : Nat)), wrap_succ (i := i) (by omega)]
      simp (disch := omega) only [st, dF])
     (fun o k hk ho _ => by
      simp only [List.length_append, List.length_cons, List.length_nil] at ho
      rw [show lp_i_entryText_1 R L o l (l.length : Int) (i : Int) t.1 (t.1.length : Int) (k : Nat) = _ from round (by kernel_rfl) (q_i_entryText_1 R L o l (l.length : Int) (i : Int) t.1 (t.1.length : Int) (k : Nat)), wrap_succ (i := k) (by omega)]
      simp (disch := omega) only [st, dT, List.length_cons, List.length_nil]
      rfl)
    refine hin.trans ?_
    rw [List.append_assoc]; rfl)
  rw [show c_i_entryText R l ds = _ from call (q_i_entryText R L l ds), clone_i _ (by omega)]
  simp (disch := omega) only [st]
  refine hh.trans ?_
  show (c_i_textOf R (entI l ds) 68).bind _ = _
  rw [f1]; rfl
 ·have hh := gen_flat (fun (o : List Int) i => lp_s_l12Entry_0 R L l o i) l ([], ()) txnI (fun o => (c_s_l12Fill R o 68).bind fun r0 => some (r0.1, ())) (([] ++ ds) ++ [(l.length : Int)]) 13 hc
   (fun o ho => by
    rw [show lp_s_l12Entry_0 R L l o (l.length : Nat) = _ from round (by kernel_rfl) (q_s_l12Entry_0 R L l o (l.length : Nat))]
    simp (disch := omega) only [st, dF])
   (fun o i hi ho hm => by
    simp only [List.length_append, List.length_cons, List.length_nil] at ho
    rw [show lp_s_l12Entry_0 R L l o (i : Nat) = _ from round (by kernel_rfl) (q_s_l12Entry_0 R L l o (i : Nat))]
    simp (disch := omega) only [st, dT]
    have hv := (txnOK_b (h3 _ hm)).2.1
    have hin := gen_flat (fun (o : List Int) k => lp_s_l12Entry_1 R L l o (i : Int) k) (l.getD i ([], ())).1 (0, (0, (0, ()))) b3 (fun o => lp_s_l12Entry_0 R L l o ((i + 1 : Nat) : Int)) (o ++ [((l.getD i ([], ())).1.length : Int)]) 3 (fun _ _ => Nat.le_refl _)
     (fun o ho => by
      rw [show lp_s_l12Entry_1 R L l o (i : Int) ((l.getD i ([], ())).1.length : Nat) = _ from round (by kernel_rfl) (q_s_l12Entry_1 R L l o (i : Int) ((l.getD i ([], ())).1.length : Nat)), wrap_succ (i := i) (by omega)]
      simp (disch := omega) only [st, dF, dT])
     (fun o k hk ho _ => by
      simp only [List.length_append, List.length_cons, List.length_nil] at ho
      rw [show lp_s_l12Entry_1 R L l o (i : Int) (k : Nat) = _ from round (by kernel_rfl) (q_s_l12Entry_1 R L l o (i : Int) (k : Nat)), wrap_succ (i := k) (by omega)]
      simp (disch := omega) only [st, dT, List.length_cons, List.length_nil]
      rfl)
    refine hin.trans ?_
    rw [List.append_assoc]; rfl)
  rw [show c_s_l12Entry R l ds = _ from call (q_s_l12Entry R L l ds)]
  simp (disch := omega) only [st, List.length_nil]
  refine hh.trans ?_
  show (c_s_l12Fill R (([] ++ ds ++ [(l.length : Int)]) ++ l.flatMap txnI) 68).bind _ = _
  rw [List.nil_append]
  show (c_s_l12Fill R (entI l ds) 68).bind _ = _
  rw [f2]; rfl
def chainD (a b : List UInt8) : List UInt8 := dig (([2] ++ a) ++ b)
theorem chain_p {a b : List UInt8} (ha : a.length ≤ 1048576) (hb : b.length ≤ 1048576) : c_i_chain R a b = some (chainD a b, ()) ∧ c_s_l07Chain R a b = some (chainD a b, ()) := by
 have hl : (([2] ++ a) ++ b).length ≤ 549755813888 := by simp only [List.length_append, List.length_cons, List.length_nil]; omega
 constructor
 ·rw [show c_i_chain R a b = _ from call (q_i_chain R L a b), p_digest _ hl]
  simp (disch := omega) only [st]; rfl
 ·rw [show c_s_l07Chain R a b = _ from call (q_s_l07Chain R L a b), p_l01Of _ hl]
  simp (disch := omega) only [st]; rfl
def cr1 (f : Int) (s : List (List UInt8)) (x : DI) : List (List UInt8) :=
 if f = 1 then s.set x.1.toNat x.2.1 else if f = 2 then s.set x.1.toNat (x.2.1.take (x.2.1.length / 2) ++ (s.getD x.1.toNat []).drop (min (x.2.1.length / 2) (s.getD x.1.toNat []).length)) else s
def fateAt (fs : List Int) (i : Nat) : Int := if fs.length = 0 then 0 else fs.getD (i % fs.length) 0
def crF (fs : List Int) : Nat → List DI → List (List UInt8) → List (List UInt8)
 | _, [], s => s
 | i, x :: u, s => crF fs (i + 1) u (cr1 (fateAt fs i) s x)
theorem cr1_len (f : Int) (s : List (List UInt8)) (x : DI) : (cr1 f s x).length = s.length := by
 unfold cr1
 split
 ·simp
 ·split <;> simp
theorem cr1_Sh {f : Int} {s : List (List UInt8)} {x : DI} (hs : Sh s) (hx : x.2.1.length ≤ 1048576) : Sh (cr1 f s x) := by
 have hg : (s.getD x.1.toNat []).length ≤ 1048576 := by
  rw [List.getD_eq_getElem?_getD]
  cases e : s[x.1.toNat]? with
  | none => exact Nat.zero_le _
  | some t => exact hs t (List.mem_of_getElem? e)
 unfold cr1
 split
 ·intro t ht
  rcases List.mem_or_eq_of_mem_set ht with ht | rfl
  ·exact hs t ht
  ·exact hx
 ·split
  ·intro t ht
   rcases List.mem_or_eq_of_mem_set ht with ht | rfl
   ·exact hs t ht
   ·rw [List.length_append, List.length_take, List.length_drop]; omega
  ·exact hs
structure DW (d : DD) : Prop where
 l1 : d.1.length ≤ 1048576
 l2 : d.2.1.length ≤ 1048576
 at_ : AtOK d.1.length d.2.1
 sh : Sh d.1
 un : ∀ x ∈ d.2.1, x.2.1.length ≤ 1048576
theorem tmodN' (a b : Nat) : Int.tmod (a : Int) (b : Int) = ((a % b : Nat) : Int) := rfl
theorem tdiv2 (a : Nat) (h : a ≤ 1048576) : IntKind.wrap .i64 (Int.tdiv (a : Int) 2) = ((a / 2 : Nat) : Int) := by
 show IntKind.wrap .i64 ((a / 2 : Nat) : Int) = _
 rw [wrap_id (by omega) (by omega)]
theorem minN (a b : Nat) : minI (a : Int) (b : Int) = ((min a b : Nat) : Int) := by rw [minI_eq]; omega
theorem i_crash {d : DD} (h : DW d) (fs : List Int) (hf : fs.length ≤ 1048576) : c_i_Device_crash R d fs = some ((crF fs 0 d.2.1 d.1, ([], ())), ()) := by
 have hl : ∀ (n i : Nat) (s : List (List UInt8)), d.2.1.length - i = n → i ≤ d.2.1.length → s.length = d.1.length → Sh s → lp_i_Device_crash_0 R L fs ([], ([], ())) (s, ([], ())) d.2.1 (d.2.1.length : Int) (i : Int) = some ((crF fs i (d.2.1.drop i) s, ([], ())), ()) := by
  intro n
  induction n with
  | zero =>
   intro i s hn hi hs hS
   have : i = d.2.1.length := by omega
   subst this
   rw [show lp_i_Device_crash_0 R L fs ([], ([], ())) (s, ([], ())) d.2.1 (d.2.1.length : Int) (d.2.1.length : Nat) = _ from round (by kernel_rfl) (q_i_Device_crash_0 R L fs _ _ d.2.1 _ (d.2.1.length : Nat)), List.drop_length]
   have := h.l2
   simp (disch := omega) only [st, dF]
   rfl
  | succ n ih =>
   intro i s hn hi hs hS
   have hl2 := h.l2
   have hm : d.2.1.getD i (0, ([], ())) ∈ d.2.1 := getD_mem (show i < d.2.1.length by omega)
   obtain ⟨a1, a2⟩ := h.at_ _ hm
   have a3 := h.un _ hm
   have hi' : i < d.2.1.length := by omega
   rw [show lp_i_Device_crash_0 R L fs ([], ([], ())) (s, ([], ())) d.2.1 (d.2.1.length : Int) (i : Nat) = _ from round (by kernel_rfl) (q_i_Device_crash_0 R L fs _ _ d.2.1 _ (i : Nat)), wrap_succ (i := i) (by omega), drop_getD (d := (0, ([], ()))) hi', tn, tmodN', tn]
   generalize d.2.1.getD i (0, ([], ())) = x at a1 a2 a3
   have hcs : crF fs i (x :: d.2.1.drop (i + 1)) s = crF fs (i + 1) (d.2.1.drop (i + 1)) (cr1 (fateAt fs i) s x) := rfl
   have hrec := ih (i + 1) (cr1 (fateAt fs i) s x) (by omega) (by omega) (by rw [cr1_len]; exact hs) (cr1_Sh hS a3)
   rw [hcs, ← hrec]
   have hold : (s.getD x.1.toNat []).length ≤ 1048576 := by
    have : s.getD x.1.toNat [] ∈ s := getD_mem (by omega)
    exact hS _ this
   by_cases h0 : fs.length = 0
   ·simp (disch := omega) only [st, dT, dF]
    rw [show cr1 (fateAt fs i) s x = s from by unfold fateAt; rw [if_pos h0]; rfl]
   ·have hmod : i % fs.length < fs.length := Nat.mod_lt _ (by omega)
    have hfa : fateAt fs i = fs.getD (i % fs.length) 0 := if_neg h0
    rw [hfa]
    generalize fs.getD (i % fs.length) 0 = f
    by_cases h1 : f = 1
    ·subst h1
     simp (disch := omega) only [st, dT]
     rfl
    ·by_cases h2 : f = 2
     ·subst h2
      rw [tdiv2 _ a3, minN, tn, tn]
      simp (disch := omega) only [st, dT, List.length_take, List.length_drop, List.drop_zero, List.take_length, Nat.le_refl]
      rfl
     ·simp (disch := omega) only [st, dT]
      rw [show cr1 f s x = s from by unfold cr1; rw [if_neg h1, if_neg h2]]
 rw [show c_i_Device_crash R d fs = _ from call (q_i_Device_crash R L d fs), clone_s _ (by have := h.l1; omega)]
 exact hl d.2.1.length 0 d.1 rfl (Nat.zero_le _) rfl h.sh
theorem s_crash {d : DD} (h : DW d) (fs : List Int) (hf : fs.length ≤ 1048576) : c_s_l05Crash R d fs = some ((crF fs 0 d.2.1 d.1, ([], ())), ()) := by
 have hl : ∀ (n i : Nat) (s : List (List UInt8)), d.2.1.length - i = n → i ≤ d.2.1.length → s.length = d.1.length → Sh s → lp_s_l05Crash_0 R L fs d ([], ([], ())) (s, ([], ())) (i : Int) = some ((crF fs i (d.2.1.drop i) s, ([], ())), ()) := by
  intro n
  induction n with
  | zero =>
   intro i s hn hi hs hS
   have : i = d.2.1.length := by omega
   subst this
   rw [show lp_s_l05Crash_0 R L fs d ([], ([], ())) (s, ([], ())) (d.2.1.length : Nat) = _ from round (by kernel_rfl) (q_s_l05Crash_0 R L fs d _ _ (d.2.1.length : Nat)), List.drop_length]
   have := h.l2
   simp (disch := omega) only [st, dF]
   rfl
  | succ n ih =>
   intro i s hn hi hs hS
   have hl2 := h.l2
   have hm : d.2.1.getD i (0, ([], ())) ∈ d.2.1 := getD_mem (show i < d.2.1.length by omega)
   obtain ⟨a1, a2⟩ := h.at_ _ hm
   have a3 := h.un _ hm
   have hi' : i < d.2.1.length := by omega
   rw [show lp_s_l05Crash_0 R L fs d ([], ([], ())) (s, ([], ())) (i : Nat) = _ from round (by kernel_rfl) (q_s_l05Crash_0 R L fs d _ _ (i : Nat)), wrap_succ (i := i) (by omega), drop_getD (d := (0, ([], ()))) hi', tn, tmodN', tn]
   generalize d.2.1.getD i (0, ([], ())) = x at a1 a2 a3
   have hcs : crF fs i (x :: d.2.1.drop (i + 1)) s = crF fs (i + 1) (d.2.1.drop (i + 1)) (cr1 (fateAt fs i) s x) := rfl
   have hrec := ih (i + 1) (cr1 (fateAt fs i) s x) (by omega) (by omega) (by rw [cr1_len]; exact hs) (cr1_Sh hS a3)
   rw [hcs, ← hrec]
   have hold : (s.getD x.1.toNat []).length ≤ 1048576 := by
    have : s.getD x.1.toNat [] ∈ s := getD_mem (by omega)
    exact hS _ this
   by_cases h0 : fs.length = 0
   ·simp (disch := omega) only [st, dT, dF]
    rw [show cr1 (fateAt fs i) s x = s from by unfold fateAt; rw [if_pos h0]; rfl]
   ·have hmod : i % fs.length < fs.length := Nat.mod_lt _ (by omega)
    have hfa : fateAt fs i = fs.getD (i % fs.length) 0 := if_neg h0
    rw [hfa]
    generalize fs.getD (i % fs.length) 0 = f
    by_cases h1 : f = 1
    ·subst h1
     simp (disch := omega) only [st, dT]
     rfl
    ·by_cases h2 : f = 2
     ·subst h2
      rw [tdiv2 _ a3, minN, tn, tn]
      simp (disch := omega) only [st, dT, List.length_take, List.length_drop, List.drop_zero, List.take_length, Nat.le_refl]
      rfl
     ·simp (disch := omega) only [st, dT]
      rw [show cr1 f s x = s from by unfold cr1; rw [if_neg h1, if_neg h2]]
 rw [show c_s_l05Crash R d fs = _ from call (q_s_l05Crash R L d fs)]
 have := h.l1
 simp (disch := omega) only [st, List.length_nil]
 exact hl d.2.1.length 0 d.1 rfl (Nat.zero_le _) rfl h.sh
theorem crF_one : ∀ (u : List DI) (i : Nat) (s : List (List UInt8)), crF [1] i u s = setU s u
 | [], _, _ => rfl
 | x :: u, i, s => by
  rw [crF, crF_one u (i + 1)]
  have : fateAt [1] i = 1 := by
   unfold fateAt
   rw [if_neg (by simp)]
   rw [show ([1] : List Int).length = 1 from rfl, Nat.mod_one]; rfl
  rw [this]; rfl
theorem i_sync {d : DD} (h : DW d) : c_i_Device_sync R d = some ((setU d.1 d.2.1, ([], ())), ()) := by
 rw [show c_i_Device_sync R d = _ from call (q_i_Device_sync R L d), i_crash h [1] (by simp), crF_one]; rfl
theorem i_write (d : DD) (a : Nat) (t : List UInt8) (h1 : d.1.length ≤ 1048576) (h2 : d.2.1.length ≤ 1048576) : c_i_Device_write R d (a : Int) t = some ((d.1, (d.2.1 ++ [((a : Int), (t, ()))], ())), ()) := by
 rw [show c_i_Device_write R d (a : Int) t = _ from call (q_i_Device_write R L d (a : Int) t), (dev_own d h1 h2).1]
 simp (disch := omega) only [st]
end Go.Rf.S

end
section
namespace Go.Rf.S
set_option maxRecDepth 100000
def wd : Ty → Nat
 | .sl t => wd t
 | .pair a b => wd a + wd b
 | _ => 1
theorem nmk_le : ∀ (c : Bool) (t : Ty) (x : t.D), nmk c t x ≤ wd t * (cnt t x + 1)
 | c, .sl t, x => by
  have h : ∀ l : List t.D, (l.map (nmk true t)).sum ≤ wd t * (l.length + (l.map (cnt t)).sum) := fun l => by
   induction l with
   | nil => simp
   | cons a l ih =>
    have := nmk_le true t a
    simp only [List.map_cons, List.sum_cons, List.length_cons]
    have e : wd t * (l.length + 1 + (cnt t a + (l.map (cnt t)).sum)) = wd t * (cnt t a + 1) + wd t * (l.length + (l.map (cnt t)).sum) := by rw [← Nat.mul_add]; congr 1; omega
    omega
  have e : nmk c (.sl t) x = (List.map (nmk true t) x).sum := by cases c <;> rfl
  have e2 : cnt (.sl t) x = List.length x + (List.map (cnt t) x).sum := rfl
  rw [e, e2]
  have := h x
  show _ ≤ wd t * _
  rw [Nat.mul_add]; omega
 | c, .pair a b, x => by
  have h1 := nmk_le c a x.1
  have h2 := nmk_le c b x.2
  have e : nmk c (.pair a b) x = nmk c a x.1 + nmk c b x.2 := by cases c <;> rfl
  have e2 : cnt (.pair a b) x = cnt a x.1 + cnt b x.2 := rfl
  rw [e, e2]
  show _ ≤ (wd a + wd b) * _
  have e3 : (wd a + wd b) * (cnt a x.1 + cnt b x.2 + 1) = wd a * (cnt a x.1 + 1) + wd a * cnt b x.2 + (wd b * (cnt b x.2 + 1) + wd b * cnt a x.1) := by
   simp only [Nat.add_mul, Nat.mul_add, Nat.mul_one]; omega
  omega
 | c, .int _, x => by cases c <;> simp [nmk, wd, cnt]
 | c, .bool, x => by cases c <;> simp [nmk, wd, cnt]
 | c, .str, x => by cases c <;> simp [nmk, wd, cnt]
 | c, .fn, x => by cases c <;> simp [nmk, wd, cnt]
 | c, .unit, x => by cases c <;> simp [nmk, wd, cnt]
 | c, .ptr _, x => by cases c <;> simp [nmk, wd, cnt]
 | c, .arr _ _, x => by cases c <;> simp [nmk, wd, cnt]
theorem m_I (x : List Int) (k : Nat) (hx : cnt (.sl (.int .i64)) x ≤ 1048576) (hk : k ≤ 100000000) : ∃ (k' : Nat) (x' : List Int), c_l_markIntS R x k = some ((k' : Int), (x', ())) := by
 have n2 := nmk_le false (.sl (.int .i64)) x
 have w : wd (.sl (.int .i64)) = 1 := rfl
 have l2 := lens_cnt (.sl (.int .i64)) x
 rw [w] at n2
 exact ⟨_, _, mark_IntS x k (by omega) (by omega)⟩
abbrev noS : D_Store := ([], ((0, (0, (0, (0, ([], ([], ([], ()))))))), (([], ([], ())), (false, (false, ())))))
def begT : List UInt8 := [98, 101, 103, 105, 110]
noncomputable def sid0 (key : List UInt8) (l : List Int) : List (List UInt8) := sideF key 0 0 (newE l) []
noncomputable def newS (key : List UInt8) (l : List Int) : D_Store := (key, ((0, (0, (0, (0, (dig begT, (dig begT, (rootF (sid0 key l), ()))))))), ((sid0 key l ++ List.replicate 24 [], ([], ())), (true, (false, ())))))
end Go.Rf.S

end
section
namespace Go.Rf.S
set_option maxRecDepth 100000
theorem cnt_S (l : List (List UInt8)) (n : Nat) (h : ∀ s ∈ l, s.length ≤ n) : cnt (.sl .str) l ≤ l.length * (n + 1) := by
 show l.length + (l.map fun s : List UInt8 => s.length).sum ≤ _
 induction l with
 | nil => simp
 | cons a l ih =>
  have h1 := h a (List.mem_cons_self ..)
  have h2 := ih fun s hs => h s (List.mem_cons_of_mem _ hs)
  simp only [List.map_cons, List.sum_cons, List.length_cons, Nat.add_mul] at h2 ⊢
  omega
theorem cnt_I (l : List Int) : cnt (.sl (.int .i64)) l = l.length := by
 show l.length + (l.map fun _ : Int => 0).sum = _
 have : ∀ l : List Int, (l.map fun _ : Int => 0).sum = 0 := fun l => by induction l with
  | nil => rfl
  | cons a l ih => rw [List.map_cons, List.sum_cons, ih]
 rw [this]; rfl
end Go.Rf.S

end
section
namespace Go.Rf.S
set_option maxRecDepth 100000
structure SO (x : D_Store) : Prop where
 k : x.1.length = 32
 c0 : 0 ≤ x.2.1.1
 c1 : x.2.1.1 ≤ 1000000
 sd : x.2.1.2.1 = 0 ∨ x.2.1.2.1 = 1
 n0 : x.2.1.1 ≤ x.2.1.2.2.1
 n1 : x.2.1.2.2.1 ≤ x.2.1.1 + 4
 n2 : x.2.1.2.2.1 ≤ 1000000
 b0 : 0 ≤ x.2.1.2.2.2.1
 b1 : x.2.1.2.2.2.1 ≤ 1000000
 t1 : x.2.1.2.2.2.2.1.length = 32
 t2 : x.2.1.2.2.2.2.2.1.length = 32
 t3 : x.2.1.2.2.2.2.2.2.1.length = 32
 dl : x.2.2.1.1.length = 40
 ds : ∀ s ∈ x.2.2.1.1, s.length ≤ 700
 u : x.2.2.1.2.1 = []
theorem is32_t {s : List UInt8} (h : is32 s = true) : s.length = 32 := by simpa [is32] using h
theorem SO.of {x : D_Store} (h : storeOK x = true) : SO x := by
 unfold storeOK regOK devOK none0 at h
 simp only [Bool.and_eq_true, decide_eq_true_eq] at h
 obtain ⟨h1, ⟨r1, r2, r3, r4, r5, r6, r7, r8⟩, ⟨d1, d2, d3, d4⟩, h4, h5⟩ := h
 have a1 := inB_bounds r1
 have a2 := inB_bounds r2
 have a3 := inB_bounds r3
 have a4 := inB_bounds r4
 exact ⟨is32_t h1, a1.1, a1.2, by omega, a4.1, by omega, by omega, a3.1, a3.2, is32_t r5, is32_t r6, is32_t r7, d1, fun s hs => by simpa [txOK] using List.all_eq_true.1 d3 s hs, List.length_eq_zero_iff.1 h4⟩
theorem SO.dw {x : D_Store} (h : SO x) : DW x.2.2.1 :=
 ⟨by rw [h.dl]; decide, by rw [h.u]; decide, by rw [h.u]; exact (fun _ h => nomatch h), fun s hs => Nat.le_trans (h.ds s hs) (by decide), by rw [h.u]; exact (fun _ h => nomatch h)⟩
theorem own_i {x : D_Store} (h : SO x) : c_i_Store_own R x = some (x, ()) := by
 rw [show c_i_Store_own R x = _ from call (q_i_Store_own R L x), (dev_own x.2.2.1 h.dw.l1 h.dw.l2).1]; rfl
theorem own_s {x : D_Store} (h : DW x.2.2.1) : c_s_l13Own R x = some (x, ()) := by
 rw [show c_s_l13Own R x = _ from call (q_s_l13Own R L x), (dev_own x.2.2.1 h.l1 h.l2).2]; rfl
def dcode (l : List Int) : Int := if l.length ≠ 40 then 13 else if l.all leafB = false then 4 else 0
theorem i_draws (l : List Int) (hl : l.length ≤ 4096) : c_i_drawsCode R l 40 = some (dcode l, ()) := by
 rw [show c_i_drawsCode R l 40 = _ from call (q_i_drawsCode R L l 40)]
 unfold dcode
 by_cases h2 : l.length ≠ 40
 ·simp (disch := omega) only [st, dF, if_pos h2, Bool.not_false]
 ·rw [if_neg h2]
  simp (disch := omega) only [st, dF, Bool.not_true]
  rw [show c_i_areAll_int_ R l (FnVal.mk 205 FCaps.nil) = _ from all_isLeaf l hl]
  cases l.all leafB <;> rfl
theorem s_draws (l : List Int) (hl : l.length ≤ 4096) : c_s_l11Draws R l 40 = some (dcode l, ()) := by
 rw [show c_s_l11Draws R l 40 = _ from call (q_s_l11Draws R L l 40), s_leaves l hl]
 unfold dcode
 rw [dF (show ¬ (4096 : Int) < (l.length : Int) by omega)]
 by_cases h2 : l.length ≠ 40
 ·simp (disch := omega) only [st, dF, if_pos h2, Bool.not_false]
 ·rw [if_neg h2]
  simp (disch := omega) only [st, dF, Bool.not_true]
  cases l.all leafB <;> rfl
def scode (x : D_Store) (l : List D_Txn) (ds : List Int) : Int :=
 if 4096 < l.length then 2 else if 4096 < ds.length then 2 else if dcode ds ≠ 0 then dcode ds else if storeOK x = false then 1 else if batchOK l = false then 1 else 0
structure BO (x : D_Store) (l : List D_Txn) (ds : List Int) : Prop where
 s : storeOK x = true
 b : batchOK l = true
 dl : ds.length = 40
 dn : NN ds
theorem all_NN {l : List Int} (h : l.all leafB = true) : NN l := fun x hx => by
 have := List.all_eq_true.1 h x hx
 simp only [leafB, inB, Bool.and_eq_true, decide_eq_true_eq] at this
 exact this.1
theorem scode0 {x : D_Store} {l : List D_Txn} {ds : List Int} (h : scode x l ds = 0) : BO x l ds := by
 unfold scode at h
 split at h
 ·cases h
 ·split at h
  ·cases h
  ·split at h
   ·rename_i h1; exact absurd h h1
   ·split at h
    ·cases h
    ·split at h
     ·cases h
     ·rename_i h1 h2 h3 h4 h5
      unfold dcode at h3
      split at h3
      ·exact absurd (by decide) h3
      ·split at h3
       ·exact absurd (by decide) h3
       ·rename_i h6 h7
        exact ⟨by simpa using h4, by simpa using h5, by omega, all_NN (by simpa using h7)⟩
theorem i_scode (x : D_Store) (l : List D_Txn) (ds : List Int) (hl : ∀ t ∈ l, t.1.length ≤ 4611686018427387904) : c_i_submitCode R x l ds = some (scode x l ds, ()) := by
 rw [show c_i_submitCode R x l ds = _ from call (q_i_submitCode R L x l ds)]
 unfold scode
 by_cases h1 : 4096 < l.length
 ·rw [dT (show (4096 : Int) < (l.length : Int) by omega), if_pos h1]; rfl
 ·rw [dF (show ¬ (4096 : Int) < (l.length : Int) by omega), if_neg h1]
  by_cases h2 : 4096 < ds.length
  ·rw [dT (show (4096 : Int) < (ds.length : Int) by omega), if_pos h2]; rfl
  ·rw [dF (show ¬ (4096 : Int) < (ds.length : Int) by omega), if_neg h2, i_draws ds (by omega)]
   by_cases h3 : dcode ds = 0
   ·rw [h3, p_i_StoreOK, p_i_BatchOK l hl]
    cases storeOK x <;> cases batchOK l <;> rfl
   ·simp (disch := omega) only [st, Bool.not_false, if_pos h3]
theorem s_scode (x : D_Store) (l : List D_Txn) (ds : List Int) (hl : ∀ t ∈ l, t.1.length ≤ 4611686018427387904) (h1 : ¬ 4096 < l.length) (h2 : ¬ 4096 < ds.length) : c_s_l13Batch R x l ds = some (scode x l ds, ()) := by
 rw [show c_s_l13Batch R x l ds = _ from call (q_s_l13Batch R L x l ds), s_draws ds (by omega), dF (show ¬ (4096 : Int) < (l.length : Int) by omega)]
 unfold scode
 rw [if_neg h1, if_neg h2]
 by_cases h3 : dcode ds = 0
 ·rw [h3, p_s_StoreOK, p_s_BatchOK l hl]
  cases storeOK x <;> cases batchOK l <;> rfl
 ·simp (disch := omega) only [st, Bool.not_false, if_pos h3]
def upc (x : D_Store) : Int := cond x.2.2.2.2.1 18 (cond (!x.2.2.2.1) 16 0)
theorem i_up (x : D_Store) : c_i_Store_upCode R x = some (upc x, ()) := by
 rw [show c_i_Store_upCode R x = _ from call (q_i_Store_upCode R L x)]
 unfold upc
 cases x.2.2.2.2.1 <;> cases x.2.2.2.1 <;> rfl
theorem s_up (x : D_Store) : c_s_l13Ask R x = some (upc x, ()) := by
 rw [show c_s_l13Ask R x = _ from call (q_s_l13Ask R L x)]
 unfold upc
 cases x.2.2.2.2.1 <;> cases x.2.2.2.1 <;> rfl
theorem i_wait {x : D_Store} (h : SO x) : c_i_Register_waiting R x.2.1 = some (x.2.1.2.2.1 - x.2.1.1, ()) := by
 have := h.n0; have := h.n1
 rw [show c_i_Register_waiting R x.2.1 = _ from call (q_i_Register_waiting R L x.2.1), wrap_id (by omega) (by omega)]
def roomc (x : D_Store) : Int := if x.2.1.2.2.1 - x.2.1.1 = 4 then 7 else if x.2.1.2.2.1 = 1000000 then 7 else 0
theorem s_room {x : D_Store} (h : SO x) : c_s_l13Room R x = some (roomc x, ()) := by
 have := h.n0; have := h.n1; have := h.n2
 rw [show c_s_l13Room R x = _ from call (q_s_l13Room R L x), wrap_id (by omega) (by omega)]
 unfold roomc
 by_cases h1 : x.2.1.2.2.1 - x.2.1.1 = 4
 ·rw [if_pos h1]; simp (disch := omega) only [st]
 ·rw [if_neg h1]
  by_cases h2 : x.2.1.2.2.1 = 1000000
  ·rw [if_pos h2, dT (show (1000000 : Int) ≤ _ by omega)]; simp (disch := omega) only [st]
  ·rw [if_neg h2, dF (show ¬ (1000000 : Int) ≤ _ by omega)]; simp (disch := omega) only [st]
def ucode (x : D_Store) : Int := if upc x = 0 then roomc x else upc x
noncomputable def newT (key : List UInt8) (C B : Nat) (l : List D_Txn) (ds : List Int) : List UInt8 := ub (lit B 4) ++ sealD key 3 (32 + (C + 1) % 8) (C + 1 + 1048576 * B) (entT l ds)
noncomputable def nT (x : D_Store) (l : List D_Txn) (ds : List Int) : List UInt8 := newT x.1 x.2.1.2.2.1.toNat x.2.1.2.2.2.1.toNat l ds
def nA (x : D_Store) : Nat := 32 + (x.2.1.2.2.1.toNat + 1) % 8
theorem newT_len {key : List UInt8} (hk : key.length = 32) (C B : Nat) {l : List D_Txn} {ds : List Int} (h : batchOK l = true) (hd : ds.length = 40) : (newT key C B l ds).length = 292 := by
 have e := entT_len h hd
 unfold newT
 rw [List.length_append, ub_len, lit_len _ _ (by decide), (sealed_p (t := entT l ds) hk (by rw [e]; decide) _ _ _).2.2, e]
noncomputable def nD (x : D_Store) (l : List D_Txn) (ds : List Int) : D_Device := (x.2.2.1.1, (x.2.2.1.2.1 ++ [((nA x : Int), (nT x l ds, ()))], ()))
noncomputable def nR (x : D_Store) (l : List D_Txn) (ds : List Int) : D_Register := (x.2.1.1, (x.2.1.2.1, (x.2.1.2.2.1 + 1, (x.2.1.2.2.2.1, (x.2.1.2.2.2.2.1, (chainD x.2.1.2.2.2.2.2.1 (nT x l ds), x.2.1.2.2.2.2.2.2))))))
theorem subm {x : D_Store} {l : List D_Txn} {ds : List Int} (h : BO x l ds) (hu : upc x = 0) (hr : roomc x = 0) :
  c_i_Store_submission R x l ds = some (nD x l ds, (nR x l ds, (0, ()))) ∧ c_s_l13Entry R x l ds = some ((x.1, (x.2.1, (nD x l ds, x.2.2.2))), (nT x l ds, ())) := by
 have hs := SO.of h.s
 obtain ⟨e1, e2⟩ := entry_p h.b h.dl h.dn
 have el := entT_len h.b h.dl
 obtain ⟨C, hC⟩ := Int.eq_ofNat_of_zero_le (show 0 ≤ x.2.1.2.2.1 by have := hs.n0; have := hs.c0; omega)
 obtain ⟨B, hB⟩ := Int.eq_ofNat_of_zero_le hs.b0
 have hc1 := hs.n2
 have hb1 := hs.b1
 rw [hC] at hc1
 rw [hB] at hb1
 have w1 : IntKind.wrap .i64 ((C : Int) + 1) = ((C + 1 : Nat) : Int) := wrap_succ (by omega)
 have w2 : IntKind.wrap .i64 (32 + Int.tmod ((C + 1 : Nat) : Int) 8) = ((32 + (C + 1) % 8 : Nat) : Int) := by
  rw [show Int.tmod ((C + 1 : Nat) : Int) 8 = (((C + 1) % 8 : Nat) : Int) from rfl, wrap_id (by omega) (by omega)]; omega
 have hA : nA x = 32 + (C + 1) % 8 := by unfold nA; rw [hC, Int.toNat_natCast]
 have hT : nT x l ds = newT x.1 C B l ds := by unfold nT; rw [hC, hB, Int.toNat_natCast, Int.toNat_natCast]
 have hl := newT_len hs.k C B h.b h.dl
 obtain ⟨s1, s2, s3⟩ := sealed_p (t := entT l ds) hs.k (by rw [el]; decide) 3 (32 + (C + 1) % 8) (C + 1 + 1048576 * B)
 have l4 : (ub (lit B 4)).length = 4 := by rw [ub_len, lit_len _ _ (by decide)]
 obtain ⟨c1, c2⟩ := chain_p (a := x.2.1.2.2.2.2.2.1) (b := newT x.1 C B l ds) (by rw [hs.t2]; decide) (by rw [hl]; decide)
 have hdw := hs.dw
 constructor
 ·rw [show c_i_Store_submission R x l ds = _ from call (q_i_Store_submission R L x l ds), i_up, hu, i_wait hs]
  unfold roomc at hr
  by_cases h1 : x.2.1.2.2.1 - x.2.1.1 = 4
  ·rw [if_pos h1] at hr; cases hr
  ·rw [if_neg h1] at hr
   by_cases h2 : x.2.1.2.2.1 = 1000000
   ·rw [if_pos h2] at hr; cases hr
   ·have q1 : c_i_entrySector R ((C + 1 : Nat) : Int) = some (((32 + (C + 1) % 8 : Nat) : Int), ()) := by
     rw [show c_i_entrySector R ((C + 1 : Nat) : Int) = _ from call (q_i_entrySector R L _), w2]
    have q2 : c_i_logEpoch R ((C + 1 : Nat) : Int) (B : Int) = some (((C + 1 + 1048576 * B : Nat) : Int), ()) := by
     rw [show c_i_logEpoch R ((C + 1 : Nat) : Int) (B : Int) = _ from call (q_i_logEpoch R L _ _), wrap_id (n := 1048576 * (B : Int)) (by omega) (by omega), wrap_id (by omega) (by omega)]
     congr 2
    have q3 : c_i_little R (B : Int) 4 = some (ub (lit B 4), ()) := p_little B 4 (by decide)
    have q4 : c_i_sealed R x.1 3 ((32 + (C + 1) % 8 : Nat) : Int) ((C + 1 + 1048576 * B : Nat) : Int) (entT l ds) = _ := s1
    rw [hC] at h1 h2
    rw [hC, hB, w1, q1, q2, q3, e1]
    simp (disch := omega) only [st, Bool.not_true, q4, l4, s3, el]
    rw [show ub (lit B 4) ++ sealD x.1 3 (32 + (C + 1) % 8) (C + 1 + 1048576 * B) (entT l ds) = newT x.1 C B l ds from rfl, c1, i_write _ _ _ hdw.l1 hdw.l2]
    unfold nD nR
    rw [hA, hT, hC, hB, show ((C : Int) + 1) = ((C + 1 : Nat) : Int) from rfl]; rfl
 ·have q2 : c_s_l13Number R ((C + 1 : Nat) : Int) (B : Int) = some (((C + 1 + 1048576 * B : Nat) : Int), ()) := by
   rw [show c_s_l13Number R ((C + 1 : Nat) : Int) (B : Int) = _ from call (q_s_l13Number R L _ _), show ((2 : Int) ^ (Min.min (20 : Int).toNat (IntKind.bits .i64))) = 1048576 from rfl, wrap_id (n := (B : Int) * 1048576) (by omega) (by omega), wrap_id (by omega) (by omega)]
   congr 2; omega
  have q3 : c_s_l06Ints R [(B : Int)] = some (ub (lit B 4), ()) := by
   rw [(ints_p (l := [(B : Int)]) (fun x hx => by rw [List.mem_singleton.1 hx]; omega) (by simp)).2]
   rfl
  have q4 : c_s_l06Seal R x.1 3 ((32 + (C + 1) % 8 : Nat) : Int) ((C + 1 + 1048576 * B : Nat) : Int) (entT l ds) = _ := s2
  rw [show c_s_l13Entry R x l ds = _ from call (q_s_l13Entry R L x l ds), hC, hB, w1, w2, q2, q3, e2]
  simp (disch := omega) only [st, q4, l4, s3, el]
  rw [show ub (lit B 4) ++ sealD x.1 3 (32 + (C + 1) % 8) (C + 1 + 1048576 * B) (entT l ds) = newT x.1 C B l ds from rfl, s_write _ _ _ hdw.l2]
  unfold nD
  rw [hA, hT]; rfl
theorem subm_n {x : D_Store} {l : List D_Txn} {ds : List Int} (h : BO x l ds) (hu : ucode x ≠ 0) : ∃ d r, c_i_Store_submission R x l ds = some (d, (r, (ucode x, ()))) := by
 have hs := SO.of h.s
 have e : c_i_Store_submission R x l ds = _ := call (q_i_Store_submission R L x l ds)
 rw [e, i_up]
 unfold ucode at hu ⊢
 by_cases h0 : upc x = 0
 ·rw [if_pos h0] at hu ⊢
  rw [h0, i_wait hs]
  unfold roomc at hu ⊢
  by_cases h1 : x.2.1.2.2.1 - x.2.1.1 = 4
  ·rw [if_pos h1, h1]; exact ⟨_, _, rfl⟩
  ·rw [if_neg h1] at hu ⊢
   by_cases h2 : x.2.1.2.2.1 = 1000000
   ·rw [if_pos h2]
    simp (disch := omega) only [st, Bool.not_true]
    exact ⟨_, _, rfl⟩
   ·rw [if_neg h2] at hu; exact absurd rfl hu
 ·rw [if_neg h0]
  simp (disch := omega) only [st, Bool.not_false]
  exact ⟨_, _, rfl⟩
theorem nD_DW {x : D_Store} {l : List D_Txn} {ds : List Int} (h : BO x l ds) : DW (nD x l ds) := by
 have hs := SO.of h.s
 have hl : (nT x l ds).length = 292 := newT_len hs.k _ _ h.b h.dl
 have hd := hs.dw
 refine ⟨hd.l1, ?_, ?_, hd.sh, ?_⟩
 ·show (_ ++ [_]).length ≤ _; rw [hs.u]; simp
 ·show AtOK x.2.2.1.1.length (x.2.2.1.2.1 ++ [_])
  rw [hs.u, hs.dl]
  intro y hy
  rw [List.mem_singleton.1 hy]
  unfold nA
  simp only; omega
 ·show ∀ y ∈ x.2.2.1.2.1 ++ [_], _
  rw [hs.u]
  intro y hy
  rw [List.mem_singleton.1 hy]
  show (nT x l ds).length ≤ _
  rw [hl]; decide
noncomputable def nS (x : D_Store) (l : List D_Txn) (ds : List Int) : List (List UInt8) := x.2.2.1.1.set (nA x) (nT x l ds)
noncomputable def subR (x : D_Store) (l : List D_Txn) (ds : List Int) : D_Store := (x.1, (nR x l ds, ((nS x l ds, ([], ())), x.2.2.2)))
theorem setU_nD {x : D_Store} {l : List D_Txn} {ds : List Int} (h : BO x l ds) : setU (nD x l ds).1 (nD x l ds).2.1 = nS x l ds := by
 unfold nD nS
 rw [(SO.of h.s).u]; rfl
theorem s_submit {x : D_Store} {l : List D_Txn} {ds : List Int} (hb : BO x l ds) : c_s_l13Submit R x l ds = some (if ucode x = 0 then subR x l ds else x, (ucode x, ())) := by
 have hs := SO.of hb.s
 rw [show c_s_l13Submit R x l ds = _ from call (q_s_l13Submit R L x l ds), s_up, s_room hs]
 by_cases h0 : upc x = 0
 ·have e : ucode x = roomc x := if_pos h0
  rw [e, h0]
  by_cases h1 : roomc x = 0
  ·have d := nD_DW hb
   obtain ⟨_, s2⟩ := subm hb h0 h1
   have hl : (nT x l ds).length = 292 := newT_len hs.k _ _ hb.b hb.dl
   have hc := (chain_p (a := x.2.1.2.2.2.2.2.1) (b := nT x l ds) (by rw [hs.t2]; decide) (by rw [hl]; decide)).2
   have := hs.n2; have := hs.n0; have := hs.c0
   rw [h1, if_pos rfl, s2]
   simp (disch := omega) only [st, Bool.not_true, hc, s_sync _ d.l1 d.l2 d.at_, setU_nD hb]
   rfl
  ·rw [if_neg h1]
   simp (disch := omega) only [st, Bool.not_true, Bool.not_false]
 ·have e : ucode x = upc x := if_neg h0
  rw [e, if_neg h0]
  simp (disch := omega) only [st, Bool.not_false]
end Go.Rf.S

end
section
namespace Go.Rf.S
set_option maxRecDepth 100000
theorem mh_S (x : D_Store) (k : Nat) (hx : cnt T_Store x ≤ 1048576) (hk : k ≤ 100000000) : ∃ (k' : Nat) (x' : D_Store), k' ≤ k + 18000000 ∧ c_l_markStore R x k = some ((k' : Int), (x', ())) ∧ c_l_heldStore R x' k = some ((k' : Int), ()) := by
 have n1 := nmk_le false T_Store x
 have w : wd T_Store = 17 := rfl
 rw [w] at n1
 have l1 := lens_cnt T_Store x
 have s1 := mk_snd mt false T_Store x k
 exact ⟨_, _, by omega, mark_Store x k (by omega) (by omega), held_Store (mk_ mt false T_Store x k).1 k _ (Nat.le_trans (Nat.le_of_eq (lens_mk mt false T_Store x k)) (by omega)) (by omega) (hd_mk mt false T_Store x k)⟩
theorem m_T (x : List D_Txn) (k : Nat) (hx : cnt (.sl T_Txn) x ≤ 1048576) (hk : k ≤ 100000000) : ∃ (k' : Nat) (x' : List D_Txn), k' ≤ k + 18000000 ∧ c_l_markTxnS R x k = some ((k' : Int), (x', ())) := by
 have n1 := nmk_le false (.sl T_Txn) x
 have w : wd (.sl T_Txn) = 5 := rfl
 rw [w] at n1
 have l1 := lens_cnt (.sl T_Txn) x
 have s1 := mk_snd mt false (.sl T_Txn) x k
 exact ⟨_, _, by omega, mark_TxnS x k (by omega) (by omega)⟩
theorem cnt_T {x : List D_Txn} : ∀ t ∈ x, t.1.length ≤ cnt (.sl T_Txn) x := fun t ht => by
 have h : ∀ l : List D_Txn, t ∈ l → t.1.length ≤ (l.map (cnt T_Txn)).sum := fun l => by
  induction l with
  | nil => exact fun h => nomatch h
  | cons a l ih =>
   intro h
   have e : cnt T_Txn t = cnt (.sl T_Op) t.1 + 0 := rfl
   have e2 : cnt (.sl T_Op) t.1 = t.1.length + (t.1.map (cnt T_Op)).sum := rfl
   have hh : (List.map (cnt T_Txn) (a :: l)).sum = cnt T_Txn a + (List.map (cnt T_Txn) l).sum := rfl
   show _ ≤ (List.map (cnt T_Txn) (a :: l)).sum
   refine Nat.le_trans ?_ (Nat.le_of_eq hh.symm)
   rcases List.mem_cons.1 h with rfl | h
   ·omega
   ·have := ih h; omega
 have e : cnt (.sl T_Txn) x = x.length + (x.map (cnt T_Txn)).sum := rfl
 have := h x ht
 omega
theorem cnt_St (k b t r : List UInt8) (n1 n2 n3 n4 : Int) (S : List (List UInt8)) (u v : Bool) : cnt T_Store ((k, ((n1, (n2, (n3, (n4, (b, (t, (r, ()))))))), ((S, ([], ())), (u, (v, ()))))) : D_Store) =
 k.length + ((0 + (0 + (0 + (0 + (b.length + (t.length + (r.length + 0))))))) + ((cnt (.sl .str) S + (0 + 0)) + (0 + (0 + 0)))) := rfl
end Go.Rf.S

end
section
namespace Go.Rf.S
set_option maxRecDepth 100000
def fateB (n : Int) : Bool := inB n 0 2
theorem i_fates (l : List Int) (hl : l.length ≤ 4096) : c_i_areFates R l = some (l.all fateB, ()) := by
 rw [show c_i_areFates R l = _ from call (q_i_areFates R L l), show c_i_areAll_int_ R l (FnVal.mk 213 FCaps.nil) = _ from all_i_areAll_int_ l _ fateB (by omega) fun s _ => by
  rw [cv_i_areFates_1, show c_i_areFates_1 R s = _ from call (q_i_areFates_1 R L s), p_i_within]; rfl]
 rfl
theorem s_fates (l : List Int) (hl : l.length ≤ 4096) : c_s_l05Fates R l = some (l.all fateB, ()) := by
 have h : ∀ (n i : Nat), l.length - i = n → i ≤ l.length → lp_s_l05Fates_0 R L l (i : Int) = some ((l.drop i).all fateB, ()) := by
  intro n
  induction n with
  | zero =>
   intro i hn hi
   have : i = l.length := by omega
   subst this
   rw [show lp_s_l05Fates_0 R L l (l.length : Nat) = _ from round (by kernel_rfl) (q_s_l05Fates_0 R L l (l.length : Nat)), List.drop_length]
   simp (disch := omega) only [st, dF, List.all_nil]
  | succ n ih =>
   intro i hn hi
   rw [show lp_s_l05Fates_0 R L l (i : Nat) = _ from round (by kernel_rfl) (q_s_l05Fates_0 R L l (i : Nat)), wrap_succ (by omega), ih (i + 1) (by omega) (by omega), drop_getD (d := 0) (show i < l.length by omega), List.all_cons]
   simp (disch := omega) only [st, dT, p_s_l01In]
   unfold fateB
   cases inB (l.getD i 0) 0 2 <;> rfl
 rw [show c_s_l05Fates R l = _ from call (q_s_l05Fates R L l)]
 exact h l.length 0 rfl (Nat.zero_le _)
def tearB (how : Int) (fs : List Int) : Bool := inB how 0 2 && fs.all fateB
theorem i_tear (how : Int) (fs : List Int) (hf : fs.length ≤ 4096) : c_i_isTear R how fs = some (tearB how fs, ()) := by
 rw [show c_i_isTear R how fs = _ from call (q_i_isTear R L how fs), p_i_within, i_fates fs hf]
 unfold tearB
 cases inB how 0 2 <;> rfl
theorem s_tear {x : D_Store} (hx : storeOK x = true) (how : Int) (fs : List Int) (hf : fs.length ≤ 4096) : c_s_l13Torn R x how fs = some (cond (tearB how fs) 0 4, ()) := by
 rw [show c_s_l13Torn R x how fs = _ from call (q_s_l13Torn R L x how fs), p_s_StoreOK, hx, p_s_l01In, s_fates fs hf]
 simp (disch := omega) only [st, dF, Bool.not_true]
 unfold tearB
 cases inB how 0 2 <;> cases fs.all fateB <;> rfl
def tcode (x : D_Store) (l : List D_Txn) (ds : List Int) (how : Int) (fs : List Int) : Int :=
 if 4096 < fs.length then 2 else if scode x l ds = 0 then cond (tearB how fs) 0 4 else scode x l ds
noncomputable def tornS (x : D_Store) (l : List D_Txn) (ds : List Int) (how : Int) (fs : List Int) : List (List UInt8) :=
 if how = 0 then crF fs 0 (nD x l ds).2.1 (nD x l ds).1 else nS x l ds
noncomputable def tornR (x : D_Store) (l : List D_Txn) (ds : List Int) (how : Int) (fs : List Int) : D_Store :=
 (x.1, (if how = 2 then nR x l ds else x.2.1, ((tornS x l ds how fs, ([], ())), (false, x.2.2.2.2))))
theorem i_torn {x : D_Store} {l : List D_Txn} {ds : List Int} (h : BO x l ds) (how : Int) (fs : List Int) (hf : fs.length ≤ 4096) : c_i_Store_torn R x (nD x l ds) (nR x l ds) how fs = some (tornR x l ds how fs, ()) := by
 rw [show c_i_Store_torn R x (nD x l ds) (nR x l ds) how fs = _ from call (q_i_Store_torn R L x (nD x l ds) (nR x l ds) how fs), i_crash (nD_DW h) fs (by omega), i_sync (nD_DW h), setU_nD h]
 unfold tornR tornS
 by_cases h0 : how = 0
 ·subst h0; rfl
 ·rw [if_neg h0]
  by_cases h2 : how = 2
  ·subst h2; rfl
  ·rw [if_neg h2]
   simp (disch := omega) only [st]
theorem tornS_b {x : D_Store} {l : List D_Txn} {ds : List Int} (h : BO x l ds) (how : Int) (fs : List Int) : (tornS x l ds how fs).length = 40 ∧ ∀ s ∈ tornS x l ds how fs, s.length ≤ 2000 := by
 have hs := SO.of h.s
 have hl : (nT x l ds).length = 292 := newT_len hs.k _ _ h.b h.dl
 have hn : (nS x l ds).length = 40 ∧ ∀ s ∈ nS x l ds, s.length ≤ 2000 := ⟨by unfold nS; rw [List.length_set, hs.dl], fun s hm => by
  rcases List.mem_or_eq_of_mem_set hm with hm | rfl
  ·have := hs.ds s hm; omega
  ·omega⟩
 unfold tornS
 by_cases h0 : how = 0
 ·rw [if_pos h0]
  have e : crF fs 0 (nD x l ds).2.1 (nD x l ds).1 = cr1 (fateAt fs 0) x.2.2.1.1 ((nA x : Int), (nT x l ds, ())) := by
   unfold nD
   rw [hs.u]; rfl
  rw [e]
  refine ⟨by rw [cr1_len, hs.dl], ?_⟩
  unfold cr1
  split
  ·exact hn.2
  ·split
   ·intro s hm
    rcases List.mem_or_eq_of_mem_set hm with hm | rfl
    ·have := hs.ds s hm; omega
    ·have hA : nA x < x.2.2.1.1.length := by rw [hs.dl]; unfold nA; omega
     have := hs.ds _ (getD_mem (d := []) (show (nA x : Int).toNat < x.2.2.1.1.length by omega))
     simp only [List.length_append, List.length_take, List.length_drop]
     omega
   ·intro s hm
    have := hs.ds s hm; omega
 ·rw [if_neg h0]; exact hn
theorem own_s' {x : D_Store} (h1 : x.2.2.1.1.length ≤ 1048576) (h2 : x.2.2.1.2.1.length ≤ 1048576) : c_s_l13Own R x = some (x, ()) := by
 rw [show c_s_l13Own R x = _ from call (q_s_l13Own R L x), (dev_own x.2.2.1 h1 h2).2]; rfl
theorem upb {x : D_Store} (h : upc x = 0) : x.2.2.2.1 = true := by
 unfold upc at h
 cases h1 : x.2.2.2.2.1 with
 | true => rw [h1] at h; cases h
 | false =>
  cases h2 : x.2.2.2.1 with
  | true => rfl
  | false => rw [h1, h2] at h; cases h
theorem ucode0 {x : D_Store} (hu : ucode x = 0) : upc x = 0 ∧ roomc x = 0 := by
 unfold ucode at hu
 split at hu
 ·rename_i h1; exact ⟨h1, hu⟩
 ·rename_i h1; exact absurd hu h1
theorem s_torn {x : D_Store} {l : List D_Txn} {ds : List Int} (hb : BO x l ds) (how : Int) (fs : List Int) (hf : fs.length ≤ 4096) : c_s_l13SubmitTorn R x l ds how fs = some (if ucode x = 0 then tornR x l ds how fs else x, (ucode x, ())) := by
 have hs := SO.of hb.s
 rw [show c_s_l13SubmitTorn R x l ds how fs = _ from call (q_s_l13SubmitTorn R L x l ds how fs)]
 by_cases h2 : how = 2
 ·subst h2
  rw [s_submit hb]
  by_cases hu : ucode x = 0
  ·have hup : (subR x l ds).2.2.2.1 = true := upb (ucode0 hu).1
   rw [if_pos hu, if_pos hu, hu]
   simp (disch := omega) only [st, hup, Bool.not_true]
   rfl
  ·rw [if_neg hu, if_neg hu]
   obtain ⟨a, b, c, u, v⟩ := x
   cases u <;> simp (disch := omega) only [st, Bool.not_false]
 ·rw [s_up, s_room hs]
  by_cases h0 : upc x = 0
  ·have e : ucode x = roomc x := if_pos h0
   rw [e, h0]
   by_cases h1 : roomc x = 0
   ·have d := nD_DW hb
    obtain ⟨_, s2⟩ := subm hb h0 h1
    rw [h1, if_pos rfl, s2]
    unfold tornR tornS
    rw [if_neg h2]
    by_cases h3 : how = 0
    ·subst h3
     simp (disch := omega) only [st, Bool.not_true, s_crash d fs (show fs.length ≤ 1048576 by omega)]
     rfl
    ·rw [if_neg h3]
     simp (disch := omega) only [st, Bool.not_true, s_sync _ d.l1 d.l2 d.at_, setU_nD hb]
   ·rw [if_neg h1]
    simp (disch := omega) only [st, Bool.not_true, Bool.not_false]
  ·have e : ucode x = upc x := if_neg h0
   rw [e, if_neg h0]
   simp (disch := omega) only [st, Bool.not_false]
noncomputable def tornW (x : D_Store) (l : List D_Txn) (ds : List Int) (how : Int) (fs : List Int) : D_Store :=
 if tcode x l ds how fs = 0 then (if ucode x = 0 then tornR x l ds how fs else x) else noS
def tornC (x : D_Store) (l : List D_Txn) (ds : List Int) (how : Int) (fs : List Int) : Int :=
 if tcode x l ds how fs = 0 then ucode x else tcode x l ds how fs
theorem tcode_split {x : D_Store} {l : List D_Txn} {ds : List Int} {how : Int} {fs : List Int} (h1 : ¬ 4096 < fs.length) : (scode x l ds ≠ 0 → tcode x l ds how fs = scode x l ds) ∧ (scode x l ds = 0 → tcode x l ds how fs = cond (tearB how fs) 0 4) :=
 ⟨fun h => by unfold tcode; rw [if_neg h1, if_neg h], fun h => by unfold tcode; rw [if_neg h1, if_pos h]⟩
theorem i_submT {x : D_Store} {l : List D_Txn} {ds : List Int} (how : Int) (fs : List Int) (hl : ∀ t ∈ l, t.1.length ≤ 4611686018427387904) :
  c_i_SubmitTorn R x l ds how fs = some (tornW x l ds how fs, (tornC x l ds how fs, ())) := by
 rw [show c_i_SubmitTorn R x l ds how fs = _ from call (q_i_SubmitTorn R L x l ds how fs)]
 unfold tornW tornC
 by_cases h1 : 4096 < fs.length
 ·have e : tcode x l ds how fs = 2 := if_pos h1
  rw [dT (show (4096 : Int) < (fs.length : Int) by omega), e]; rfl
 ·rw [dF (show ¬ (4096 : Int) < (fs.length : Int) by omega), i_scode x l ds hl]
  obtain ⟨t1, t2⟩ := tcode_split (x := x) (l := l) (ds := ds) (how := how) h1
  by_cases h : scode x l ds = 0
  ·have hb := scode0 h
   have hs := SO.of hb.s
   rw [t2 h, h, i_tear how fs (by omega)]
   cases ht : tearB how fs with
   | false => rfl
   | true =>
    simp (disch := omega) only [st, Bool.not_true, Bool.not_false, if_true]
    by_cases hu : ucode x = 0
    ·rw [if_pos hu, hu, (subm hb (ucode0 hu).1 (ucode0 hu).2).1]
     simp (disch := omega) only [st, Bool.not_true, i_torn hb how fs (show fs.length ≤ 4096 by omega)]
    ·obtain ⟨d, r, e⟩ := subm_n hb hu
     rw [if_neg hu, e]
     simp (disch := omega) only [st, Bool.not_false, own_i hs]
  ·rw [t1 h, if_neg h, if_neg h]
   simp (disch := omega) only [st, Bool.not_false]
theorem s_submT {x : D_Store} {l : List D_Txn} {ds : List Int} (how : Int) (fs : List Int) (hl : ∀ t ∈ l, t.1.length ≤ 4611686018427387904) :
  c_s_SubmitTorn R x l ds how fs = some (tornW x l ds how fs, (tornC x l ds how fs, ())) := by
 have hq : c_s_SubmitTorn R x l ds how fs = _ := call (q_s_SubmitTorn R L x l ds how fs)
 have two : tcode x l ds how fs = 2 → (some (([], ((0, (0, (0, (0, ([], ([], ([], ()))))))), (([], ([], ())), (false, (false, ()))))), (2, ())) : Option (D_Store × (Int × Unit))) = some (tornW x l ds how fs, (tornC x l ds how fs, ())) := fun e => by
  unfold tornW tornC
  rw [e]; rfl
 rw [hq]
 by_cases h1 : 4096 < l.length
 ·rw [dT (show (4096 : Int) < (l.length : Int) by omega)]
  refine two ?_
  have e : scode x l ds = 2 := if_pos h1
  unfold tcode
  split
  ·rfl
  ·rw [e]; rfl
 ·rw [dF (show ¬ (4096 : Int) < (l.length : Int) by omega)]
  by_cases h2 : 4096 < ds.length
  ·rw [dT (show (4096 : Int) < (ds.length : Int) by omega)]
   refine two ?_
   have e : scode x l ds = 2 := by unfold scode; rw [if_neg h1, if_pos h2]
   unfold tcode
   split
   ·rfl
   ·rw [e]; rfl
  ·rw [dF (show ¬ (4096 : Int) < (ds.length : Int) by omega)]
   by_cases h3 : 4096 < fs.length
   ·rw [dT (show (4096 : Int) < (fs.length : Int) by omega)]
    exact two (if_pos h3)
   ·rw [dF (show ¬ (4096 : Int) < (fs.length : Int) by omega), s_scode x l ds hl h1 h2]
    unfold tornW tornC
    obtain ⟨t1, t2⟩ := tcode_split (x := x) (l := l) (ds := ds) (how := how) h3
    by_cases h : scode x l ds = 0
    ·have hb := scode0 h
     rw [t2 h, h, s_tear hb.s how fs (by omega)]
     cases ht : tearB how fs with
     | false => rfl
     | true =>
      simp (disch := omega) only [st, Bool.not_true, if_true, s_torn hb how fs (show fs.length ≤ 4096 by omega)]
      by_cases hu : ucode x = 0
      ·rw [if_pos hu, own_s' (x := tornR x l ds how fs) (by show (tornS x l ds how fs).length ≤ _; rw [(tornS_b hb how fs).1]; decide) (Nat.zero_le _)]; rfl
      ·rw [if_neg hu, own_s (SO.of hb.s).dw]; rfl
    ·rw [t1 h, if_neg h, if_neg h]
     simp (disch := omega) only [st, Bool.not_false]
theorem tornW_cnt {x : D_Store} (h2 : cnt T_Store x ≤ 1048576) (l : List D_Txn) (ds : List Int) (how : Int) (fs : List Int) : cnt T_Store (tornW x l ds how fs) ≤ 1048576 := by
 unfold tornW
 by_cases h : tcode x l ds how fs = 0
 ·rw [if_pos h]
  by_cases hu : ucode x = 0
  ·rw [if_pos hu]
   have hsc : scode x l ds = 0 := by
    unfold tcode at h
    split at h
    ·cases h
    ·split at h
     ·assumption
     ·rename_i h3; exact absurd h h3
   have hb := scode0 hsc
   have hs := SO.of hb.s
   obtain ⟨b1, b2⟩ := tornS_b hb how fs
   have hc := cnt_S _ 2000 b2
   rw [b1] at hc
   unfold tornR
   by_cases h3 : how = 2
   ·rw [if_pos h3]
    have e : cnt T_Store ((x.1, (nR x l ds, ((tornS x l ds how fs, ([], ())), (false, x.2.2.2.2)))) : D_Store) = _ := cnt_St x.1 x.2.1.2.2.2.2.1 (chainD x.2.1.2.2.2.2.2.1 (nT x l ds)) x.2.1.2.2.2.2.2.2.1 0 0 0 0 (tornS x l ds how fs) false false
    have hch : (chainD x.2.1.2.2.2.2.2.1 (nT x l ds)).length = 32 := by unfold chainD; rw [dig_len]
    rw [e, hs.k, hs.t1, hs.t3, hch]
    omega
   ·rw [if_neg h3]
    have e : cnt T_Store ((x.1, (x.2.1, ((tornS x l ds how fs, ([], ())), (false, x.2.2.2.2)))) : D_Store) = _ := cnt_St x.1 x.2.1.2.2.2.2.1 x.2.1.2.2.2.2.2.1 x.2.1.2.2.2.2.2.2.1 0 0 0 0 (tornS x l ds how fs) false false
    rw [e, hs.k, hs.t1, hs.t2, hs.t3]
    omega
  ·rw [if_neg hu]; exact h2
 ·rw [if_neg h]; decide
theorem m_I2 (x : List Int) (k : Nat) (hx : cnt (.sl (.int .i64)) x ≤ 1048576) (hk : k ≤ 100000000) : ∃ (k' : Nat) (x' : List Int), k' ≤ k + 18000000 ∧ c_l_markIntS R x k = some ((k' : Int), (x', ())) := by
 have n2 := nmk_le false (.sl (.int .i64)) x
 have l2 := lens_cnt (.sl (.int .i64)) x
 have s2 := mk_snd mt false (.sl (.int .i64)) x k
 rw [show wd (.sl (.int .i64)) = 1 from rfl] at n2
 exact ⟨_, _, by omega, mark_IntS x k (by omega) (by omega)⟩
theorem law_SubmitTorn (x : D_Store) (y : List D_Txn) (z : List Int) (how : Int) (fs : List Int) (hx : Fine T_Store x) (hy : Fine (.sl T_Txn) y) (hz : Fine (.sl (.int .i64)) z) (hhow : Fine (.int .i64) how) (hfs : Fine (.sl (.int .i64)) fs) : c_l_FnExactSubmitTorn R x y z how fs = some (true, ()) := by
 rw [show c_l_FnExactSubmitTorn R x y z how fs = _ from call (q_l_FnExactSubmitTorn R L x y z how fs)]
 by_cases h1 : 1048576 < z.length
 ·rw [dT (show (1048576 : Int) < (z.length : Int) by omega)]; rfl
 ·rw [dF (show ¬ (1048576 : Int) < (z.length : Int) by omega)]
  by_cases h0 : 1048576 < fs.length
  ·rw [dT (show (1048576 : Int) < (fs.length : Int) by omega)]; rfl
  ·rw [dF (show ¬ (1048576 : Int) < (fs.length : Int) by omega), sz_Store x 1048576 (by decide) (by decide) hx]
   by_cases h2 : cnt T_Store x ≤ 1048576
   ·rw [szF_t (by omega)]
    simp (disch := omega) only [st, dF]
    rw [sz_TxnS y _ (by omega) (by omega) hy]
    by_cases h3 : cnt (.sl T_Txn) y ≤ 1048576 - cnt T_Store x
    ·rw [szF_t (by omega)]
     simp (disch := omega) only [st, dF]
     have hc : cnt (.sl (.int .i64)) z ≤ 1048576 := by rw [cnt_I]; omega
     have hc2 : cnt (.sl (.int .i64)) fs ≤ 1048576 := by rw [cnt_I]; omega
     have hb : ∀ t ∈ y, t.1.length ≤ 4611686018427387904 := fun t ht => by have := cnt_T t ht; omega
     obtain ⟨k1, x', b1, m1, _⟩ := mh_S x 1 h2 (by decide)
     obtain ⟨k2, y', b2, m2⟩ := m_T y k1 (by omega) (by omega)
     obtain ⟨k3, z', b3, m3⟩ := m_I2 z k2 hc (by omega)
     obtain ⟨k4, f', m4⟩ := m_I fs k3 hc2 (by omega)
     have m1 : c_l_markStore R x 1 = _ := m1
     have e1 := s_submT (x := x) (ds := z) how fs hb
     have e2 := i_submT (x := x) (ds := z) how fs hb
     have hW := tornW_cnt h2 y z how fs
     generalize tornW x y z how fs = W at e1 e2 hW
     obtain ⟨k5, W', _, m5, m6⟩ := mh_S W 1 hW (by decide)
     have m5 : c_l_markStore R W 1 = _ := m5
     have m6 : c_l_heldStore R W' 1 = _ := m6
     simp (disch := omega) only [st, dF, to_Store x h2, to_TxnS y (show cnt (.sl T_Txn) y ≤ 1048576 by omega), to_IntS z hc, to_IntS fs hc2, e1, e2, eq_Store W hW, eq_Store x h2, eq_TxnS y (show cnt (.sl T_Txn) y ≤ 1048576 by omega), eq_IntS z hc, eq_IntS fs hc2, m1, m2, m3, m4, m5, m6, Bool.not_true, Bool.not_false]
    ·rw [szF_f (by omega)]; rfl
   ·rw [szF_f (by omega)]; rfl
end Go.Rf.S

end
