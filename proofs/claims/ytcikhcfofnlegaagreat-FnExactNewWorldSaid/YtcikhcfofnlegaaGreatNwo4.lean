/- What the program computes, in plain words: part 8. No condition. -/
import Derived.Test.YtcikhcfofnlegaaGreatNwo3
set_option linter.unusedVariables false
set_option linter.unusedSimpArgs false
section
namespace Go.Rf.S
set_option maxRecDepth 100000
set_option linter.unusedVariables false
set_option linter.unusedSimpArgs false
def wd : Ty → Nat
 | .sl t => wd t
 | .pair a b => wd a + wd b
 | _ => 1
theorem nmk_le : ∀ (c : Bool) (t : Ty) (x : t.D), nmk c t x ≤ wd t * (cnt t x + 1)
 | c, .sl t, x => by
  have h : ∀ l : List t.D, (l.map (nmk true t)).sum ≤ wd t * (l.length + (l.map (cnt t)).sum) := fun l => by
   induction l with
   | nil => simp
   | cons a l ih =>
    have := nmk_le true t a
    simp only [List.map_cons, List.sum_cons, List.length_cons]
    have e : wd t * (l.length + 1 + (cnt t a + (l.map (cnt t)).sum)) = wd t * (cnt t a + 1) + wd t * (l.length + (l.map (cnt t)).sum) := by rw [← Nat.mul_add]; congr 1; omega
    omega
  have e : nmk c (.sl t) x = (List.map (nmk true t) x).sum := by cases c <;> rfl
  have e2 : cnt (.sl t) x = List.length x + (List.map (cnt t) x).sum := rfl
  rw [e, e2]
  have := h x
  show _ ≤ wd t * _
  rw [Nat.mul_add]; omega
 | c, .pair a b, x => by
  have h1 := nmk_le c a x.1
  have h2 := nmk_le c b x.2
  have e : nmk c (.pair a b) x = nmk c a x.1 + nmk c b x.2 := by cases c <;> rfl
  have e2 : cnt (.pair a b) x = cnt a x.1 + cnt b x.2 := rfl
  rw [e, e2]
  show _ ≤ (wd a + wd b) * _
  have e3 : (wd a + wd b) * (cnt a x.1 + cnt b x.2 + 1) = wd a * (cnt a x.1 + 1) + wd a * cnt b x.2 + (wd b * (cnt b x.2 + 1) + wd b * cnt a x.1) := by
   simp only [Nat.add_mul, Nat.mul_add, Nat.mul_one]; omega
  omega
 | c, .int _, x => by cases c <;> simp [nmk, wd, cnt]
 | c, .bool, x => by cases c <;> simp [nmk, wd, cnt]
 | c, .str, x => by cases c <;> simp [nmk, wd, cnt]
 | c, .fn, x => by cases c <;> simp [nmk, wd, cnt]
 | c, .unit, x => by cases c <;> simp [nmk, wd, cnt]
 | c, .ptr _, x => by cases c <;> simp [nmk, wd, cnt]
 | c, .arr _ _, x => by cases c <;> simp [nmk, wd, cnt]
theorem m_I (x : List Int) (k : Nat) (hx : cnt (.sl (.int .i64)) x ≤ 1048576) (hk : k ≤ 100000000) : ∃ (k' : Nat) (x' : List Int), c_laws_markIntS R x k = some ((k' : Int), (x', ())) := by
 have n2 := nmk_le false (.sl (.int .i64)) x
 have w : wd (.sl (.int .i64)) = 1 := rfl
 have l2 := lens_cnt (.sl (.int .i64)) x
 rw [w] at n2
 exact ⟨_, _, mark_IntS x k (by omega) (by omega)⟩
theorem mh_W (x : D_World) (k : Nat) (hx : cnt T_World x ≤ 1048576) (hk : k ≤ 100000000) : ∃ (k' : Nat) (x' : D_World), c_laws_markWorld R x k = some ((k' : Int), (x', ())) ∧ c_laws_heldWorld R x' k = some ((k' : Int), ()) := by
 have n1 := nmk_le false T_World x
 have w : wd T_World = 35 := rfl
 rw [w] at n1
 have l1 := lens_cnt T_World x
 have s1 := mk_snd mt false T_World x k
 exact ⟨_, _, mark_World x k (by omega) (by omega), held_World (mk_ mt false T_World x k).1 k _ (Nat.le_trans (Nat.le_of_eq (lens_mk mt false T_World x k)) (by omega)) (by omega) (hd_mk mt false T_World x k)⟩
theorem p_areShort (l : List (List UInt8)) (hl : l.length ≤ 100) (hs : ∀ s ∈ l, s.length ≤ 1099511627776) : c_impl_areShort R l = some (l.all fun s => decide (s.length ≤ 65536), ()) := by
 rw [show c_impl_areShort R l = _ from call (q_impl_areShort R L l), show c_impl_areAll_string_ R l (FnVal.mk 186 FCaps.nil) = _ from all_impl_areAll_string_ l _ (fun s => decide (s.length ≤ 65536)) (by omega) fun s _ => by
  rw [cv_impl_areShort_1, show c_impl_areShort_1 R s = _ from call (q_impl_areShort_1 R L s)]
  show some (decide ((s.length : Int) ≤ 65536)) = _
  congr 1
  rw [decide_eq_decide]; omega]
 rfl
abbrev noS : D_Store := ([], ((0, (0, (0, (0, ([], ([], ([], ()))))))), (([], ([], ())), (false, (false, ())))))
abbrev noW : D_World := (noS, (([], ([], ())), ([], ([], ([], (false, ()))))))
def begT : List UInt8 := [98, 101, 103, 105, 110]
noncomputable def sid0 (key : List UInt8) (l : List Int) : List (List UInt8) := sideF key 0 0 (newE l) []
noncomputable def newS (key : List UInt8) (l : List Int) : D_Store := (key, ((0, (0, (0, (0, (dig begT, (dig begT, (rootF (sid0 key l), ()))))))), ((sid0 key l ++ List.replicate 24 [], ([], ())), (true, (false, ())))))
noncomputable def newW (key : List UInt8) (l : List Int) : D_World := (newS key l, ((sid0 key l ++ List.replicate 24 [], ([], ())), ([], ([], ([], (true, ()))))))
def icode (key : List UInt8) (l : List Int) : Int := if 65536 < key.length then 2 else if 4096 < l.length then 2 else if key.length ≠ 32 then 8 else lcode l
theorem icode0 {key : List UInt8} {l : List Int} (h : icode key l = 0) : key.length = 32 ∧ l.length = 12 ∧ l.all leafB = true ∧ lcode l = 0 := by
 unfold icode at h
 split at h
 ·cases h
 ·split at h
  ·cases h
  ·split at h
   ·cases h
   ·rename_i h1 h2 h3
    have hh := h
    unfold lcode at h
    split at h
    ·cases h
    ·split at h
     ·cases h
     ·split at h
      ·cases h
      ·rename_i h4 h5 h6; exact ⟨by omega, by omega, by simpa using h6, hh⟩
theorem sid0_p {key : List UInt8} {l : List Int} (h : icode key l = 0) : c_impl_sideSectors R key 0 (newE l) [] 0 = some (sid0 key l, ()) ∧ c_spec_l13Side R key 0 0 (newE l) [] = some (sid0 key l, ()) ∧ (sid0 key l).length = 16 ∧ ∀ s ∈ sid0 key l, s.length ≤ 700 := by
 obtain ⟨h1, h2, h3, h4⟩ := icode0 h
 exact side_p (side := 0) (epoch := 0) h1 (newE_EW h4) (by decide) (by decide)
theorem i_Init (key : List UInt8) (l : List Int) (hk : key.length ≤ 1048576) (hl : l.length ≤ 1048576) : c_impl_Init R key l = some (if icode key l = 0 then newS key l else noS, (icode key l, ())) := by
 have hq : c_impl_Init R key l = _ := call (q_impl_Init R L key l)
 rw [hq, p_areShort [key] (by simp) (fun s hs => by rw [List.mem_singleton.1 hs]; omega), i_NewEnc l hl, show [key].all (fun s => decide (s.length ≤ 65536)) = decide (key.length ≤ 65536) by simp]
 by_cases h1 : 65536 < key.length
 ·have e : icode key l = 2 := if_pos h1
  rw [e, if_neg (show ¬ (2 : Int) = 0 by decide)]
  simp (disch := omega) only [st, dF, Bool.not_false]
 ·by_cases h2 : 4096 < l.length
  ·have e : icode key l = 2 := by unfold icode; rw [if_neg h1, if_pos h2]
   rw [e, if_neg (show ¬ (2 : Int) = 0 by decide)]
   simp (disch := omega) only [st, dT, Bool.not_true]
  ·by_cases h3 : key.length ≠ 32
   ·have e : icode key l = 8 := by unfold icode; rw [if_neg h1, if_neg h2, if_pos h3]
    rw [e, if_neg (show ¬ (8 : Int) = 0 by decide)]
    simp (disch := omega) only [st, dT, dF, Bool.not_true, Bool.not_false]
   ·have e : icode key l = lcode l := by unfold icode; rw [if_neg h1, if_neg h2, if_neg h3]
    by_cases h4 : lcode l = 0
    ·have h0 : icode key l = 0 := by rw [e, h4]
     obtain ⟨s1, s2, s3, s4⟩ := sid0_p h0
     have hr := (root_p s3 (fun s hs => Nat.le_trans (s4 s hs) (by decide))).1
     have hd : c_impl_NewDevice R = some ((List.replicate 40 [], ([], ())), ()) := call (q_impl_NewDevice R L)
     have hf : c_impl_firstTip R = some (dig begT, ()) := by
      rw [show c_impl_firstTip R = _ from call (q_impl_firstTip R L)]
      show (c_impl_digest R begT).bind _ = _
      rw [p_digest begT (by decide)]; rfl
     rw [h0, h4, hd, hf]
     simp (disch := omega) only [st, dT, dF, Bool.not_true, if_true, s1, s3, hr, List.length_replicate]
     rfl
    ·rw [e, if_neg h4, if_neg h4]
     simp (disch := omega) only [st, dT, dF, Bool.not_true, Bool.not_false]
theorem lay40 (l : List (List UInt8)) (hl : l.length = 16) : setU (List.replicate 40 []) (layU 0 l) = l ++ List.replicate 24 [] := by
 rw [setU_lay, setAt_eq _ _ _ (by rw [List.length_replicate]; omega), hl]
 simp
theorem s_Init (key : List UInt8) (l : List Int) (h : icode key l = 0) : c_spec_l13Init R key l = some (newS key l, ()) := by
 obtain ⟨h1, h2, h3, h4⟩ := icode0 h
 obtain ⟨s1, s2, s3, s4⟩ := sid0_p h
 unfold newS
 generalize sid0 key l = S at s1 s2 s3 s4
 have hr := (root_p s3 (fun s hs => Nat.le_trans (s4 s hs) (by decide))).2
 have hd : c_spec_NewDevice R = some ((List.replicate 40 [], ([], ())), ()) := call (q_spec_NewDevice R L)
 have hly := s_lay (List.replicate 40 [], ([], ())) 0 S (by decide) (by omega) (Nat.zero_le _)
 rw [Nat.mul_zero, List.nil_append] at hly
 have ll : (layU 0 S).length = 16 := by unfold layU; rw [List.length_mapIdx, s3]
 have hsy := s_sync (List.replicate 40 [], (layU 0 S, ())) (by rw [List.length_replicate]; decide) (by show (layU 0 S).length ≤ _; omega) (fun x hx => by
  obtain ⟨i, hi, rfl⟩ := List.mem_mapIdx.1 hx
  rw [s3] at hi
  rw [List.length_replicate]
  show 0 ≤ ((0 + i : Nat) : Int) ∧ ((0 + i : Nat) : Int).toNat < 40
  omega)
 rw [lay40 _ s3] at hsy
 have hb : c_spec_l01Of R [98, 101, 103, 105, 110] = some (dig begT, ()) := p_l01Of begT (by decide)
 rw [show c_spec_l13Init R key l = _ from call (q_spec_l13Init R L key l), s_NewEnc l h4]
 simp only [st, s2, hb, hr, hd]
 rw [show c_spec_l13Lay R (List.replicate 40 [], ([], ())) 0 S = _ from hly]
 simp only [st, hsy]
theorem i_NewWorld (key : List UInt8) (l : List Int) (hk : key.length ≤ 1048576) (hl : l.length ≤ 1048576) : c_impl_NewWorld R key l = some (if icode key l = 0 then newW key l else noW, (icode key l, ())) := by
 rw [show c_impl_NewWorld R key l = _ from call (q_impl_NewWorld R L key l), i_Init key l hk hl]
 by_cases h : icode key l = 0
 ·obtain ⟨s1, s2, s3, s4⟩ := sid0_p h
  have := (dev_own (sid0 key l ++ List.replicate 24 [], ([], ())) (by rw [List.length_append, s3, List.length_replicate]; decide) (Nat.zero_le _)).1
  rw [if_pos h, if_pos h, h]
  have e : (newS key l).2.2.1 = (sid0 key l ++ List.replicate 24 [], ([], ())) := rfl
  simp (disch := omega) only [st, Bool.not_true, e, this]
  rfl
 ·rw [if_neg h, if_neg h]
  simp (disch := omega) only [st, Bool.not_false]
theorem s_NewWorld (key : List UInt8) (l : List Int) (hk : key.length ≤ 1048576) (hl : l.length ≤ 1048576) : c_spec_NewWorld R key l = some (if icode key l = 0 then newW key l else noW, (icode key l, ())) := by
 rw [show c_spec_NewWorld R key l = _ from call (q_spec_NewWorld R L key l)]
 by_cases h1 : 65536 < key.length
 ·have e : icode key l = 2 := if_pos h1
  rw [e, if_neg (show ¬ (2 : Int) = 0 by decide)]
  simp (disch := omega) only [st, dT]
 ·by_cases h2 : 4096 < l.length
  ·have e : icode key l = 2 := by unfold icode; rw [if_neg h1, if_pos h2]
   rw [e, if_neg (show ¬ (2 : Int) = 0 by decide)]
   simp (disch := omega) only [st, dT, dF]
  ·rw [s_leaves l (by omega)]
   by_cases h3 : key.length ≠ 32
   ·have e : icode key l = 8 := by unfold icode; rw [if_neg h1, if_neg h2, if_pos h3]
    rw [e, if_neg (show ¬ (8 : Int) = 0 by decide)]
    simp (disch := omega) only [st, dT, dF, Bool.not_true, Bool.not_false]
   ·have e : icode key l = lcode l := by unfold icode; rw [if_neg h1, if_neg h2, if_neg h3]
    by_cases h5 : l.length ≠ 12
    ·have e2 : lcode l = 8 := by unfold lcode; rw [if_neg h2, if_pos h5]
     rw [e, e2, if_neg (show ¬ (8 : Int) = 0 by decide)]
     simp (disch := omega) only [st, dT, dF, Bool.not_true, Bool.not_false]
    ·cases h6 : l.all leafB with
     | false =>
      have e2 : lcode l = 4 := by unfold lcode; rw [if_neg h2, if_neg h5, if_pos h6]
      rw [e, e2, if_neg (show ¬ (4 : Int) = 0 by decide)]
      simp (disch := omega) only [st, dT, dF, Bool.not_true, Bool.not_false]
     | true =>
      have e2 : lcode l = 0 := by unfold lcode; rw [if_neg h2, if_neg h5, if_neg (by rw [h6]; decide)]
      have h0 : icode key l = 0 := by rw [e, e2]
      obtain ⟨s1, s2, s3, s4⟩ := sid0_p h0
      have n1 : c_spec_l14New R key l = some (newW key l, ()) := by
       rw [show c_spec_l14New R key l = _ from call (q_spec_l14New R L key l), s_Init key l h0]; rfl
      have od := (dev_own (sid0 key l ++ List.replicate 24 [], ([], ())) (by rw [List.length_append, s3, List.length_replicate]; decide) (Nat.zero_le _)).2
      have os : c_spec_l13Own R (newS key l) = some (newS key l, ()) := by
       rw [show c_spec_l13Own R (newS key l) = _ from call (q_spec_l13Own R L (newS key l))]
       show (c_spec_l05Own R (sid0 key l ++ List.replicate 24 [], ([], ()))).bind _ = _
       rw [od]; rfl
      have n2 : c_spec_l14Own R (newW key l) = some (newW key l, ()) := by
       rw [show c_spec_l14Own R (newW key l) = _ from call (q_spec_l14Own R L (newW key l))]
       show (c_spec_l13Own R (newS key l)).bind (fun r0 => (c_spec_l05Own R (sid0 key l ++ List.replicate 24 [], ([], ()))).bind _) = _
       rw [os, od]
       show lp_spec_l14Own_0 R L (newW key l) _ [] 0 = _
       rw [show lp_spec_l14Own_0 R L (newW key l) _ [] 0 = _ from round (by kernel_rfl) (q_spec_l14Own_0 R L (newW key l) _ [] 0)]
       show lp_spec_l14Own_1 R L (newW key l) _ [] 0 = _
       rw [show lp_spec_l14Own_1 R L (newW key l) _ [] 0 = _ from round (by kernel_rfl) (q_spec_l14Own_1 R L (newW key l) _ [] 0)]
       rfl
      rw [h0, if_pos rfl]
      simp (disch := omega) only [st, dT, dF, Bool.not_true, Bool.not_false, n1, n2]
end Go.Rf.S

end
section
namespace Go.Rf.S
set_option maxRecDepth 100000
set_option linter.unusedVariables false
set_option linter.unusedSimpArgs false
theorem cnt_S (l : List (List UInt8)) (n : Nat) (h : ∀ s ∈ l, s.length ≤ n) : cnt (.sl .str) l ≤ l.length * (n + 1) := by
 show l.length + (l.map fun s : List UInt8 => s.length).sum ≤ _
 induction l with
 | nil => simp
 | cons a l ih =>
  have h1 := h a (List.mem_cons_self ..)
  have h2 := ih fun s hs => h s (List.mem_cons_of_mem _ hs)
  simp only [List.map_cons, List.sum_cons, List.length_cons, Nat.add_mul] at h2 ⊢
  omega
theorem cnt_I (l : List Int) : cnt (.sl (.int .i64)) l = l.length := by
 show l.length + (l.map fun _ : Int => 0).sum = _
 have : ∀ l : List Int, (l.map fun _ : Int => 0).sum = 0 := fun l => by induction l with
  | nil => rfl
  | cons a l ih => rw [List.map_cons, List.sum_cons, ih]
 rw [this]; rfl
theorem pairs_32 : ∀ (l : List (List UInt8)), ∀ s ∈ pairs l, s.length = 32
 | [], s, h => by cases h
 | [_], s, h => by cases h
 | a :: b :: r, s, h => by
  rcases List.mem_cons.1 h with rfl | h
  ·unfold joinD; rw [dig_len]
  ·exact pairs_32 r s h
theorem rootF_len (l : List (List UInt8)) : (rootF l).length ≤ 32 := by
 unfold rootF
 rw [List.getD_eq_getElem?_getD]
 cases hg : (pairs (pairs (pairs (pairs (leavesD l)))))[0]? with
 | none => decide
 | some s => exact Nat.le_of_eq (pairs_32 _ s (List.mem_of_getElem? hg))
theorem cnt_newW (key b t r : List UInt8) (S : List (List UInt8)) : cnt T_World (((key, ((0, (0, (0, (0, (b, (t, (r, ()))))))), ((S, ([], ())), (true, (false, ()))))), ((S, ([], ())), ([], ([], ([], (true, ())))))) : D_World) =
 (key.length + ((0 + (0 + (0 + (0 + (b.length + (t.length + (r.length + 0))))))) + ((cnt (.sl .str) S + (0 + 0)) + (0 + (0 + 0))))) + ((cnt (.sl .str) S + (0 + 0)) + (0 + (0 + (0 + (0 + 0))))) := rfl
theorem newW_cnt {key : List UInt8} {l : List Int} (h : icode key l = 0) : cnt T_World (newW key l) ≤ 1048576 := by
 obtain ⟨h1, h2, h3, h4⟩ := icode0 h
 obtain ⟨s1, s2, s3, s4⟩ := sid0_p h
 unfold newW newS
 rw [cnt_newW]
 generalize sid0 key l = S at s3 s4
 have hc := cnt_S (S ++ List.replicate 24 []) 700 fun s hs => by
  rcases List.mem_append.1 hs with hs | hs
  ·exact s4 s hs
  ·rw [(List.mem_replicate.1 hs).2]; decide
 have hl : (S ++ List.replicate 24 []).length = 40 := by rw [List.length_append, s3, List.length_replicate]
 rw [hl] at hc
 have hr := rootF_len S
 have hd := dig_len begT
 generalize cnt (.sl .str) (S ++ List.replicate 24 []) = c at hc
 omega
theorem law_NewWorld (x : List UInt8) (y : List Int) (hx : Fine .str x) (hy : Fine (.sl (.int .i64)) y) : c_laws_FnExactNewWorld R x y = some (true, ()) := by
 rw [show c_laws_FnExactNewWorld R x y = _ from call (q_laws_FnExactNewWorld R L x y)]
 by_cases h1 : 1048576 < x.length
 ·rw [dT (show (1048576 : Int) < (x.length : Int) by omega)]; rfl
 ·by_cases h2 : 1048576 < y.length
  ·rw [dF (show ¬ (1048576 : Int) < (x.length : Int) by omega), dT (show (1048576 : Int) < (y.length : Int) by omega)]; rfl
  ·have hc : cnt (.sl (.int .i64)) y ≤ 1048576 := by
    rw [cnt_I]; omega
   have e1 := s_NewWorld x y (by omega) (by omega)
   have e2 := i_NewWorld x y (by omega) (by omega)
   obtain ⟨k1, y', m1⟩ := m_I y 1 hc (by decide)
   have m1 : c_laws_markIntS R y 1 = _ := m1
   obtain ⟨W, hW, eW⟩ : ∃ W : D_World, cnt T_World W ≤ 1048576 ∧ W = if icode x y = 0 then newW x y else noW := by
    by_cases h : icode x y = 0
    ·exact ⟨_, newW_cnt h, (if_pos h).symm⟩
    ·exact ⟨noW, by decide, (if_neg h).symm⟩
   rw [← eW] at e1 e2
   obtain ⟨k2, W', m2, m3⟩ := mh_W W 1 hW (by decide)
   have m2 : c_laws_markWorld R W 1 = _ := m2
   have m3 : c_laws_heldWorld R W' 1 = _ := m3
   simp (disch := omega) only [st, dF, to_IntS y hc, e1, e2, eq_World W hW, eq_IntS y hc, m1, m2, m3, Bool.not_true, Bool.not_false]
end Go.Rf.S

end
