import Derived.Test.YtkiejckaaipdkaaGreatDoorWli9
set_option linter.unusedVariables false
set_option linter.unusedSimpArgs false
namespace Go.Rf.S
set_option maxRecDepth 100000
set_option linter.unusedVariables false
set_option linter.unusedSimpArgs false

theorem mapF_B : ∀ (l : List D_Entry) (p : Option Int), mapF p l = true → ∀ e ∈ l, (1 ≤ e.1 ∧ e.1 ≤ 9999) ∧ (0 ≤ e.2.1 ∧ e.2.1 ≤ 999999)
  | [], _, _, e, he => by cases he
  | x :: l, p, h, e, he => by
    unfold mapF at h
    simp only [Bool.and_eq_true] at h
    obtain ⟨h1, h2, _, h4⟩ := h
    rcases List.mem_cons.1 he with rfl | he
    · exact ⟨inB_bounds h1, inB_bounds h2⟩
    · exact mapF_B l _ h4 e he
theorem wldB {w : D_World} (h : worldOK w = true) (hs : SmallW w) : WldB w := by
  unfold worldOK at h
  simp only [Bool.and_eq_true] at h
  obtain ⟨h1, _, h3, h4, h5, _⟩ := h
  unfold mapOK at h3
  simp only [Bool.and_eq_true, decide_eq_true_eq] at h3
  have hr := storeOK_reg h1
  unfold regOK at hr
  simp only [Bool.and_eq_true] at hr
  have hc := inB_bounds hr.2.2.2.1
  have he := inB_bounds hr.1
  have hw : (w.2.2.2.1.length : Int) = IntKind.wrap .i64 (w.1.2.1.2.2.1 - w.1.2.1.1) := by
    unfold waitW at h4
    rw [eqI_iff, decide_eq_true_eq] at h4
    exact h4
  rw [wrap_id (by omega) (by omega)] at hw
  refine ⟨h3.2, mapF_B _ _ h3.1, by omega, fun l hl => batB (List.all_eq_true.1 h5 l hl)⟩
/-- How many marks a type's own values bear. -/
def wid : Ty → Nat
  | .int _ => 1
  | .str => 1
  | .sl t => wid t
  | .pair a b => wid a + wid b
  | _ => 0
theorem nmk_le : ∀ (c : Bool) (t : Ty) (x : t.D), nmk c t x ≤ wid t * (cnt t x + 1)
  | true, .int _, _ => by show 1 ≤ 1 * (0 + 1); decide
  | true, .str, x => by show 1 ≤ 1 * (List.length x + 1); omega
  | c, .sl t, x => by
    have e : nmk c (.sl t) x = (List.map (nmk true t) x).sum := by cases c <;> rfl
    have e2 : cnt (.sl t) x = List.length x + (List.map (cnt t) x).sum := rfl
    have : (List.map (nmk true t) x).sum ≤ wid t * (List.length x + (List.map (cnt t) x).sum) := by
      clear e e2
      induction x with
      | nil => simp
      | cons y ys ih =>
        have hy := nmk_le true t y
        simp only [List.map_cons, List.sum_cons, List.length_cons]
        rw [show wid t * (ys.length + 1 + (cnt t y + (ys.map (cnt t)).sum)) = wid t * (cnt t y + 1) + wid t * (ys.length + (ys.map (cnt t)).sum) by rw [← Nat.mul_add]; congr 1; omega]
        have ih' : (List.map (nmk true t) ys).sum ≤ wid t * (List.length ys + (List.map (cnt t) ys).sum) := ih
        omega
    rw [e, e2]
    show _ ≤ wid t * _
    exact Nat.le_trans this (Nat.mul_le_mul_left _ (by omega))
  | c, .pair a b, x => by
    have e : nmk c (.pair a b) x = nmk c a x.1 + nmk c b x.2 := by cases c <;> rfl
    have h1 := nmk_le c a x.1
    have h2 := nmk_le c b x.2
    have e2 : cnt (.pair a b) x = cnt a x.1 + cnt b x.2 := rfl
    rw [e, e2]
    show _ ≤ (wid a + wid b) * _
    rw [Nat.add_mul]
    have i1 : wid a * (cnt a x.1 + 1) ≤ wid a * (cnt a x.1 + cnt b x.2 + 1) := Nat.mul_le_mul_left _ (by omega)
    have i2 : wid b * (cnt b x.2 + 1) ≤ wid b * (cnt a x.1 + cnt b x.2 + 1) := Nat.mul_le_mul_left _ (by omega)
    omega
  | false, .int _, _ => Nat.zero_le _
  | false, .str, _ => Nat.zero_le _
  | true, .bool, _ => Nat.zero_le _
  | true, .fn, _ => Nat.zero_le _
  | true, .unit, _ => Nat.zero_le _
  | true, .ptr _, _ => Nat.zero_le _
  | true, .arr _ _, _ => Nat.zero_le _
  | false, .bool, _ => Nat.zero_le _
  | false, .fn, _ => Nat.zero_le _
  | false, .unit, _ => Nat.zero_le _
  | false, .ptr _, _ => Nat.zero_le _
  | false, .arr _ _, _ => Nat.zero_le _
theorem m_World (x : D_World) (h : cnt T_World x ≤ 1048576) : ∃ (k : Nat) (y : D_World), c_laws_markWorld R x (1 : Int) = some ((k : Int), (y, ())) := by
  have l := lens_cnt T_World x
  have n := nmk_le false T_World x
  have hw : wid T_World ≤ 100 := by decide
  have : wid T_World * (cnt T_World x + 1) ≤ 100 * 1048577 := Nat.mul_le_mul hw (by omega)
  exact ⟨_, _, mark_World x 1 (by omega) (by omega)⟩
theorem nmkS : ∀ (x : List (List UInt8)), (x.map (nmk true .str)).sum = x.length
  | [] => rfl
  | e :: xs => by
    have := nmkS xs
    show 1 + (xs.map (nmk true .str)).sum = xs.length + 1
    omega
theorem mh_S (x : List (List UInt8)) (h : cnt (.sl .str) x ≤ 100000) : ∃ (k' : Nat) (x' : List (List UInt8)), c_laws_markStringS R x (1 : Int) = some ((k' : Int), (x', ())) ∧ c_laws_heldStringS R x' (1 : Int) = some ((k' : Int), ()) := by
  have n : nmk false (.sl .str) x = x.length := nmkS x
  have l := lens_cnt (.sl .str) x
  have c : cnt (.sl .str) x = x.length + (x.map (cnt .str)).sum := rfl
  have s := mk_snd mt false (.sl .str) x 1
  exact ⟨_, _, mark_StringS x 1 (by omega) (by omega), held_StringS (mk_ mt false (.sl .str) x 1).1 1 _ (Nat.le_trans (Nat.le_of_eq (lens_mk mt false (.sl .str) x 1)) (by omega)) (by omega) (hd_mk mt false (.sl .str) x 1)⟩

abbrev D_SL : Type := List (List UInt8) × (Int × Unit)
def worldL (x : D_World) : D_SL := cond (worldOK x) (linesW x, (0, ())) ([], (1, ()))
theorem p_spec_WorldLines (x : D_World) (hs : SmallW x) : c_spec_WorldLines R x = some (worldL x) := by
  have hq : c_spec_WorldLines R x = _ := call (q_spec_WorldLines R L x)
  rw [hq, p_spec_WorldOK x hs]
  simp only [Option.bind_some]
  unfold worldL
  cases h : worldOK x with
  | false => rfl
  | true => rw [p_spec_l15World x (wldB h hs)]; rfl
theorem p_impl_WorldLines (x : D_World) (hs : SmallW x) : c_impl_WorldLines R x = some (worldL x) := by
  have hq : c_impl_WorldLines R x = _ := call (q_impl_WorldLines R L x)
  rw [hq, p_impl_WorldOK x hs]
  simp only [Option.bind_some]
  unfold worldL
  cases h : worldOK x with
  | false => rfl
  | true => rw [p_impl_lines x (wldB h hs)]; rfl
theorem sum_le {α : Type} {f : α → Nat} {B : Nat} : ∀ {l : List α}, (∀ x ∈ l, f x ≤ B) → (l.map f).sum ≤ l.length * B
  | [], _ => by simp
  | x :: l, h => by
    have := sum_le (l := l) fun y hy => h y (List.mem_cons_of_mem _ hy)
    have h0 := h x (List.mem_cons_self ..)
    simp only [List.map_cons, List.sum_cons, List.length_cons, Nat.add_mul]
    omega
theorem worldL_ok (x : D_World) (hs : SmallW x) : cnt (.sl .str) (worldL x).1 ≤ 100000 := by
  unfold worldL
  cases h : worldOK x with
  | false => exact show 0 + 0 ≤ 100000 by decide
  | true =>
    have hw := wldB h hs
    have hm := hw.ml
    have hq := hw.ql
    have b1 : ∀ s ∈ linesW x, (cnt .str s) ≤ 700 := fun s hs => by
      show s.length ≤ 700
      unfold linesW at hs
      rcases List.mem_append.1 hs with hs | hs
      · rcases List.mem_append.1 hs with hs | hs
        · obtain ⟨e, he, rfl⟩ := List.mem_map.1 hs
          have hb := hw.m e he
          have l1 := digI_len (v := e.1) (by omega)
          have l2 := digI_len (v := e.2.1) (by omega)
          unfold lineE
          simp only [List.length_append, List.length_cons, List.length_nil]
          omega
        · obtain ⟨l, hl, rfl⟩ := List.mem_map.1 hs
          have hl := batText_len (hw.q l hl)
          unfold lineQ
          simp only [List.length_append, List.length_cons, List.length_nil]
          omega
      · rw [List.mem_singleton.1 hs]
        unfold lineG
        cases x.2.2.2.2.2.1 <;> decide
    have hl : (linesW x).length ≤ 16 := by
      unfold linesW
      simp only [List.length_append, List.length_map, List.length_cons, List.length_nil]
      omega
    have := sum_le b1
    have h2 : (linesW x).length * 700 ≤ 16 * 700 := Nat.mul_le_mul_right _ hl
    exact Nat.le_trans (Nat.add_le_add hl (Nat.le_trans this h2)) (by decide)

/-- The law. -/
theorem law_WorldLines (x : D_World) (hx : Fine T_World x) : c_laws_FnExactWorldLines R x = some (true, ()) := by
  have hq : c_laws_FnExactWorldLines R x = _ := call (q_laws_FnExactWorldLines R L x)
  rw [hq, sz_World x 1048576 (by omega) (by omega) hx]
  simp only [Option.bind_some]
  by_cases h : cnt T_World x ≤ 1048576
  · rw [szF_t (by omega), decide_eq_false (by omega)]
    simp only [cond_false]
    have hs := smallW h
    have o2 := worldL_ok x hs
    have i1 := p_impl_WorldLines x hs
    have i2 := p_spec_WorldLines x hs
    generalize worldL x = r at o2 i1 i2
    obtain ⟨k, y, m1⟩ := m_World x h
    obtain ⟨k2, r', m2, q2⟩ := mh_S r.1 o2
    rw [to_World x h]
    simp only [Option.bind_some]
    rw [i1, i2]
    simp only [Option.bind_some]
    rw [eq_StringS _ (Nat.le_trans o2 (by decide)), eq_World x h]
    simp only [Option.bind_some, Bool.not_true, cond_false, eqI_iff, decide_true]
    rw [m1]
    simp only [Option.bind_some]
    rw [decide_eq_false (p := (k : Int) < 0) (by omega)]
    simp only [cond_false]
    rw [m2]
    simp only [Option.bind_some]
    rw [q2]
    simp only [Option.bind_some]
    rw [decide_eq_false (p := (k2 : Int) < 0) (by omega)]
    simp only [cond_false, decide_true, Bool.not_true]
  · rw [szF_f (by omega)]; rfl
end Go.Rf.S
