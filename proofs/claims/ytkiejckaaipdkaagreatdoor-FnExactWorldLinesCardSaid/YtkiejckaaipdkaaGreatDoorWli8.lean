import Derived.Test.YtkiejckaaipdkaaGreatDoorWli7
set_option linter.unusedVariables false
set_option linter.unusedSimpArgs false
namespace Go.Rf.S
set_option maxRecDepth 100000
set_option linter.unusedVariables false
set_option linter.unusedSimpArgs false


/-! texts of numbers -/
def dig (n : Nat) : List UInt8 := if n < 10 then [UInt8.ofNat (48 + n)] else dig (n / 10) ++ [UInt8.ofNat (48 + n % 10)]
termination_by n
decreasing_by omega
theorem dig_lt {n : Nat} (h : n < 10) : dig n = [UInt8.ofNat (48 + n)] := by rw [dig]; rw [if_pos h]
theorem dig_ge {n : Nat} (h : ¬ n < 10) : dig n = dig (n / 10) ++ [UInt8.ofNat (48 + n % 10)] := by rw [dig]; rw [if_neg h]
theorem dig_len : ∀ (k n : Nat), n < 10 ^ (k + 1) → (dig n).length ≤ k + 1
  | 0, n, h => by rw [dig_lt (by simpa using h)]; simp
  | k + 1, n, h => by
    by_cases hn : n < 10
    · rw [dig_lt hn]; simp
    · rw [dig_ge hn, List.length_append]
      have := dig_len k (n / 10) (by rw [Nat.pow_succ] at h; omega)
      simp; omega
theorem dig_pos (n : Nat) : 0 < (dig n).length := by
  by_cases h : n < 10
  · rw [dig_lt h]; simp
  · rw [dig_ge h]; simp
theorem dig_mem : ∀ (k n : Nat), n < 10 ^ (k + 1) → ∀ c ∈ dig n, 48 ≤ c.toNat ∧ c.toNat ≤ 57
  | 0, n, h, c, hc => by
    have hn : n < 10 := by simpa using h
    rw [dig_lt hn] at hc
    simp only [List.mem_singleton] at hc
    subst hc
    rw [UInt8.toNat_ofNat']
    omega
  | k + 1, n, h, c, hc => by
    by_cases hn : n < 10
    · rw [dig_lt hn] at hc
      simp only [List.mem_singleton] at hc
      subst hc
      rw [UInt8.toNat_ofNat']
      omega
    · rw [dig_ge hn] at hc
      rcases List.mem_append.1 hc with hc | hc
      · exact dig_mem k (n / 10) (by rw [Nat.pow_succ] at h; omega) c hc
      · simp only [List.mem_singleton] at hc
        subst hc
        rw [UInt8.toNat_ofNat']
        omega
def valL (l : List UInt8) : Nat := l.foldl (fun a c => 10 * a + (c.toNat - 48)) 0
theorem val_snoc (l : List UInt8) (c : UInt8) : valL (l ++ [c]) = 10 * valL l + (c.toNat - 48) := by simp [valL]
theorem val_dig : ∀ (k n : Nat), n < 10 ^ (k + 1) → valL (dig n) = n
  | 0, n, h => by
    have hn : n < 10 := by simpa using h
    rw [dig_lt hn]
    simp only [valL, List.foldl_cons, List.foldl_nil, UInt8.toNat_ofNat']
    omega
  | k + 1, n, h => by
    by_cases hn : n < 10
    · rw [dig_lt hn]
      simp only [valL, List.foldl_cons, List.foldl_nil, UInt8.toNat_ofNat']
      omega
    · rw [dig_ge hn, val_snoc, val_dig k (n / 10) (by rw [Nat.pow_succ] at h; omega), UInt8.toNat_ofNat']
      omega
theorem dig_inj {n m : Nat} (hn : n < 10 ^ 19) (hm : m < 10 ^ 19) (h : dig n = dig m) : n = m := by
  rw [← val_dig 18 n hn, ← val_dig 18 m hm, h]
theorem wrap_u8 {n : Int} (h1 : 0 ≤ n) (h2 : n < 256) : IntKind.wrap .u8 n = n := by
  unfold IntKind.wrap
  show (if (false && _) = true then _ else n % 256) = n
  simp only [Bool.false_and, Bool.false_eq_true, if_false]
  omega
theorem p_spec_l00Digits : ∀ (k n : Nat), n < 10 ^ (k + 1) → n < 1000000000000000000 → k ≤ 20 → c_spec_l00Digits R (n : Int) = some (dig n, ())
  | k, n, h, hb, hk => by
    have hq : c_spec_l00Digits R (n : Int) = _ := call (q_spec_l00Digits R L (n : Int))
    rw [hq, eqI_iff, show decide ((n : Int) = -9223372036854775808) = false from decide_eq_false (by omega), show decide ((n : Int) < 0) = false from decide_eq_false (by omega)]
    simp only [cond_false]
    by_cases hn : n < 10
    · rw [show decide ((n : Int) < 10) = true from decide_eq_true (by omega), dig_lt hn, wrap_id (by omega) (by omega), wrap_u8 (by omega) (by omega)]
      show some ([UInt8.ofNat ((48 + (n : Int)).toNat)], ()) = _
      rw [show (48 + (n : Int)).toNat = 48 + n by omega]
    · rw [show decide ((n : Int) < 10) = false from decide_eq_false (by omega), dig_ge hn]
      simp only [cond_false]
      rw [show Int.tdiv (n : Int) 10 = ((n / 10 : Nat) : Int) from rfl, wrap_id (n := ((n / 10 : Nat) : Int)) (by omega) (by omega)]
      cases k with
      | zero => exact absurd (by simpa using h) hn
      | succ k =>
        have hd : n / 10 < 10 ^ (k + 1) := by rw [Nat.pow_succ] at h; omega
        rw [p_spec_l00Digits k (n / 10) hd (by omega) (by omega)]
        have hl := dig_len k (n / 10) hd
        simp only [Option.bind_some]
        rw [lenOK_t (by simp only [List.length_map, List.length_cons, List.length_nil]; omega), show Int.tmod (n : Int) 10 = ((n % 10 : Nat) : Int) from rfl, wrap_id (n := (48 + ((n % 10 : Nat) : Int))) (by omega) (by omega), wrap_u8 (by omega) (by omega)]
        show some (dig (n / 10) ++ [UInt8.ofNat ((48 + ((n % 10 : Nat) : Int)).toNat)], ()) = _
        rw [show (48 + ((n % 10 : Nat) : Int)).toNat = 48 + n % 10 by omega]
def digI (v : Int) : List UInt8 := dig v.toNat
theorem p_digits {v : Int} (h0 : 0 ≤ v) (h1 : v < 1000000000000000000) : c_spec_l00Digits R v = some (digI v, ()) := by
  have e : v = ((v.toNat : Nat) : Int) := (Int.toNat_of_nonneg h0).symm
  have := p_spec_l00Digits 18 v.toNat (by omega) (by omega) (by omega)
  rw [← e] at this
  exact this
theorem digI_len {v : Int} (h1 : v < 1000000000000000000) : (digI v).length ≤ 19 := dig_len 18 _ (by omega)
theorem digI_mem {v : Int} (h1 : v < 1000000000000000000) : ∀ c ∈ digI v, 48 ≤ c.toNat ∧ c.toNat ≤ 57 := dig_mem 18 _ (by omega)
theorem digI_inj {v u : Int} (h0 : 0 ≤ v) (h1 : v < 1000000000000000000) (h2 : 0 ≤ u) (h3 : u < 1000000000000000000) (h : digI v = digI u) : v = u := by
  have := dig_inj (n := v.toNat) (m := u.toNat) (by omega) (by omega) h
  omega
/-! words -/
def codeTab : List (List UInt8) := [[111, 107], [98, 97, 100], [108, 111, 110, 103], [102, 111, 114, 109], [114, 97, 110, 103, 101], [110, 111, 110, 101], [109, 97, 110, 121], [102, 117, 108, 108], [115, 105, 122, 101], [116, 97, 103], [116, 97, 109, 112, 101, 114, 101, 100], [116, 111, 114, 110], [115, 116, 97, 115, 104], [116, 97, 112, 101], [99, 104, 101, 99, 107], [112, 101, 110, 100, 105, 110, 103], [100, 111, 119, 110], [117, 112], [115, 112, 101, 110, 116], [107, 101, 121]]
def opTab : List (List UInt8) := [[], [103, 101, 116], [112, 117, 116], [100, 114, 111, 112], [99, 104, 101, 99, 107], [97, 100, 100], [115, 99, 97, 110]]
def codeW (c : Int) : List UInt8 := codeTab.getD c.toNat []
theorem codeTab_nosp : ∀ w ∈ codeTab, ∀ c ∈ w, 97 ≤ c.toNat := by decide
theorem codeTab_len : ∀ w ∈ codeTab, w.length ≤ 8 := by decide
theorem codeW_in {c : Int} (h : inB c 0 19 = true) : codeW c ∈ codeTab := by
  have hb := inB_bounds h
  exact getD_mem (show c.toNat < 20 by omega)
theorem codeTab_inj : ∀ i j : Fin 20, codeTab.getD i [] = codeTab.getD j [] → i = j := by decide
theorem codeW_inj {c d : Int} (hc : inB c 0 19 = true) (hd : inB d 0 19 = true) (h : codeW c = codeW d) : c = d := by
  have h1 := inB_bounds hc
  have h2 := inB_bounds hd
  have := codeTab_inj ⟨c.toNat, by omega⟩ ⟨d.toNat, by omega⟩ h
  have := congrArg Fin.val this
  simp only at this
  omega
theorem opTab_inj : ∀ i j : Fin 7, opTab.getD i [] = opTab.getD j [] → i = j := by decide
theorem opTab_len : ∀ w ∈ opTab, w.length ≤ 5 := by decide
theorem opTab_low : ∀ w ∈ opTab, ∀ c ∈ w, 97 ≤ c.toNat ∧ c.toNat ≤ 122 := by decide
/-! parts and what is between them -/
def glue (sep : List UInt8) : List (List UInt8) → List UInt8
  | [] => []
  | x :: xs => x ++ (xs.map (sep ++ ·)).flatten
theorem cut_at {c : UInt8} : ∀ {a b r s : List UInt8}, c ∉ a → c ∉ b → a ++ c :: r = b ++ c :: s → a = b ∧ r = s
  | [], [], r, s, _, _, h => by simpa using h
  | [], y :: b, r, s, _, hb, h => by
    simp only [List.nil_append, List.cons_append, List.cons.injEq] at h
    exact absurd (h.1 ▸ List.mem_cons_self ..) hb
  | x :: a, [], r, s, ha, _, h => by
    simp only [List.nil_append, List.cons_append, List.cons.injEq] at h
    exact absurd (h.1 ▸ List.mem_cons_self ..) ha
  | x :: a, y :: b, r, s, ha, hb, h => by
    simp only [List.cons_append, List.cons.injEq] at h
    obtain ⟨e, h⟩ := h
    subst e
    obtain ⟨e1, e2⟩ := cut_at (fun hm => ha (List.mem_cons_of_mem _ hm)) (fun hm => hb (List.mem_cons_of_mem _ hm)) h
    exact ⟨by rw [e1], e2⟩
theorem glue_inj {pre post : List UInt8} {c : UInt8} (hp : c ∉ pre) : ∀ {xs ys : List (List UInt8)}, xs ≠ [] → ys ≠ [] → (∀ x ∈ xs, c ∉ x) → (∀ y ∈ ys, c ∉ y) → glue (pre ++ c :: post) xs = glue (pre ++ c :: post) ys → xs = ys
  | [], _, h, _, _, _, _ => absurd rfl h
  | _, [], _, h, _, _, _ => absurd rfl h
  | [x], [y], _, _, _, _, h => by simpa [glue] using h
  | [x], y :: y' :: ys, _, _, hx, _, h => by
    exfalso
    have : c ∈ x := by
      have e : glue (pre ++ c :: post) [x] = x := by simp [glue]
      rw [← e, h]; simp [glue]
    exact hx x (List.mem_cons_self ..) this
  | x :: x' :: xs, [y], _, _, _, hy, h => by
    exfalso
    have : c ∈ y := by
      have e : glue (pre ++ c :: post) [y] = y := by simp [glue]
      rw [← e, ← h]; simp [glue]
    exact hy y (List.mem_cons_self ..) this
  | x :: x' :: xs, y :: y' :: ys, _, _, hx, hy, h => by
    have e : ∀ (z z' : List UInt8) (zs : List (List UInt8)), glue (pre ++ c :: post) (z :: z' :: zs) = (z ++ pre) ++ c :: (post ++ glue (pre ++ c :: post) (z' :: zs)) := fun z z' zs => by simp [glue]
    rw [e, e] at h
    have hn : ∀ (zs : List (List UInt8)), (∀ z ∈ zs, c ∉ z) → ∀ z ∈ zs, c ∉ z ++ pre := fun zs hz z hm hc => by
      rcases List.mem_append.1 hc with h | h
      · exact hz z hm h
      · exact hp h
    obtain ⟨h1, h2⟩ := cut_at (hn _ hx x (List.mem_cons_self ..)) (hn _ hy y (List.mem_cons_self ..)) h
    have h3 := List.append_cancel_right h1
    have h4 := List.append_cancel_left h2
    have := glue_inj (xs := x' :: xs) (ys := y' :: ys) hp (by simp) (by simp) (fun z hz => hx z (List.mem_cons_of_mem _ hz)) (fun z hz => hy z (List.mem_cons_of_mem _ hz)) h4
    rw [h3, this]
/-- a list that is told by its parts -/
theorem map_inj {α γ : Type} {f : α → γ} : ∀ {xs ys : List α}, (∀ x ∈ xs, ∀ y ∈ ys, f x = f y → x = y) → xs.map f = ys.map f → xs = ys
  | [], [], _, _ => rfl
  | [], _ :: _, _, h => by simp at h
  | _ :: _, [], _, h => by simp at h
  | x :: xs, y :: ys, hf, h => by
    simp only [List.map_cons, List.cons.injEq] at h
    rw [hf x (List.mem_cons_self ..) y (List.mem_cons_self ..) h.1, map_inj (fun a ha b hb => hf a (List.mem_cons_of_mem _ ha) b (List.mem_cons_of_mem _ hb)) h.2]
/-! a result's text -/
def resText (r : D_Result) : List UInt8 := codeW r.1 ++ (r.2.1.map fun v => 32 :: digI v).flatten
theorem resText_glue (r : D_Result) : resText r = glue ([] ++ (32 : UInt8) :: []) (codeW r.1 :: r.2.1.map digI) := by
  show codeW r.1 ++ (r.2.1.map fun v => 32 :: digI v).flatten = codeW r.1 ++ ((r.2.1.map digI).map fun z => ([] ++ (32 : UInt8) :: []) ++ z).flatten
  rw [List.map_map]; rfl
structure ResB (r : D_Result) : Prop where
  c : inB r.1 0 19 = true
  l : r.2.1.length ≤ 32
  v : ∀ n ∈ r.2.1, 0 ≤ n ∧ n ≤ 999999
theorem resB {r : D_Result} (h : resOK r = true) : ResB r := by
  unfold resOK at h
  simp only [Bool.and_eq_true, decide_eq_true_eq, List.all_eq_true] at h
  exact ⟨h.1, h.2.1, fun n hn => inB_bounds (h.2.2.2 n hn)⟩
theorem resText_inj {r s : D_Result} (hr : ResB r) (hs : ResB s) (h : resText r = resText s) : r = s := by
  rw [resText_glue, resText_glue] at h
  have nsp : ∀ {z : D_Result}, ResB z → ∀ x ∈ codeW z.1 :: z.2.1.map digI, (32 : UInt8) ∉ x := fun {z} hz x hx hm => by
    rcases List.mem_cons.1 hx with e | hx
    · subst e
      have := codeTab_nosp _ (codeW_in hz.c) _ hm
      exact absurd this (by decide)
    · obtain ⟨v, hv, rfl⟩ := List.mem_map.1 hx
      have := digI_mem (v := v) (by have := hz.v v hv; omega) _ hm
      exact absurd this.1 (by decide)
  have e := glue_inj (by simp) (by simp) (by simp) (nsp hr) (nsp hs) h
  simp only [List.cons.injEq] at e
  have e1 := codeW_inj hr.c hs.c e.1
  have e2 := map_inj (fun x hx y hy hxy => digI_inj (hr.v x hx).1 (by have := hr.v x hx; omega) (hs.v y hy).1 (by have := hs.v y hy; omega) hxy) e.2
  obtain ⟨r1, r2, r3⟩ := r
  obtain ⟨s1, s2, s3⟩ := s
  simp only at e1 e2
  rw [e1, e2]
theorem ressB {l : List D_Result} (h : ressOK l = true) : l.length ≤ 2 ∧ ∀ r ∈ l, ResB r := by
  unfold ressOK at h
  simp only [Bool.and_eq_true, decide_eq_true_eq, List.all_eq_true] at h
  exact ⟨h.1, fun r hr => resB (h.2 r hr)⟩

/-! a batch's text -/
structure OpB (o : D_Op) : Prop where
  k : 1 ≤ o.1 ∧ o.1 ≤ 6
  key : 1 ≤ o.2.1 ∧ o.2.1 ≤ 9999
  v : 0 ≤ o.2.2.1 ∧ o.2.2.1 ≤ 999999
  bare : o.1 = 1 ∨ o.1 = 3 → o.2.2.1 = 0
theorem opB {o : D_Op} (h : opOK o = true) : OpB o := by
  unfold opOK at h
  rw [Bool.and_eq_true, Bool.and_eq_true] at h
  obtain ⟨h1, h2, h3⟩ := h
  by_cases hb : o.1 = 1 ∨ o.1 = 3
  · rw [show (decide (o.1 = 1) || decide (o.1 = 3)) = true by simpa using hb] at h3
    have h3 : o.2.2.1 = 0 := by simpa using h3
    exact ⟨inB_bounds h1, inB_bounds h2, by omega, fun _ => h3⟩
  · rw [show (decide (o.1 = 1) || decide (o.1 = 3)) = false by simpa using hb] at h3
    simp only [cond_false] at h3
    refine ⟨inB_bounds h1, inB_bounds h2, ?_, fun h => absurd h hb⟩
    by_cases h6 : o.1 = 6
    · rw [decide_eq_true h6] at h3
      have := inB_bounds (show inB o.2.2.1 1 4 = true from h3)
      omega
    · rw [decide_eq_false h6] at h3
      exact inB_bounds h3
def opW (k : Int) : List UInt8 := opTab.getD k.toNat []
theorem opW_in {k : Int} (h : 1 ≤ k ∧ k ≤ 6) : opW k ∈ opTab := getD_mem (show k.toNat < 7 by omega)
theorem opW_inj {k j : Int} (hk : 1 ≤ k ∧ k ≤ 6) (hj : 1 ≤ j ∧ j ≤ 6) (h : opW k = opW j) : k = j := by
  have := opTab_inj ⟨k.toNat, by omega⟩ ⟨j.toNat, by omega⟩ h
  have := congrArg Fin.val this
  simp only at this
  omega
def bareB (k : Int) : Bool := decide (k = 1) || decide (k = 3)
def opText (o : D_Op) : List UInt8 := cond (bareB o.1) (opW o.1 ++ [32] ++ digI o.2.1) (opW o.1 ++ [32] ++ digI o.2.1 ++ ([32] ++ digI o.2.2.1))
def opParts (o : D_Op) : List (List UInt8) := cond (bareB o.1) [opW o.1, digI o.2.1] [opW o.1, digI o.2.1, digI o.2.2.1]
theorem opText_glue (o : D_Op) : opText o = glue ([] ++ (32 : UInt8) :: []) (opParts o) := by
  unfold opText opParts
  cases bareB o.1 <;> simp [glue]
theorem opText_len {o : D_Op} (h : OpB o) : (opText o).length ≤ 60 := by
  have h1 := opTab_len _ (opW_in h.k)
  have h2 := digI_len (v := o.2.1) (by have := h.key; omega)
  have h3 := digI_len (v := o.2.2.1) (by have := h.v; omega)
  unfold opText
  cases bareB o.1 <;> simp <;> omega
theorem p_spec_l09Words : c_spec_l09Words R = some (opTab, ()) := call (q_spec_l09Words R L)
theorem p_spec_l09Op (o : D_Op) (h : OpB o) : c_spec_l09Op R o = some (opText o, ()) := by
  have hq : c_spec_l09Op R o = _ := call (q_spec_l09Op R L o)
  have h1 := opTab_len _ (opW_in h.k)
  have h2 := digI_len (v := o.2.1) (by have := h.key; omega)
  have h3 := digI_len (v := o.2.2.1) (by have := h.v; omega)
  have hk := h.k
  have hl : opTab.length = 7 := rfl
  have e : opTab.getD o.1.toNat [] = opW o.1 := rfl
  rw [hq, p_spec_l09Words]
  simp only [Option.bind_some]
  rw [show nonneg o.1 = true from decide_eq_true (by omega), blt_t (by omega), e, p_digits (by have := h.key; omega) (by have := h.key; omega), p_digits h.v.1 (by have := h.v; omega)]
  simp only [cond_true, Option.bind_some]
  rw [lenOK_t (by simp; omega), lenOK_t (by simp; omega), lenOK_t (by simp; omega), lenOK_t (by simp; omega)]
  unfold opText bareB
  simp only [cond_true, eqI_iff]
  cases decide (o.1 = 1) <;> cases decide (o.1 = 3) <;> rfl
theorem opParts_low {o : D_Op} (h : OpB o) : ∀ x ∈ opParts o, ∀ c ∈ x, 48 ≤ c.toNat ∧ c.toNat ≤ 122 ∧ c.toNat ≠ 59 := by
  have h1 : ∀ c ∈ opW o.1, 48 ≤ c.toNat ∧ c.toNat ≤ 122 ∧ c.toNat ≠ 59 := fun c hc => by have := opTab_low _ (opW_in h.k) c hc; omega
  have h2 : ∀ c ∈ digI o.2.1, 48 ≤ c.toNat ∧ c.toNat ≤ 122 ∧ c.toNat ≠ 59 := fun c hc => by have := digI_mem (v := o.2.1) (by have := h.key; omega) c hc; omega
  have h3 : ∀ c ∈ digI o.2.2.1, 48 ≤ c.toNat ∧ c.toNat ≤ 122 ∧ c.toNat ≠ 59 := fun c hc => by have := digI_mem (v := o.2.2.1) (by have := h.v; omega) c hc; omega
  intro x hx
  unfold opParts at hx
  cases hb : bareB o.1 <;> rw [hb] at hx
  · simp only [cond_false, List.mem_cons, List.not_mem_nil, or_false] at hx
    rcases hx with rfl | rfl | rfl <;> assumption
  · simp only [cond_true, List.mem_cons, List.not_mem_nil, or_false] at hx
    rcases hx with rfl | rfl <;> assumption
theorem opText_no {o : D_Op} (h : OpB o) : (59 : UInt8) ∉ opText o ∧ (124 : UInt8) ∉ opText o := by
  have hl := opParts_low h
  rw [opText_glue]
  unfold opParts at hl ⊢
  have no : ∀ (x : List UInt8), (∀ c ∈ x, 48 ≤ c.toNat ∧ c.toNat ≤ 122 ∧ c.toNat ≠ 59) → (59 : UInt8) ∉ x ∧ (124 : UInt8) ∉ x := fun x hx => ⟨fun hm => absurd (hx _ hm).2.2 (by decide), fun hm => absurd (hx _ hm).2.1 (by decide)⟩
  cases hb : bareB o.1 <;> rw [hb] at hl
  · simp only [cond_false, List.mem_cons, List.not_mem_nil, or_false] at hl
    have a1 := no _ (hl _ (.inl rfl))
    have a2 := no _ (hl _ (.inr (.inl rfl)))
    have a3 := no _ (hl _ (.inr (.inr rfl)))
    simp only [cond_false, glue, List.map_cons, List.map_nil, List.flatten_cons, List.flatten_nil, List.mem_append, List.mem_cons, List.not_mem_nil, or_false, not_or, List.nil_append, List.cons_append, List.append_nil]
    exact ⟨⟨a1.1, by decide, a2.1, by decide, a3.1⟩, ⟨a1.2, by decide, a2.2, by decide, a3.2⟩⟩
  · simp only [cond_true, List.mem_cons, List.not_mem_nil, or_false] at hl
    have a1 := no _ (hl _ (.inl rfl))
    have a2 := no _ (hl _ (.inr rfl))
    simp only [cond_true, glue, List.map_cons, List.map_nil, List.flatten_cons, List.flatten_nil, List.mem_append, List.mem_cons, List.not_mem_nil, or_false, not_or, List.nil_append, List.cons_append, List.append_nil]
    exact ⟨⟨a1.1, by decide, a2.1⟩, ⟨a1.2, by decide, a2.2⟩⟩
theorem opText_inj {o p : D_Op} (ho : OpB o) (hp : OpB p) (h : opText o = opText p) : o = p := by
  rw [opText_glue, opText_glue] at h
  have ne : ∀ (z : D_Op), opParts z ≠ [] := fun z => by unfold opParts; cases bareB z.1 <;> simp
  have nsp : ∀ {z : D_Op}, OpB z → ∀ x ∈ opParts z, (32 : UInt8) ∉ x := fun hz x hx hm => absurd (opParts_low hz x hx _ hm).1 (by decide)
  have e := glue_inj (by simp) (ne o) (ne p) (nsp ho) (nsp hp) h
  have key : ∀ (e1 : opW o.1 = opW p.1) (e2 : digI o.2.1 = digI p.2.1), o.1 = p.1 ∧ o.2.1 = p.2.1 := fun e1 e2 =>
    ⟨opW_inj ho.k hp.k e1, digI_inj (by have := ho.key; omega) (by have := ho.key; omega) (by have := hp.key; omega) (by have := hp.key; omega) e2⟩
  have fin : o.1 = p.1 ∧ o.2.1 = p.2.1 → o.2.2.1 = p.2.2.1 → o = p := fun h1 h2 => by
    obtain ⟨a, b, c, _⟩ := o
    obtain ⟨a', b', c', _⟩ := p
    simp only at h1 h2
    rw [h1.1, h1.2, h2]
  unfold opParts at e
  cases hb : bareB o.1 <;> cases hb' : bareB p.1 <;> rw [hb, hb'] at e <;> simp only [cond_true, cond_false, List.cons.injEq, and_true] at e
  · exact fin (key e.1 e.2.1) (digI_inj ho.v.1 (by have := ho.v; omega) hp.v.1 (by have := hp.v; omega) e.2.2)
  · have := e.2.2; cases this
  · have := e.2.2; cases this
  · have b1 : o.1 = 1 ∨ o.1 = 3 := by unfold bareB at hb; simpa using hb
    have b2 : p.1 = 1 ∨ p.1 = 3 := by unfold bareB at hb'; simpa using hb'
    exact fin (key e.1 e.2) (by rw [ho.bare b1, hp.bare b2])
def txnText (t : D_Txn) : List UInt8 := glue ([] ++ (59 : UInt8) :: [32]) (t.1.map opText)
def batText (l : List D_Txn) : List UInt8 := glue ([32] ++ (124 : UInt8) :: [32]) (l.map txnText)
structure TxnB (t : D_Txn) : Prop where
  l : 1 ≤ t.1.length ∧ t.1.length ≤ 4
  o : ∀ o ∈ t.1, OpB o
theorem txnB {t : D_Txn} (h : txnOK t = true) : TxnB t := by
  unfold txnOK at h
  rw [Bool.and_eq_true, List.all_eq_true] at h
  have := inB_bounds h.1
  exact ⟨by omega, fun o ho => opB (h.2 o ho)⟩
structure BatB (x : List D_Txn) : Prop where
  l : 1 ≤ x.length ∧ x.length ≤ 2
  t : ∀ t ∈ x, TxnB t
theorem batB {l : List D_Txn} (h : batchOK l = true) : BatB l := by
  unfold batchOK at h
  rw [Bool.and_eq_true, List.all_eq_true] at h
  have := inB_bounds h.1
  exact ⟨by omega, fun t ht => txnB (h.2 t ht)⟩
theorem ne_map {α γ : Type} {f : α → γ} {l : List α} (h : 1 ≤ l.length) : l.map f ≠ [] := by
  cases l with
  | nil => simp at h
  | cons _ _ => simp
theorem txnText_inj {t u : D_Txn} (ht : TxnB t) (hu : TxnB u) (h : txnText t = txnText u) : t = u := by
  have no : ∀ {z : D_Txn}, TxnB z → ∀ x ∈ z.1.map opText, (59 : UInt8) ∉ x := fun hz x hx => by
    obtain ⟨o, ho, rfl⟩ := List.mem_map.1 hx
    exact (opText_no (hz.o o ho)).1
  have e := glue_inj (by simp) (ne_map ht.l.1) (ne_map hu.l.1) (no ht) (no hu) h
  have := map_inj (fun x hx y hy hxy => opText_inj (ht.o x hx) (hu.o y hy) hxy) e
  obtain ⟨t1, _⟩ := t
  obtain ⟨u1, _⟩ := u
  simp only at this
  rw [this]
theorem glue_mem {sep : List UInt8} {c : UInt8} : ∀ {xs : List (List UInt8)}, c ∈ glue sep xs → c ∈ sep ∨ ∃ x ∈ xs, c ∈ x
  | [], h => by simp [glue] at h
  | x :: xs, h => by
    rcases List.mem_append.1 h with h | h
    · exact .inr ⟨x, List.mem_cons_self .., h⟩
    · obtain ⟨z, hz, hc⟩ := List.mem_flatten.1 h
      obtain ⟨y, hy, rfl⟩ := List.mem_map.1 hz
      rcases List.mem_append.1 hc with hc | hc
      · exact .inl hc
      · exact .inr ⟨y, List.mem_cons_of_mem _ hy, hc⟩
theorem txnText_no {t : D_Txn} (ht : TxnB t) : (124 : UInt8) ∉ txnText t := fun h => by
  rcases glue_mem h with h | ⟨x, hx, h⟩
  · exact absurd h (by decide)
  · obtain ⟨o, ho, rfl⟩ := List.mem_map.1 hx
    exact (opText_no (ht.o o ho)).2 h
theorem batText_inj {a b : List D_Txn} (ha : BatB a) (hb : BatB b) (h : batText a = batText b) : a = b := by
  have no : ∀ {z : List D_Txn}, BatB z → ∀ x ∈ z.map txnText, (124 : UInt8) ∉ x := fun hz x hx => by
    obtain ⟨o, ho, rfl⟩ := List.mem_map.1 hx
    exact txnText_no (hz.t o ho)
  have e := glue_inj (by decide) (ne_map ha.l.1) (ne_map hb.l.1) (no ha) (no hb) h
  exact map_inj (fun x hx y hy hxy => txnText_inj (ha.t x hx) (hb.t y hy) hxy) e
/-! joined -/
theorem glue_snoc (sep : List UInt8) : ∀ (xs : List (List UInt8)) (x y : List UInt8), glue sep ((x :: xs) ++ [y]) = glue sep (x :: xs) ++ sep ++ y
  | xs, x, y => by simp [glue]
theorem take_snoc {α : Type} {v : List α} {i : Nat} {d : α} (h : i < v.length) : v.take (i + 1) = v.take i ++ [v.getD i d] := by
  rw [List.take_add_one, List.getD_eq_getElem?_getD, List.getElem?_eq_getElem h]; rfl
theorem glue_len {sep : List UInt8} {B : Nat} : ∀ {xs : List (List UInt8)}, (∀ x ∈ xs, x.length ≤ B) → (glue sep xs).length ≤ xs.length * (B + sep.length)
  | [], _ => by simp [glue]
  | x :: xs, h => by
    have hx := h x (List.mem_cons_self ..)
    have : ∀ (ys : List (List UInt8)), (∀ y ∈ ys, y.length ≤ B) → ((ys.map (sep ++ ·)).flatten).length ≤ ys.length * (B + sep.length) := by
      intro ys
      induction ys with
      | nil => simp
      | cons y ys ih =>
        intro hy
        have h1 := hy y (List.mem_cons_self ..)
        have h2 := ih (fun z hz => hy z (List.mem_cons_of_mem _ hz))
        simp only [List.map_cons, List.flatten_cons, List.length_append, List.length_cons, Nat.succ_mul]
        omega
    have := this xs (fun y hy => h y (List.mem_cons_of_mem _ hy))
    show (x ++ (xs.map (sep ++ ·)).flatten).length ≤ (xs.length + 1) * (B + sep.length)
    rw [List.length_append, Nat.succ_mul]
    omega
theorem join_loop (B : Nat) (sep : List UInt8) (v : List (List UInt8)) (hv : ∀ x ∈ v, x.length ≤ B) (hl : v.length * (B + sep.length) + B + sep.length ≤ 1099511627776) (hn : v.length ≤ 1099511627776) : ∀ (n i : Nat), v.length - i = n → i ≤ v.length → lp_spec_l00Join_0 R L v sep [] (glue sep (v.take i)) i = some (glue sep v, ())
  | 0, i, hn', hi => by
    have hq : lp_spec_l00Join_0 R L v sep [] (glue sep (v.take i)) i = _ := round (by kernel_rfl) (q_spec_l00Join_0 R L v sep [] (glue sep (v.take i)) i)
    rw [hq, lt_f (by omega), List.take_of_length_le (by omega)]; rfl
  | n + 1, i, hn', hi => by
    have hlt : i < v.length := by omega
    have hq : lp_spec_l00Join_0 R L v sep [] (glue sep (v.take i)) i = _ := round (by kernel_rfl) (q_spec_l00Join_0 R L v sep [] (glue sep (v.take i)) i)
    have hg : (glue sep (v.take i)).length ≤ v.length * (B + sep.length) := by
      have := glue_len (sep := sep) (B := B) (xs := v.take i) (fun x hx => hv x (List.mem_of_mem_take hx))
      have h2 : (v.take i).length * (B + sep.length) ≤ v.length * (B + sep.length) := Nat.mul_le_mul_right _ (by simp; omega)
      omega
    have hx := hv _ (getD_mem (d := []) hlt)
    have ih := join_loop B sep v hv hl hn n (i + 1) (by omega) (by omega)
    rw [hq, lt_t hlt, nn, tn, blt_t hlt, wrap_succ (by omega)]
    simp only [cond_true]
    rw [lenOK_t (by omega), lenOK_t (by rw [List.length_append]; omega), lenOK_t (by omega)]
    simp only [cond_true]
    rw [take_snoc (d := []) hlt] at ih
    cases i with
    | zero =>
      rw [show decide ((0 : Int) < ((0 : Nat) : Int)) = false from rfl]
      simp only [cond_false]
      have e : glue sep (v.take 0 ++ [v.getD 0 []]) = glue sep (v.take 0) ++ v.getD 0 [] := by simp [glue]
      rw [e] at ih
      exact ih
    | succ j =>
      rw [show decide ((0 : Int) < ((j + 1 : Nat) : Int)) = true from decide_eq_true (by omega)]
      simp only [cond_true]
      have e : glue sep (v.take (j + 1) ++ [v.getD (j + 1) []]) = glue sep (v.take (j + 1)) ++ sep ++ v.getD (j + 1) [] := by
        cases v with
        | nil => simp at hlt
        | cons z zs => exact glue_snoc sep _ z _
      rw [e] at ih
      exact ih
theorem p_spec_l00Join (B : Nat) (v : List (List UInt8)) (sep : List UInt8) (hv : ∀ x ∈ v, x.length ≤ B) (hl : v.length * (B + sep.length) + B + sep.length ≤ 1099511627776) (hn : v.length ≤ 1099511627776) : c_spec_l00Join R v sep = some (glue sep v, ()) := by
  have hq : c_spec_l00Join R v sep = _ := call (q_spec_l00Join R L v sep)
  rw [hq]
  exact join_loop B sep v hv hl hn _ 0 rfl (Nat.zero_le _)
theorem txnText_len {t : D_Txn} (ht : TxnB t) : (txnText t).length ≤ 300 := by
  have := glue_len (sep := [] ++ (59 : UInt8) :: [32]) (B := 60) (xs := t.1.map opText) (fun x hx => by
    obtain ⟨o, ho, rfl⟩ := List.mem_map.1 hx
    exact opText_len (ht.o o ho))
  have hl := ht.l
  rw [List.length_map] at this
  have h2 : t.1.length * (60 + ([] ++ (59 : UInt8) :: [32]).length) ≤ 4 * 62 := Nat.mul_le_mul (by omega) (by simp)
  show (glue _ _).length ≤ 300
  omega
theorem t09_1 (l : List D_Txn) (hb : BatB l) (i : Nat) (hlt : i < l.length) (v3 : List (List UInt8)) (h3 : v3.length ≤ i) : ∀ (n k : Nat), (l.getD i ([], ())).1.length - k = n → k ≤ (l.getD i ([], ())).1.length →
    ∃ v5 v6, lp_spec_l09Text_1 R L l [] v3 i (((l.getD i ([], ())).1.take k).map opText) k = lp_spec_l09Text_2 R L l [] (v3 ++ [txnText (l.getD i ([], ()))]) ((i + 1 : Nat) : Int) v5 v6
  | 0, k, hn, hk => by
    have hq : lp_spec_l09Text_1 R L l [] v3 i (((l.getD i ([], ())).1.take k).map opText) k = _ := round (by kernel_rfl) (q_spec_l09Text_1 R L l [] v3 i (((l.getD i ([], ())).1.take k).map opText) k)
    have ht := hb.t _ (getD_mem (d := ([], ())) hlt)
    have hlb := hb.l
    refine ⟨((l.getD i ([], ())).1.take k).map opText, k, ?_⟩
    rw [hq, nn, tn, blt_t hlt, lt_f (by omega), wrap_succ (i := i) (by omega), List.take_of_length_le (by omega), p_spec_l00Join 60 _ _ (fun x hx => by
      obtain ⟨o, ho, rfl⟩ := List.mem_map.1 hx
      exact opText_len (ht.o o ho)) (by
        have := ht.l
        rw [List.length_map]
        have h2 : (l.getD i ([], ())).1.length * (60 + [(59 : UInt8), 32].length) ≤ 4 * 62 := Nat.mul_le_mul (by omega) (by simp)
        have : [(59 : UInt8), 32].length = 2 := rfl
        omega) (by have := ht.l; rw [List.length_map]; omega)]
    simp only [cond_true, cond_false, Option.bind_some]
    rw [lenOK_t (by simp only [List.length_cons, List.length_nil]; omega)]
    rfl
  | n + 1, k, hn, hk => by
    have hlk : k < (l.getD i ([], ())).1.length := by omega
    have hq : lp_spec_l09Text_1 R L l [] v3 i (((l.getD i ([], ())).1.take k).map opText) k = _ := round (by kernel_rfl) (q_spec_l09Text_1 R L l [] v3 i (((l.getD i ([], ())).1.take k).map opText) k)
    have ht := hb.t _ (getD_mem (d := ([], ())) hlt)
    have htl := ht.l
    obtain ⟨v5, v6, ih⟩ := t09_1 l hb i hlt v3 h3 n (k + 1) (by omega) (by omega)
    refine ⟨v5, v6, ?_⟩
    rw [hq, nn, tn, blt_t hlt, lt_t hlk, nn, tn, blt_t hlk, wrap_succ (by omega), p_spec_l09Op _ (ht.o _ (getD_mem (d := (0, (0, (0, ())))) hlk))]
    simp only [cond_true, Option.bind_some]
    rw [lenOK_t (by simp only [List.length_map, List.length_take, List.length_cons, List.length_nil]; omega)]
    rw [take_snoc (d := (0, (0, (0, ())))) hlk, List.map_append] at ih
    exact ih
theorem t09_2 (l : List D_Txn) (hb : BatB l) : ∀ (n i : Nat) (v5 : List (List UInt8)) (v6 : Int), l.length - i = n → i ≤ l.length → lp_spec_l09Text_2 R L l [] ((l.take i).map txnText) i v5 v6 = some (batText l, ())
  | 0, i, v5, v6, hn, hi => by
    have hq : lp_spec_l09Text_2 R L l [] ((l.take i).map txnText) i v5 v6 = _ := round (by kernel_rfl) (q_spec_l09Text_2 R L l [] ((l.take i).map txnText) i v5 v6)
    have hlb := hb.l
    rw [hq, lt_f (by omega), List.take_of_length_le (by omega), p_spec_l00Join 300 _ _ (fun x hx => by
      obtain ⟨t, ht, rfl⟩ := List.mem_map.1 hx
      exact txnText_len (hb.t t ht)) (by
        rw [List.length_map]
        have h2 : l.length * (300 + [(32 : UInt8), 124, 32].length) ≤ 2 * 303 := Nat.mul_le_mul (by omega) (by simp)
        have : [(32 : UInt8), 124, 32].length = 3 := rfl
        omega) (by rw [List.length_map]; omega)]
    rfl
  | n + 1, i, v5, v6, hn, hi => by
    have hlt : i < l.length := by omega
    have hq : lp_spec_l09Text_2 R L l [] ((l.take i).map txnText) i v5 v6 = _ := round (by kernel_rfl) (q_spec_l09Text_2 R L l [] ((l.take i).map txnText) i v5 v6)
    obtain ⟨v5', v6', e⟩ := t09_1 l hb i hlt ((l.take i).map txnText) (by simp; omega) _ 0 rfl (Nat.zero_le _)
    have ih := t09_2 l hb n (i + 1) v5' v6' (by omega) (by omega)
    rw [take_snoc (d := ([], ())) hlt, List.map_append] at ih
    rw [hq, lt_t hlt]
    exact e.trans ih
theorem p_spec_l09Text (l : List D_Txn) (hb : BatB l) : c_spec_l09Text R l = some (batText l, ()) := by
  have hq : c_spec_l09Text R l = _ := call (q_spec_l09Text R L l)
  have hq0 : lp_spec_l09Text_0 R L l [] [] 0 = _ := round (by kernel_rfl) (q_spec_l09Text_0 R L l [] [] 0)
  have hq2 : lp_spec_l09Text_2 R L l [] [] 0 [] 0 = _ := round (by kernel_rfl) (q_spec_l09Text_2 R L l [] [] 0 [] 0)
  rw [hq, hq0.trans hq2.symm]
  exact t09_2 l hb _ 0 [] 0 rfl (Nat.zero_le _)
end Go.Rf.S
