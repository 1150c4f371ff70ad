import Derived.Test.YtkiejckaaipdkaaDoorSli7
set_option linter.unusedVariables false
set_option linter.unusedSimpArgs false
namespace Go.Rf.S
set_option maxRecDepth 100000
set_option linter.unusedVariables false
set_option linter.unusedSimpArgs false


/-! texts of numbers -/
def dig (n : Nat) : List UInt8 := if n < 10 then [UInt8.ofNat (48 + n)] else dig (n / 10) ++ [UInt8.ofNat (48 + n % 10)]
termination_by n
decreasing_by omega
theorem dig_lt {n : Nat} (h : n < 10) : dig n = [UInt8.ofNat (48 + n)] := by rw [dig]; rw [if_pos h]
theorem dig_ge {n : Nat} (h : ¬ n < 10) : dig n = dig (n / 10) ++ [UInt8.ofNat (48 + n % 10)] := by rw [dig]; rw [if_neg h]
theorem dig_len : ∀ (k n : Nat), n < 10 ^ (k + 1) → (dig n).length ≤ k + 1
  | 0, n, h => by rw [dig_lt (by simpa using h)]; simp
  | k + 1, n, h => by
    by_cases hn : n < 10
    · rw [dig_lt hn]; simp
    · rw [dig_ge hn, List.length_append]
      have := dig_len k (n / 10) (by rw [Nat.pow_succ] at h; omega)
      simp; omega
theorem dig_pos (n : Nat) : 0 < (dig n).length := by
  by_cases h : n < 10
  · rw [dig_lt h]; simp
  · rw [dig_ge h]; simp
theorem dig_mem : ∀ (k n : Nat), n < 10 ^ (k + 1) → ∀ c ∈ dig n, 48 ≤ c.toNat ∧ c.toNat ≤ 57
  | 0, n, h, c, hc => by
    have hn : n < 10 := by simpa using h
    rw [dig_lt hn] at hc
    simp only [List.mem_singleton] at hc
    subst hc
    rw [UInt8.toNat_ofNat']
    omega
  | k + 1, n, h, c, hc => by
    by_cases hn : n < 10
    · rw [dig_lt hn] at hc
      simp only [List.mem_singleton] at hc
      subst hc
      rw [UInt8.toNat_ofNat']
      omega
    · rw [dig_ge hn] at hc
      rcases List.mem_append.1 hc with hc | hc
      · exact dig_mem k (n / 10) (by rw [Nat.pow_succ] at h; omega) c hc
      · simp only [List.mem_singleton] at hc
        subst hc
        rw [UInt8.toNat_ofNat']
        omega
def valL (l : List UInt8) : Nat := l.foldl (fun a c => 10 * a + (c.toNat - 48)) 0
theorem val_snoc (l : List UInt8) (c : UInt8) : valL (l ++ [c]) = 10 * valL l + (c.toNat - 48) := by simp [valL]
theorem val_dig : ∀ (k n : Nat), n < 10 ^ (k + 1) → valL (dig n) = n
  | 0, n, h => by
    have hn : n < 10 := by simpa using h
    rw [dig_lt hn]
    simp only [valL, List.foldl_cons, List.foldl_nil, UInt8.toNat_ofNat']
    omega
  | k + 1, n, h => by
    by_cases hn : n < 10
    · rw [dig_lt hn]
      simp only [valL, List.foldl_cons, List.foldl_nil, UInt8.toNat_ofNat']
      omega
    · rw [dig_ge hn, val_snoc, val_dig k (n / 10) (by rw [Nat.pow_succ] at h; omega), UInt8.toNat_ofNat']
      omega
theorem dig_inj {n m : Nat} (hn : n < 10 ^ 19) (hm : m < 10 ^ 19) (h : dig n = dig m) : n = m := by
  rw [← val_dig 18 n hn, ← val_dig 18 m hm, h]
theorem wrap_u8 {n : Int} (h1 : 0 ≤ n) (h2 : n < 256) : IntKind.wrap .u8 n = n := by
  unfold IntKind.wrap
  show (if (false && _) = true then _ else n % 256) = n
  simp only [Bool.false_and, Bool.false_eq_true, if_false]
  omega
theorem p_spec_l00Digits : ∀ (k n : Nat), n < 10 ^ (k + 1) → n < 1000000000000000000 → k ≤ 20 → c_spec_l00Digits R (n : Int) = some (dig n, ())
  | k, n, h, hb, hk => by
    have hq : c_spec_l00Digits R (n : Int) = _ := call (q_spec_l00Digits R L (n : Int))
    rw [hq, eqI_iff, show decide ((n : Int) = -9223372036854775808) = false from decide_eq_false (by omega), show decide ((n : Int) < 0) = false from decide_eq_false (by omega)]
    simp only [cond_false]
    by_cases hn : n < 10
    · rw [show decide ((n : Int) < 10) = true from decide_eq_true (by omega), dig_lt hn, wrap_id (by omega) (by omega), wrap_u8 (by omega) (by omega)]
      show some ([UInt8.ofNat ((48 + (n : Int)).toNat)], ()) = _
      rw [show (48 + (n : Int)).toNat = 48 + n by omega]
    · rw [show decide ((n : Int) < 10) = false from decide_eq_false (by omega), dig_ge hn]
      simp only [cond_false]
      rw [show Int.tdiv (n : Int) 10 = ((n / 10 : Nat) : Int) from rfl, wrap_id (n := ((n / 10 : Nat) : Int)) (by omega) (by omega)]
      cases k with
      | zero => exact absurd (by simpa using h) hn
      | succ k =>
        have hd : n / 10 < 10 ^ (k + 1) := by rw [Nat.pow_succ] at h; omega
        rw [p_spec_l00Digits k (n / 10) hd (by omega) (by omega)]
        have hl := dig_len k (n / 10) hd
        simp only [Option.bind_some]
        rw [lenOK_t (by simp only [List.length_map, List.length_cons, List.length_nil]; omega), show Int.tmod (n : Int) 10 = ((n % 10 : Nat) : Int) from rfl, wrap_id (n := (48 + ((n % 10 : Nat) : Int))) (by omega) (by omega), wrap_u8 (by omega) (by omega)]
        show some (dig (n / 10) ++ [UInt8.ofNat ((48 + ((n % 10 : Nat) : Int)).toNat)], ()) = _
        rw [show (48 + ((n % 10 : Nat) : Int)).toNat = 48 + n % 10 by omega]
def digI (v : Int) : List UInt8 := dig v.toNat
theorem p_digits {v : Int} (h0 : 0 ≤ v) (h1 : v < 1000000000000000000) : c_spec_l00Digits R v = some (digI v, ()) := by
  have e : v = ((v.toNat : Nat) : Int) := (Int.toNat_of_nonneg h0).symm
  have := p_spec_l00Digits 18 v.toNat (by omega) (by omega) (by omega)
  rw [← e] at this
  exact this
theorem digI_len {v : Int} (h1 : v < 1000000000000000000) : (digI v).length ≤ 19 := dig_len 18 _ (by omega)
theorem digI_mem {v : Int} (h1 : v < 1000000000000000000) : ∀ c ∈ digI v, 48 ≤ c.toNat ∧ c.toNat ≤ 57 := dig_mem 18 _ (by omega)
theorem digI_inj {v u : Int} (h0 : 0 ≤ v) (h1 : v < 1000000000000000000) (h2 : 0 ≤ u) (h3 : u < 1000000000000000000) (h : digI v = digI u) : v = u := by
  have := dig_inj (n := v.toNat) (m := u.toNat) (by omega) (by omega) h
  omega
/-! words -/
def codeTab : List (List UInt8) := [[111, 107], [98, 97, 100], [108, 111, 110, 103], [102, 111, 114, 109], [114, 97, 110, 103, 101], [110, 111, 110, 101], [109, 97, 110, 121], [102, 117, 108, 108], [115, 105, 122, 101], [116, 97, 103], [116, 97, 109, 112, 101, 114, 101, 100], [116, 111, 114, 110], [115, 116, 97, 115, 104], [116, 97, 112, 101], [99, 104, 101, 99, 107], [112, 101, 110, 100, 105, 110, 103], [100, 111, 119, 110], [117, 112], [115, 112, 101, 110, 116], [107, 101, 121]]
def opTab : List (List UInt8) := [[], [103, 101, 116], [112, 117, 116], [100, 114, 111, 112], [99, 104, 101, 99, 107], [97, 100, 100], [115, 99, 97, 110]]
def codeW (c : Int) : List UInt8 := codeTab.getD c.toNat []
theorem codeTab_nosp : ∀ w ∈ codeTab, ∀ c ∈ w, 97 ≤ c.toNat := by decide
theorem codeTab_len : ∀ w ∈ codeTab, w.length ≤ 8 := by decide
theorem codeW_in {c : Int} (h : inB c 0 19 = true) : codeW c ∈ codeTab := by
  have hb := inB_bounds h
  exact getD_mem (show c.toNat < 20 by omega)
theorem codeTab_inj : ∀ i j : Fin 20, codeTab.getD i [] = codeTab.getD j [] → i = j := by decide
theorem codeW_inj {c d : Int} (hc : inB c 0 19 = true) (hd : inB d 0 19 = true) (h : codeW c = codeW d) : c = d := by
  have h1 := inB_bounds hc
  have h2 := inB_bounds hd
  have := codeTab_inj ⟨c.toNat, by omega⟩ ⟨d.toNat, by omega⟩ h
  have := congrArg Fin.val this
  simp only at this
  omega
theorem opTab_inj : ∀ i j : Fin 7, opTab.getD i [] = opTab.getD j [] → i = j := by decide
theorem opTab_len : ∀ w ∈ opTab, w.length ≤ 5 := by decide
theorem opTab_low : ∀ w ∈ opTab, ∀ c ∈ w, 97 ≤ c.toNat ∧ c.toNat ≤ 122 := by decide
/-! parts and what is between them -/
def glue (sep : List UInt8) : List (List UInt8) → List UInt8
  | [] => []
  | x :: xs => x ++ (xs.map (sep ++ ·)).flatten
theorem cut_at {c : UInt8} : ∀ {a b r s : List UInt8}, c ∉ a → c ∉ b → a ++ c :: r = b ++ c :: s → a = b ∧ r = s
  | [], [], r, s, _, _, h => by simpa using h
  | [], y :: b, r, s, _, hb, h => by
    simp only [List.nil_append, List.cons_append, List.cons.injEq] at h
    exact absurd (h.1 ▸ List.mem_cons_self ..) hb
  | x :: a, [], r, s, ha, _, h => by
    simp only [List.nil_append, List.cons_append, List.cons.injEq] at h
    exact absurd (h.1 ▸ List.mem_cons_self ..) ha
  | x :: a, y :: b, r, s, ha, hb, h => by
    simp only [List.cons_append, List.cons.injEq] at h
    obtain ⟨e, h⟩ := h
    subst e
    obtain ⟨e1, e2⟩ := cut_at (fun hm => ha (List.mem_cons_of_mem _ hm)) (fun hm => hb (List.mem_cons_of_mem _ hm)) h
    exact ⟨by rw [e1], e2⟩
theorem glue_inj {pre post : List UInt8} {c : UInt8} (hp : c ∉ pre) : ∀ {xs ys : List (List UInt8)}, xs ≠ [] → ys ≠ [] → (∀ x ∈ xs, c ∉ x) → (∀ y ∈ ys, c ∉ y) → glue (pre ++ c :: post) xs = glue (pre ++ c :: post) ys → xs = ys
  | [], _, h, _, _, _, _ => absurd rfl h
  | _, [], _, h, _, _, _ => absurd rfl h
  | [x], [y], _, _, _, _, h => by simpa [glue] using h
  | [x], y :: y' :: ys, _, _, hx, _, h => by
    exfalso
    have : c ∈ x := by
      have e : glue (pre ++ c :: post) [x] = x := by simp [glue]
      rw [← e, h]; simp [glue]
    exact hx x (List.mem_cons_self ..) this
  | x :: x' :: xs, [y], _, _, _, hy, h => by
    exfalso
    have : c ∈ y := by
      have e : glue (pre ++ c :: post) [y] = y := by simp [glue]
      rw [← e, ← h]; simp [glue]
    exact hy y (List.mem_cons_self ..) this
  | x :: x' :: xs, y :: y' :: ys, _, _, hx, hy, h => by
    have e : ∀ (z z' : List UInt8) (zs : List (List UInt8)), glue (pre ++ c :: post) (z :: z' :: zs) = (z ++ pre) ++ c :: (post ++ glue (pre ++ c :: post) (z' :: zs)) := fun z z' zs => by simp [glue]
    rw [e, e] at h
    have hn : ∀ (zs : List (List UInt8)), (∀ z ∈ zs, c ∉ z) → ∀ z ∈ zs, c ∉ z ++ pre := fun zs hz z hm hc => by
      rcases List.mem_append.1 hc with h | h
      · exact hz z hm h
      · exact hp h
    obtain ⟨h1, h2⟩ := cut_at (hn _ hx x (List.mem_cons_self ..)) (hn _ hy y (List.mem_cons_self ..)) h
    have h3 := List.append_cancel_right h1
    have h4 := List.append_cancel_left h2
    have := glue_inj (xs := x' :: xs) (ys := y' :: ys) hp (by simp) (by simp) (fun z hz => hx z (List.mem_cons_of_mem _ hz)) (fun z hz => hy z (List.mem_cons_of_mem _ hz)) h4
    rw [h3, this]
/-- a list that is told by its parts -/
theorem map_inj {α γ : Type} {f : α → γ} : ∀ {xs ys : List α}, (∀ x ∈ xs, ∀ y ∈ ys, f x = f y → x = y) → xs.map f = ys.map f → xs = ys
  | [], [], _, _ => rfl
  | [], _ :: _, _, h => by simp at h
  | _ :: _, [], _, h => by simp at h
  | x :: xs, y :: ys, hf, h => by
    simp only [List.map_cons, List.cons.injEq] at h
    rw [hf x (List.mem_cons_self ..) y (List.mem_cons_self ..) h.1, map_inj (fun a ha b hb => hf a (List.mem_cons_of_mem _ ha) b (List.mem_cons_of_mem _ hb)) h.2]
/-! a result's text -/
end Go.Rf.S
