/- An interpreter of the code over plain data, proved right against the machine: part 4. No condition. -/
import Derived.Test.YtcikhcfofnlegaaGreatSgC
set_option linter.unusedVariables false
set_option linter.unusedSimpArgs false
section
namespace Go.Rf
set_option linter.unusedSectionVars false
variable [T : Laid]
def cnt : (t : Ty) → t.D → Nat
 | .str, x => List.length x
 | .sl t, x => List.length x + (List.map (cnt t) x).sum
 | .pair a b, x => cnt a x.1 + cnt b x.2
 | _, _ => 0
def szF (c : Nat) (l : Int) : Int := if (c : Int) ≤ l then l - c else -1
theorem szF_t {c : Nat} {l : Int} (h : (c : Int) ≤ l) : szF c l = l - c := if_pos h
theorem szF_f {c : Nat} {l : Int} (h : l < (c : Int)) : szF c l = -1 := if_neg (by omega)
theorem gen_sz {α : Type} (F : Int → Int → Option (Int × Unit)) (v : List α) (d : α) (f : α → Nat)
  (stop : ∀ l, F l (v.length : Nat) = some (l, ()))
  (step : ∀ (l : Int) (i : Nat), i < v.length → 0 ≤ l → l ≤ 1048576 → F l i = if (f (v.getD i d) : Int) ≤ l then F (l - f (v.getD i d)) ((i + 1 : Nat) : Int) else some (-1, ())) :
  ∀ (n i : Nat) (l : Int), v.length - i = n → i ≤ v.length → 0 ≤ l → l ≤ 1048576 → F l i = some (szF (((v.drop i).map f).sum) l, ())
 | 0, i, l, hn, hi, h0, h1 => by
  have : i = v.length := by omega
  subst this
  rw [stop, List.drop_eq_nil_of_le (Nat.le_refl _)]
  simp [szF, h0]
 | n + 1, i, l, hn, hi, h0, h1 => by
  have hlt : i < v.length := by omega
  rw [step l i hlt h0 h1, drop_getD (d := d) hlt, List.map_cons, List.sum_cons]
  generalize f (v.getD i d) = c
  by_cases h : (c : Int) ≤ l
  ·rw [if_pos h, gen_sz F v d f stop step n (i + 1) (l - c) (by omega) (by omega) (by omega) (by omega)]
   generalize ((v.drop (i + 1)).map f).sum = e
   unfold szF
   by_cases h2 : (e : Int) ≤ l - c
   ·rw [if_pos h2, if_pos (by omega)]; congr 2; omega
   ·rw [if_neg h2, if_neg (by omega)]
  ·rw [if_neg h, szF_f (by omega)]
theorem gen_to {α : Type} (F : List α → Int → Option (List α × Unit)) (v : List α) (d : α)
  (stop : ∀ w, w.length = v.length → F w (v.length : Nat) = some (w, ()))
  (step : ∀ (w : List α) (i : Nat), i < v.length → w.length = v.length → F w i = F (w.set i (v.getD i d)) ((i + 1 : Nat) : Int)) :
  ∀ (n i : Nat) (w : List α), v.length - i = n → i ≤ v.length → w.length = v.length → (∀ j, j < i → w[j]? = v[j]?) → F w i = some (v, ())
 | 0, i, w, hn, hi, hl, hw => by
  have : i = v.length := by omega
  subst this
  rw [stop w hl, written hl hw (Nat.le_refl _)]
 | n + 1, i, w, hn, hi, hl, hw => by
  have hlt : i < v.length := by omega
  rw [step w i hlt hl]
  exact gen_to F v d stop step n (i + 1) _ (by omega) (by omega) (by simpa using hl) (written_next hl hlt hw)
theorem gen_eq {α : Type} (F : Int → Option (Bool × Unit)) (v : List α)
  (stop : F (v.length : Nat) = some (true, ()))
  (step : ∀ (i : Nat), i < v.length → F i = F ((i + 1 : Nat) : Int)) :
  ∀ (n i : Nat), v.length - i = n → i ≤ v.length → F i = some (true, ())
 | 0, i, hn, hi => by
  have : i = v.length := by omega
  subst this
  exact stop
 | n + 1, i, hn, hi => by
  rw [step i (by omega)]
  exact gen_eq F v stop step n (i + 1) (by omega) (by omega)
def mapM {α : Type} (f : α → Nat → α × Nat) : List α → Nat → List α × Nat
 | [], k => ([], k)
 | x :: xs, k => ((f x k).1 :: (mapM f xs (f x k).2).1, (mapM f xs (f x k).2).2)
def mk_ (mt : Nat → List UInt8) : Bool → (t : Ty) → t.D → Nat → t.D × Nat
 | true, .int _, _, k => ((k : Int), k + 1)
 | true, .str, _, k => (mt k, k + 1)
 | _, .sl t, x, k => mapM (mk_ mt true t) x k
 | c, .pair a b, x, k => (((mk_ mt c a x.1 k).1, (mk_ mt c b x.2 (mk_ mt c a x.1 k).2).1), (mk_ mt c b x.2 (mk_ mt c a x.1 k).2).2)
 | _, _, x, k => (x, k)
def nmk : Bool → (t : Ty) → t.D → Nat
 | true, .int _, _ => 1
 | true, .str, _ => 1
 | _, .sl t, x => (List.map (nmk true t) x).sum
 | c, .pair a b, x => nmk c a x.1 + nmk c b x.2
 | _, _, _ => 0
theorem mapM_snd {α : Type} {f : α → Nat → α × Nat} {m : α → Nat} (h : ∀ x k, (f x k).2 = k + m x) : ∀ (l : List α) (k : Nat), (mapM f l k).2 = k + (l.map m).sum
 | [], k => rfl
 | x :: xs, k => by
  show (mapM f xs (f x k).2).2 = _
  rw [mapM_snd h xs, h, List.map_cons, List.sum_cons]; omega
theorem mk_snd (mt : Nat → List UInt8) : ∀ (c : Bool) (t : Ty) (x : t.D) (k : Nat), (mk_ mt c t x k).2 = k + nmk c t x
 | true, .int _, _, _ => rfl
 | true, .str, _, _ => rfl
 | true, .sl t, x, k => mapM_snd (mk_snd mt true t) x k
 | false, .sl t, x, k => mapM_snd (mk_snd mt true t) x k
 | c, .pair a b, x, k => by
  have e : (mk_ mt c (.pair a b) x k).2 = (mk_ mt c b x.2 (mk_ mt c a x.1 k).2).2 := by cases c <;> rfl
  have e' : nmk c (.pair a b) x = nmk c a x.1 + nmk c b x.2 := by cases c <;> rfl
  rw [e, e', mk_snd mt c b, mk_snd mt c a]; omega
 | true, .bool, _, _ => rfl
 | true, .fn, _, _ => rfl
 | true, .unit, _, _ => rfl
 | true, .ptr _, _, _ => rfl
 | true, .arr _ _, _, _ => rfl
 | false, .int _, _, _ => rfl
 | false, .str, _, _ => rfl
 | false, .bool, _, _ => rfl
 | false, .fn, _, _ => rfl
 | false, .unit, _, _ => rfl
 | false, .ptr _, _, _ => rfl
 | false, .arr _ _, _, _ => rfl
def hl_ {α : Type} (f : α → Nat → Option Nat) : List α → Nat → Option Nat
 | [], k => some k
 | x :: xs, k => (f x k).bind fun k => hl_ f xs k
def hd_ (mt : Nat → List UInt8) : Bool → (t : Ty) → t.D → Nat → Option Nat
 | true, .int _, x, k => cond (eqI x (k : Int)) (some (k + 1)) none
 | true, .str, x, k => cond (eqS x (mt k)) (some (k + 1)) none
 | _, .sl t, x, k => hl_ (hd_ mt true t) x k
 | c, .pair a b, x, k => (hd_ mt c a x.1 k).bind fun k => hd_ mt c b x.2 k
 | _, _, _, k => some k
theorem hl_map {α : Type} {f : α → Nat → α × Nat} {g : α → Nat → Option Nat} (h : ∀ x k, g (f x k).1 k = some (f x k).2) : ∀ (l : List α) (k : Nat), hl_ g (mapM f l k).1 k = some (mapM f l k).2
 | [], k => rfl
 | x :: xs, k => by
  show (g (f x k).1 k).bind _ = _
  rw [h x k]
  exact hl_map h xs _
theorem hd_mk (mt : Nat → List UInt8) : ∀ (c : Bool) (t : Ty) (x : t.D) (k : Nat), hd_ mt c t (mk_ mt c t x k).1 k = some (mk_ mt c t x k).2
 | true, .int _, _, k => by
  show cond (eqI (k : Int) (k : Int)) (some (k + 1)) none = some (k + 1)
  simp [eqI]
 | true, .str, _, k => by
  show cond (eqS (mt k) (mt k)) (some (k + 1)) none = some (k + 1)
  simp [eqS]
 | true, .sl t, x, k => hl_map (hd_mk mt true t) x k
 | false, .sl t, x, k => hl_map (hd_mk mt true t) x k
 | c, .pair a b, x, k => by
  have e : hd_ mt c (.pair a b) (mk_ mt c (.pair a b) x k).1 k = (hd_ mt c a (mk_ mt c a x.1 k).1 k).bind fun k' => hd_ mt c b (mk_ mt c b x.2 (mk_ mt c a x.1 k).2).1 k' := by cases c <;> rfl
  rw [e, hd_mk mt c a]
  show hd_ mt c b _ _ = _
  rw [hd_mk mt c b]
  cases c <;> rfl
 | true, .bool, _, _ => rfl
 | true, .fn, _, _ => rfl
 | true, .unit, _, _ => rfl
 | true, .ptr _, _, _ => rfl
 | true, .arr _ _, _, _ => rfl
 | false, .int _, _, _ => rfl
 | false, .str, _, _ => rfl
 | false, .bool, _, _ => rfl
 | false, .fn, _, _ => rfl
 | false, .unit, _, _ => rfl
 | false, .ptr _, _, _ => rfl
 | false, .arr _ _, _, _ => rfl
theorem set_take {α : Type} {l : List α} {i : Nat} {a : α} (h : i < l.length) : (l.set i a).take (i + 1) = l.take i ++ [a] := by
 rw [List.take_add_one, List.take_set_of_le (Nat.le_refl _), List.getElem?_set]
 simp [h]
theorem gen_mark {α : Type} (F : List α → Int → Int → Option (Int × (List α × Unit))) (len : Nat) (d : α) (g : α → Nat → α × Nat) (m : α → Nat) (B : Nat) (hg : ∀ x k, (g x k).2 = k + m x) (Q : α → Prop)
  (stop : ∀ (w : List α) (k : Int), w.length = len → F w k (len : Nat) = some (k, (w, ())))
  (step : ∀ (w : List α) (k i : Nat), w.length = len → i < len → k + m (w.getD i d) ≤ B → Q (w.getD i d) → F w k i = F (w.set i (g (w.getD i d) k).1) ((g (w.getD i d) k).2 : Nat) ((i + 1 : Nat) : Int)) :
  ∀ (n i : Nat) (w : List α) (k : Nat), len - i = n → i ≤ len → w.length = len → k + ((w.drop i).map m).sum ≤ B → (∀ y ∈ w.drop i, Q y) →
   F w k i = some ((((mapM g (w.drop i) k).2 : Nat) : Int), (w.take i ++ (mapM g (w.drop i) k).1, ()))
 | 0, i, w, k, hn, hi, hl, hb, hQ => by
  have : i = len := by omega
  subst this
  rw [stop w k hl, List.drop_eq_nil_of_le (by omega), List.take_of_length_le (by omega)]
  simp [mapM]
 | n + 1, i, w, k, hn, hi, hl, hb, hQ => by
  have hlt : i < w.length := by omega
  rw [drop_getD (d := d) hlt] at hQ
  rw [drop_getD (d := d) hlt, List.map_cons, List.sum_cons] at hb
  rw [step w k i hl (by omega) (by omega) (hQ _ (List.mem_cons_self ..))]
  have e : (w.set i (g (w.getD i d) k).1).drop (i + 1) = w.drop (i + 1) := by
   rw [List.drop_set_of_lt (by omega)]
  rw [gen_mark F len d g m B hg Q stop step n (i + 1) _ _ (by omega) (by omega) (by simpa using hl) (by rw [e, hg]; omega) (by rw [e]; exact fun y hy => hQ y (List.mem_cons_of_mem _ hy)), e, drop_getD (d := d) hlt, set_take hlt]
  simp [mapM]
theorem gen_held {α : Type} (F : Int → Int → Option (Int × Unit)) (v : List α) (d : α) (g : α → Nat → Option Nat) (m : α → Nat) (B : Nat) (hg : ∀ x k k', g x k = some k' → k' = k + m x)
  (stop : ∀ k, F k (v.length : Nat) = some (k, ()))
  (step : ∀ (k i k' : Nat), i < v.length → g (v.getD i d) k = some k' → k' ≤ B → F k i = F k' ((i + 1 : Nat) : Int)) :
  ∀ (n i k k' : Nat), v.length - i = n → i ≤ v.length → k' ≤ B → hl_ g (v.drop i) k = some k' → F k i = some ((k' : Int), ())
 | 0, i, k, k', hn, hi, hb, hh => by
  have : i = v.length := by omega
  subst this
  rw [List.drop_eq_nil_of_le (by omega)] at hh
  rw [stop]
  cases hh; rfl
 | n + 1, i, k, k', hn, hi, hb, hh => by
  have hlt : i < v.length := by omega
  rw [drop_getD (d := d) hlt] at hh
  obtain ⟨k1, h1, h2⟩ := Option.bind_eq_some_iff.1 hh
  have hle : k1 ≤ k' := by
   clear hh h1 hn stop step hb hlt hi
   generalize v.drop (i + 1) = l at h2
   induction l generalizing k1 with
   | nil => cases h2; exact Nat.le_refl _
   | cons x xs ih =>
    obtain ⟨k2, h3, h4⟩ := Option.bind_eq_some_iff.1 h2
    have := hg _ _ _ h3
    have := ih k2 h4
    omega
  rw [step k i k1 hlt h1 (by omega)]
  exact gen_held F v d g m B hg stop step n (i + 1) k1 k' (by omega) (by omega) hb h2
theorem hl_len {α : Type} {g : α → Nat → Option Nat} {m : α → Nat} (h : ∀ x k k', g x k = some k' → k' = k + m x) : ∀ (l : List α) (k k' : Nat), hl_ g l k = some k' → k' = k + (l.map m).sum
 | [], k, k', e => by cases e; rfl
 | x :: xs, k, k', e => by
  obtain ⟨k1, h1, h2⟩ := Option.bind_eq_some_iff.1 e
  have := h _ _ _ h1
  have := hl_len h xs k1 k' h2
  rw [List.map_cons, List.sum_cons]; omega
theorem hd_len (mt : Nat → List UInt8) : ∀ (c : Bool) (t : Ty) (x : t.D) (k k' : Nat), hd_ mt c t x k = some k' → k' = k + nmk c t x
 | true, .int _, x, k, k', h => by
  have h : cond (eqI x (k : Int)) (some (k + 1)) none = some k' := h
  show k' = k + 1
  cases hc : eqI x (k : Int) <;> rw [hc] at h <;> cases h
  rfl
 | true, .str, x, k, k', h => by
  have h : cond (eqS x (mt k)) (some (k + 1)) none = some k' := h
  show k' = k + 1
  cases hc : eqS x (mt k) <;> rw [hc] at h <;> cases h
  rfl
 | true, .sl t, x, k, k', h => hl_len (hd_len mt true t) x k k' h
 | false, .sl t, x, k, k', h => hl_len (hd_len mt true t) x k k' h
 | c, .pair a b, x, k, k', h => by
  have e : hd_ mt c (.pair a b) x k = (hd_ mt c a x.1 k).bind fun k => hd_ mt c b x.2 k := by cases c <;> rfl
  have e' : nmk c (.pair a b) x = nmk c a x.1 + nmk c b x.2 := by cases c <;> rfl
  rw [e] at h
  obtain ⟨k1, h1, h2⟩ := Option.bind_eq_some_iff.1 h
  have := hd_len mt c a _ _ _ h1
  have := hd_len mt c b _ _ _ h2
  omega
 | true, .bool, _, _, _, h => by cases h; rfl
 | true, .fn, _, _, _, h => by cases h; rfl
 | true, .unit, _, _, _, h => by cases h; rfl
 | true, .ptr _, _, _, _, h => by cases h; rfl
 | true, .arr _ _, _, _, _, h => by cases h; rfl
 | false, .int _, _, _, _, h => by cases h; rfl
 | false, .str, _, _, _, h => by cases h; rfl
 | false, .bool, _, _, _, h => by cases h; rfl
 | false, .fn, _, _, _, h => by cases h; rfl
 | false, .unit, _, _, _, h => by cases h; rfl
 | false, .ptr _, _, _, _, h => by cases h; rfl
 | false, .arr _ _, _, _, _, h => by cases h; rfl
def fields : Ty → Nat
 | .int _ => 1
 | .str => 1
 | .pair a b => fields a + fields b
 | _ => 0
def wide : Ty → Nat
 | .sl t => max (fields t) (wide t)
 | .pair a b => max (wide a) (wide b)
 | _ => 0
theorem sum_le {α : Type} {f g : α → Nat} {B C : Nat} : ∀ (l : List α), (∀ x, f x ≤ C + B * g x) → C ≤ B → (l.map f).sum ≤ B * (l.length + (l.map g).sum)
 | [], _, _ => by simp
 | x :: xs, h, hc => by
  have h1 := h x
  have h2 := sum_le xs h hc
  simp only [List.map_cons, List.sum_cons, List.length_cons]
  have : B * (xs.length + 1 + (g x + (xs.map g).sum)) = B + B * g x + B * (xs.length + (xs.map g).sum) := by
   simp only [Nat.mul_add]; omega
  omega
theorem nmk_le (B : Nat) : ∀ (c : Bool) (t : Ty) (x : t.D), wide t ≤ B → nmk c t x ≤ (if c then fields t else 0) + B * cnt t x
 | true, .int _, _, _ => by show 1 ≤ 1 + _; omega
 | true, .str, _, _ => by show 1 ≤ 1 + _; omega
 | true, .sl t, x, h => by
  have h : max (fields t) (wide t) ≤ B := h
  have := sum_le (f := nmk true t) (g := cnt t) x (fun y => nmk_le B true t y (by omega)) (B := B) (C := fields t) (by omega)
  show (List.map (nmk true t) x).sum ≤ 0 + B * (List.length x + (List.map (cnt t) x).sum)
  omega
 | false, .sl t, x, h => by
  have h : max (fields t) (wide t) ≤ B := h
  have := sum_le (f := nmk true t) (g := cnt t) x (fun y => nmk_le B true t y (by omega)) (B := B) (C := fields t) (by omega)
  show (List.map (nmk true t) x).sum ≤ 0 + B * (List.length x + (List.map (cnt t) x).sum)
  omega
 | c, .pair a b, x, h => by
  have h : max (wide a) (wide b) ≤ B := h
  have h1 := nmk_le B c a x.1 (by omega)
  have h2 := nmk_le B c b x.2 (by omega)
  have e' : nmk c (.pair a b) x = nmk c a x.1 + nmk c b x.2 := by cases c <;> rfl
  have e : cnt (.pair a b) x = cnt a x.1 + cnt b x.2 := rfl
  have e2 : fields (.pair a b) = fields a + fields b := rfl
  rw [e', e, e2, Nat.mul_add]
  cases c
  ·simp only [if_neg (show ¬ (false = true) by decide)] at *; omega
  ·simp only [if_true] at *; omega
 | true, .bool, _, _ => Nat.zero_le _
 | true, .fn, _, _ => Nat.zero_le _
 | true, .unit, _, _ => Nat.zero_le _
 | true, .ptr _, _, _ => Nat.zero_le _
 | true, .arr _ _, _, _ => Nat.zero_le _
 | false, .int _, _, _ => Nat.zero_le _
 | false, .str, _, _ => Nat.zero_le _
 | false, .bool, _, _ => Nat.zero_le _
 | false, .fn, _, _ => Nat.zero_le _
 | false, .unit, _, _ => Nat.zero_le _
 | false, .ptr _, _, _ => Nat.zero_le _
 | false, .arr _ _, _, _ => Nat.zero_le _
def lens : (t : Ty) → t.D → Nat
 | .sl t, x => List.length x + (List.map (lens t) x).sum
 | .pair a b, x => lens a x.1 + lens b x.2
 | _, _ => 0
theorem sum_le2 {α : Type} {f g : α → Nat} : ∀ (l : List α), (∀ x, f x ≤ g x) → (l.map f).sum ≤ (l.map g).sum
 | [], _ => Nat.le_refl _
 | x :: xs, h => by
  have := h x
  have := sum_le2 xs h
  simp only [List.map_cons, List.sum_cons]; omega
theorem lens_cnt : ∀ (t : Ty) (x : t.D), lens t x ≤ cnt t x
 | .sl t, x => by
  have := sum_le2 (f := lens t) (g := cnt t) x (lens_cnt t)
  show List.length x + _ ≤ List.length x + _
  omega
 | .pair a b, x => by
  have := lens_cnt a x.1
  have := lens_cnt b x.2
  show lens a x.1 + lens b x.2 ≤ cnt a x.1 + cnt b x.2
  omega
 | .int _, _ => Nat.zero_le _
 | .bool, _ => Nat.zero_le _
 | .str, _ => Nat.zero_le _
 | .fn, _ => Nat.zero_le _
 | .unit, _ => Nat.zero_le _
 | .ptr _, _ => Nat.zero_le _
 | .arr _ _, _ => Nat.zero_le _
theorem mapM_lens {α : Type} {f : α → Nat → α × Nat} {m : α → Nat} (h : ∀ x k, m (f x k).1 = m x) : ∀ (l : List α) (k : Nat), (mapM f l k).1.length = l.length ∧ ((mapM f l k).1.map m).sum = (l.map m).sum
 | [], _ => ⟨rfl, rfl⟩
 | x :: xs, k => by
  obtain ⟨h1, h2⟩ := mapM_lens h xs (f x k).2
  refine ⟨congrArg (· + 1) h1, ?_⟩
  show m (f x k).1 + ((mapM f xs (f x k).2).1.map m).sum = _
  rw [h, h2]; rfl
theorem lens_mk (mt : Nat → List UInt8) : ∀ (c : Bool) (t : Ty) (x : t.D) (k : Nat), lens t (mk_ mt c t x k).1 = lens t x
 | true, .sl t, x, k => by
  obtain ⟨h1, h2⟩ := mapM_lens (m := lens t) (lens_mk mt true t) x k
  show List.length (mapM (mk_ mt true t) x k).1 + _ = List.length x + _
  exact (congr (congrArg HAdd.hAdd h1) h2)
 | false, .sl t, x, k => by
  obtain ⟨h1, h2⟩ := mapM_lens (m := lens t) (lens_mk mt true t) x k
  show List.length (mapM (mk_ mt true t) x k).1 + _ = List.length x + _
  exact (congr (congrArg HAdd.hAdd h1) h2)
 | c, .pair a b, x, k => by
  have h1 := lens_mk mt c a x.1 k
  have h2 := lens_mk mt c b x.2 (mk_ mt c a x.1 k).2
  have e : lens (.pair a b) (mk_ mt c (.pair a b) x k).1 = lens a (mk_ mt c a x.1 k).1 + lens b (mk_ mt c b x.2 (mk_ mt c a x.1 k).2).1 := by cases c <;> rfl
  rw [e, h1, h2]; rfl
 | true, .int _, _, _ => rfl
 | true, .str, _, _ => rfl
 | true, .bool, _, _ => rfl
 | true, .fn, _, _ => rfl
 | true, .unit, _, _ => rfl
 | true, .ptr _, _, _ => rfl
 | true, .arr _ _, _, _ => rfl
 | false, .int _, _, _ => rfl
 | false, .str, _, _ => rfl
 | false, .bool, _, _ => rfl
 | false, .fn, _, _ => rfl
 | false, .unit, _, _ => rfl
 | false, .ptr _, _, _ => rfl
 | false, .arr _ _, _, _ => rfl
theorem sum_mem {α : Type} {f : α → Nat} : ∀ {l : List α} {y : α}, y ∈ l → f y ≤ (l.map f).sum
 | x :: xs, y, h => by
  simp only [List.map_cons, List.sum_cons]
  rcases List.mem_cons.1 h with e | e
  ·subst e; omega
  ·have := sum_mem (f := f) e
   omega
theorem cnt_mem {t : Ty} {x : List t.D} {i : Nat} {d : t.D} (h : i < x.length) : cnt t (x.getD i d) ≤ cnt (.sl t) x := by
 have := sum_mem (f := cnt t) (getD_mem (d := d) h)
 show _ ≤ List.length x + (List.map (cnt t) x).sum
 omega
theorem lens_in {t : Ty} {x : List t.D} {y : t.D} (h : y ∈ x) : lens t y ≤ lens (.sl t) x := by
 have := sum_mem (f := lens t) h
 show _ ≤ List.length x + (List.map (lens t) x).sum
 omega
theorem lens_mem {t : Ty} {x : List t.D} {i : Nat} {d : t.D} (h : i < x.length) : lens t (x.getD i d) ≤ lens (.sl t) x := lens_in (getD_mem (d := d) h)
theorem szF_add {a c : Nat} {l : Int} (h : (a : Int) ≤ l) : szF c (l - a) = szF (a + c) l := by
 unfold szF
 by_cases h2 : (c : Int) ≤ l - a
 ·rw [if_pos h2, if_pos (by omega)]; omega
 ·rw [if_neg h2, if_neg (by omega)]
theorem sum_zero {α : Type} {f : α → Nat} : ∀ (l : List α), (∀ x, f x = 0) → (l.map f).sum = 0
 | [], _ => rfl
 | x :: xs, h => by
  simp only [List.map_cons, List.sum_cons]
  rw [h x, sum_zero xs h]
theorem nlt0 (k : Nat) : decide ((k : Int) < 0) = false := decide_eq_false (by omega)
theorem bind_cond {α β : Type} {b : Bool} {a : α} {f : α → Option β} {c : β} (h : (cond b (some a) none).bind f = some c) : b = true ∧ f a = some c := by
 cases b with
 | true => exact ⟨rfl, h⟩
 | false => cases h
theorem cond_none {α : Type} {b : Bool} {a c : α} (h : cond b (some a) none = some c) : b = true ∧ some a = some c := by
 cases b with
 | true => exact ⟨rfl, h⟩
 | false => cases h
def idxF {α : Type} (p : α → Bool) : List α → Nat → Int
 | [], _ => -1
 | x :: xs, i => cond (p x) (i : Int) (idxF p xs (i + 1))
theorem idxF_any {α : Type} (p : α → Bool) : ∀ (l : List α) (i : Nat), decide (0 ≤ idxF p l i) = l.any p
 | [], _ => rfl
 | x :: xs, i => by
  show decide (0 ≤ cond (p x) (i : Int) (idxF p xs (i + 1))) = (p x || xs.any p)
  cases p x with
  | true => exact decide_eq_true (by simp only [cond_true]; omega)
  | false => simp only [cond_false, Bool.false_or]; exact idxF_any p xs (i + 1)
theorem gen_idx {α : Type} (F : Int → Int → Option (Int × Unit)) (v : List α) (d : α) (p : α → Bool)
  (stop : ∀ a, F a (v.length : Nat) = some (-1, ()))
  (step : ∀ (a : Int) (i : Nat), i < v.length → F a i = cond (p (v.getD i d)) (some ((i : Int), ())) (F i ((i + 1 : Nat) : Int))) :
  ∀ (n i : Nat) (a : Int), v.length - i = n → i ≤ v.length → F a i = some (idxF p (v.drop i) i, ())
 | 0, i, a, hn, hi => by
  have : i = v.length := by omega
  subst this
  rw [stop, List.drop_eq_nil_of_le (Nat.le_refl _)]; rfl
 | n + 1, i, a, hn, hi => by
  rw [step a i (by omega), drop_getD (d := d) (by omega), gen_idx F v d p stop step n (i + 1) i (by omega) (by omega)]
  show _ = some (cond (p (v.getD i d)) (i : Int) (idxF p (v.drop (i + 1)) (i + 1)), ())
  cases p (v.getD i d) <;> rfl
theorem all_any {α : Type} (p : α → Bool) (l : List α) : (!l.any fun x => !p x) = l.all p := by
 simp [List.all_eq_not_any_not]
theorem gs {α : Type} {l : List α} {i : Nat} {a d : α} (h : i < l.length) : (l.set i a).getD i d = a := by
 rw [List.getD_eq_getElem?_getD, List.getElem?_set]; simp [h]
theorem ss {α : Type} {l : List α} {i : Nat} {a b : α} : (l.set i a).set i b = l.set i b := List.set_set ..
theorem bind_eq {α β : Type} {o : Option α} {a : α} {f : α → Option β} {r : Option β} (h : o = some a) (h2 : f a = r) : o.bind f = r := by rw [h]; exact h2
end Go.Rf

end
