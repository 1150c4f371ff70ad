/- What the program computes, in plain words: part 7. No condition. -/
import Derived.Test.YtpnhinlcggjjkaaGreatIni3
set_option linter.unusedVariables false
set_option linter.unusedSimpArgs false
section
namespace Go.Rf.S
set_option maxRecDepth 100000
abbrev DS : Type := List Int × (Int × (Int × Unit))
structure SrcOK (n : Nat) (s : DS) : Prop where
 b : ∀ x ∈ s.1, 0 ≤ x ∧ x ≤ 255
 l : s.1.length ≤ 1048576
 a0 : 0 ≤ s.2.1
 a1 : s.2.1 ≤ n
 s0 : 0 ≤ s.2.2.1
 s1 : s.2.2.1 < 2147483648
theorem A94 {n : Nat} {s : DS} (h : SrcOK n s) (hn : n ≤ 1099511627776) : ∃ (b : Int) (s' : DS), vK R s = some (b, (s', ())) ∧ SrcOK (n + 1) s' ∧ 0 ≤ b ∧ b ≤ 255 := by
 obtain ⟨h1, h2, h3, h4, h5, h6⟩ := h
 obtain ⟨c, at_, sd, u⟩ := s
 simp only at h1 h2 h3 h4 h5 h6
 obtain ⟨k, rfl⟩ := Int.eq_ofNat_of_zero_le h3
 have hk : k ≤ n := by omega
 rw [show vK R (c, ((k : Int), (sd, u))) = _ from call (AL9 R L (c, ((k : Int), (sd, u))))]
 simp only [zB (show k < 9223372036854775807 by omega)]
 have e1 : IntKind.wrap .i64 (((k + 1 : Nat) : Int) - 1) = (k : Int) := by rw [zO (by omega) (by omega)]; omega
 simp only [e1, nn, tn, cond_true]
 by_cases hc : k + 1 ≤ c.length
 ·obtain ⟨x0, x1⟩ := h1 _ (sN (d := (0 : Int)) (show k < c.length by omega))
  rw [dT (show ((k + 1 : Nat) : Int) ≤ (c.length : Int) by omega), yP (show k < c.length by omega)]
  simp only [cond_true]
  generalize c.getD k 0 = x at x0 x1
  have w1 : IntKind.wrap .i64 (sd * 31) = sd * 31 := zO (by omega) (by omega)
  have w2 : IntKind.wrap .i64 x = x := zO (by omega) (by omega)
  rw [w1, w2]
  have w3 : IntKind.wrap .i64 (sd * 31 + x) = sd * 31 + x := zO (by omega) (by omega)
  rw [w3]
  have w4 : IntKind.wrap .i64 (sd * 31 + x + 7) = sd * 31 + x + 7 := zO (by omega) (by omega)
  rw [w4, Int.tmod_eq_emod_of_nonneg (by omega)]
  exact ⟨_, _, rfl, ⟨h1, h2, by show (0 : Int) ≤ ((k + 1 : Nat) : Int); omega, by show ((k + 1 : Nat) : Int) ≤ ((n + 1 : Nat) : Int); omega, by show 0 ≤ (sd * 31 + x + 7) % 2147483648; omega, by show (sd * 31 + x + 7) % 2147483648 < _; omega⟩, x0, x1⟩
 ·rw [dF (show ¬ ((k + 1 : Nat) : Int) ≤ (c.length : Int) by omega)]
  simp only [cond_false]
  by_cases h3 : (3000 : Int) < ((k + 1 : Nat) : Int)
  ·rw [dT h3]
   exact ⟨_, _, rfl, ⟨h1, h2, by show (0 : Int) ≤ ((k + 1 : Nat) : Int); omega, by show ((k + 1 : Nat) : Int) ≤ ((n + 1 : Nat) : Int); omega, h5, h6⟩, by decide, by decide⟩
  ·rw [dF h3]
   simp only [cond_false]
   have w1 : IntKind.wrap .i64 (sd * 1103515245) = sd * 1103515245 := zO (by omega) (by omega)
   rw [w1]
   have w2 : IntKind.wrap .i64 (sd * 1103515245 + 12345) = sd * 1103515245 + 12345 := zO (by omega) (by omega)
   rw [w2, show Int.tmod (sd * 1103515245 + 12345) 2147483648 = (sd * 1103515245 + 12345) % 2147483648 from Int.tmod_eq_emod_of_nonneg (by omega)]
   obtain ⟨y, hy⟩ : ∃ y, y = (sd * 1103515245 + 12345) % 2147483648 := ⟨_, rfl⟩
   have y0 : 0 ≤ y := by omega
   have y1 : y < 2147483648 := by omega
   rw [← hy]
   have w3 : IntKind.wrap .i64 (Int.tdiv y 65536) = y / 65536 := by rw [Int.tdiv_eq_ediv_of_nonneg y0, zO (by omega) (by omega)]
   rw [w3, Int.tmod_eq_emod_of_nonneg (by omega)]
   exact ⟨_, _, rfl, ⟨h1, h2, by show (0 : Int) ≤ ((k + 1 : Nat) : Int); omega, by show ((k + 1 : Nat) : Int) ≤ ((n + 1 : Nat) : Int); omega, y0, y1⟩, by omega, by omega⟩
theorem A37 {n : Nat} {s : DS} (h : SrcOK n s) (hn : n ≤ 1099511627776) (m : Nat) (hm : 2 ≤ m) (hm2 : m ≤ 256) : ∃ (b : Int) (s' : DS), vL R s (m : Int) = some (b, (s', ())) ∧ SrcOK (n + 1) s' ∧ 0 ≤ b ∧ b < m := by
 obtain ⟨b, s', e, hs, b0, b1⟩ := A94 h hn
 rw [show vL R s (m : Int) = _ from call (AL8 R L s (m : Int)), dF (show ¬ (m : Int) ≤ 1 by omega), dT (show (m : Int) ≤ 256 by omega), e]
 simp only [Option.bind_some, oJ]
 rw [dF (show ¬ (m : Int) = 0 by omega), Int.tmod_eq_emod_of_nonneg b0]
 exact ⟨_, _, rfl, hs, Int.emod_nonneg _ (by omega), Int.emod_lt_of_pos _ (by omega)⟩
theorem Ap1 {l0 : Nat} : ∀ (c i : Nat) (n : Nat) (s : DS) (o : List Int), i + c = l0 → l0 ≤ 1000 → n + c ≤ 1099511627776 → SrcOK n s → o.length = i → o.all jH = true →
  ∃ (o' : List Int) (s' : DS), yN R L s (l0 : Int) o (i : Int) = some (o', (s', ())) ∧ SrcOK (n + c) s' ∧ o'.length = l0 ∧ o'.all jH = true
 | 0, i, n, s, o, hi, hl, hn, hs, ho, ha => by
  rw [show yN R L s (l0 : Int) o (i : Int) = _ from round (by kernel_rfl) (oT R L s (l0 : Int) o (i : Int)), A2M (by omega)]
  exact ⟨o, s, rfl, hs, by omega, ha⟩
 | c + 1, i, n, s, o, hi, hl, hn, hs, ho, ha => by
  obtain ⟨b, s', e, hs', b0, b1⟩ := A37 hs (by omega) 8 (by decide) (by decide)
  have e : vL R s 8 = some (b, (s', ())) := e
  rw [show yN R L s (l0 : Int) o (i : Int) = _ from round (by kernel_rfl) (oT R L s (l0 : Int) o (i : Int)), A2B (by omega), e]
  simp only [Option.bind_some, cond_true]
  rw [uB (by show o.length + 1 ≤ _; omega), zB (by omega)]
  obtain ⟨o', s'', e2, h2, h3, h4⟩ := Ap1 c (i + 1) (n + 1) s' (o ++ [b]) (by omega) hl (by omega) hs' (by rw [List.length_append, ho]; rfl) (by
   rw [List.all_append, ha]
   show (true && (jH b && true)) = true
   have : jH b = true := by
    show inB b 0 7 = true
    unfold inB
    simp only [Bool.and_eq_true, decide_eq_true_eq]
    omega
   rw [this]; rfl)
  exact ⟨o', s'', e2, by rw [show n + (c + 1) = n + 1 + c by omega]; exact h2, h3, h4⟩
theorem A2D {l0 : Nat} : ∀ (c i : Nat) (n : Nat) (s : DS) (o : List Int), i + c = l0 → l0 ≤ 1000 → n + c ≤ 1099511627776 → SrcOK n s → o.length = i →
  ∃ (o' : List UInt8) (s' : DS), xR R L s (l0 : Int) o (i : Int) = some (o', (s', ())) ∧ SrcOK (n + c) s' ∧ o'.length = l0
 | 0, i, n, s, o, hi, hl, hn, hs, ho => by
  rw [show xR R L s (l0 : Int) o (i : Int) = _ from round (by kernel_rfl) (kW R L s (l0 : Int) o (i : Int)), A2M (by omega)]
  exact ⟨_, s, rfl, hs, by rw [List.length_map]; omega⟩
 | c + 1, i, n, s, o, hi, hl, hn, hs, ho => by
  obtain ⟨b, s', e, hs', b0, b1⟩ := A37 hs (by omega) 256 (by decide) (by decide)
  have e : vL R s 256 = some (b, (s', ())) := e
  rw [show xR R L s (l0 : Int) o (i : Int) = _ from round (by kernel_rfl) (kW R L s (l0 : Int) o (i : Int)), A2B (by omega), e]
  simp only [Option.bind_some, cond_true]
  rw [uB (by show o.length + 1 ≤ _; omega), zB (by omega)]
  obtain ⟨o', s'', e2, h2, h3⟩ := A2D c (i + 1) (n + 1) s' (o ++ [IntKind.wrap .u8 b]) (by omega) hl (by omega) hs' (by rw [List.length_append, ho]; rfl)
  exact ⟨o', s'', e2, by rw [show n + (c + 1) = n + 1 + c by omega]; exact h2, h3⟩
def A0E (c : List Int) : Prop := (∀ x ∈ c, 0 ≤ x ∧ x ≤ 255) ∧ c.length ≤ 1048576
theorem BE5 {c : List Int} (h : A0E c) : ∃ s : DS, kI R c = some (s, ()) ∧ SrcOK 0 s := by
 rw [show kI R c = _ from call (Ax8 R L c)]
 have e : Int.tmod ((c.length : Nat) : Int) 1000 = ((c.length % 1000 : Nat) : Int) := rfl
 rw [e]
 exact ⟨_, rfl, h.1, h.2, by show (0 : Int) ≤ 0; omega, by show (0 : Int) ≤ _; omega, by show (0 : Int) ≤ ((c.length % 1000 : Nat) : Int); omega, by show ((c.length % 1000 : Nat) : Int) < _; omega⟩
theorem BU6 {c : List Int} (h : A0E c) : ∃ k : List UInt8, AO5 R c = some (k, ()) ∧ k.length = 32 := by
 obtain ⟨s, e, hs⟩ := BE5 h
 obtain ⟨o, s', e2, h2, h3⟩ := A2D (l0 := 32) 32 0 0 s [] rfl (by decide) (by decide) hs rfl
 have e2 : xR R L s 32 [] 0 = some (o, (s', ())) := e2
 rw [show AO5 R c = _ from call (A7U R L c), e]
 simp only [Option.bind_some]
 rw [show kJ R s = _ from call (AN6 R L s), show nV R s 32 = _ from call (AH3 R L s 32), e2]
 exact ⟨o, rfl, h3⟩
theorem A9U {c : List Int} (h : A0E c) (n : Nat) (hn : n ≤ 1000) : ∃ l : List Int, fZ R c (n : Int) = some (l, ()) ∧ l.length = n ∧ l.all jH = true := by
 obtain ⟨s, e, hs⟩ := BE5 h
 obtain ⟨o, s', e2, h2, h3, h4⟩ := Ap1 (l0 := n) n 0 0 s [] (by omega) hn (by omega) hs rfl rfl
 have e2 : yN R L s (n : Int) [] 0 = some (o, (s', ())) := e2
 rw [show fZ R c (n : Int) = _ from call (A3e R L c (n : Int)), e]
 simp only [Option.bind_some]
 rw [show rJ R s (n : Int) = _ from call (dK R L s (n : Int)), e2]
 exact ⟨o, rfl, h3, h4⟩
theorem Ap7 {c : List Int} (h : At1 (.sl (.int .u8)) c) (hl : c.length ≤ 1048576) : A0E c := ⟨fun x hx => by
 have := A9i h x hx
 have h2 : (Lit.int .u8 x).wf = true := this
 have h3 : IntKind.u8.min ≤ x ∧ x ≤ IntKind.u8.max := by simpa [Lit.wf] using h2
 exact h3, hl⟩
theorem A52 (l : List (List UInt8)) (h : l.length ≤ 1099511627776) : gG R l l = some (true, ()) := by
 have hh : ∀ (n i : Nat), l.length - i = n → i ≤ l.length → rB R L l l false (i : Int) = some (true, ()) := by
  intro n
  induction n with
  | zero =>
   intro i hn hi
   rw [show rB R L l l false (i : Int) = _ from round (by kernel_rfl) (AD0 R L l l false (i : Int)), A2M (by omega)]; rfl
  | succ n ih =>
   intro i hn hi
   rw [show rB R L l l false (i : Int) = _ from round (by kernel_rfl) (AD0 R L l l false (i : Int)), A2B (by omega), nn, tn, yP (by omega), Ai9, dT rfl, zB (by omega)]
   exact ih (i + 1) (by omega) (by omega)
 rw [show gG R l l = _ from call (Az4 R L l l), oJ, dT rfl]
 exact hh _ 0 rfl (Nat.zero_le _)
theorem BA5 (s : List (List UInt8)) (h : s.length ≤ 1099511627776) : jZ R (s, ([], ())) (s, ([], ())) = some (true, ()) := by
 rw [show jZ R (s, ([], ())) (s, ([], ())) = _ from call (Ak6 R L _ _), A52 s h]
 show qD R L (s, ([], ())) (s, ([], ())) (s, ([], ())) (s, ([], ())) false 0 = _
 rw [show qD R L (s, ([], ())) (s, ([], ())) (s, ([], ())) (s, ([], ())) false 0 = _ from round (by kernel_rfl) (Aa3 R L _ _ _ _ _ _)]
 rfl
theorem A5s (k : List UInt8) (r : cB) (s : List (List UInt8)) (a b : Bool) (h : s.length ≤ 1099511627776) : nD R (k, (r, ((s, ([], ())), (a, (b, ()))))) (k, (r, ((s, ([], ())), (a, (b, ()))))) = some (true, ()) := by
 rw [show nD R (k, (r, ((s, ([], ())), (a, (b, ()))))) (k, (r, ((s, ([], ())), (a, (b, ()))))) = _ from call (Au3 R L _ _), BA5 s h]
 simp [Ai9, oJ, eqB]
theorem BB7 (key : List UInt8) (l : List Int) : newS key l = (key, ((newS key l).2.1, ((A0R key l ++ List.replicate 24 [], ([], ())), (true, (false, ()))))) := by
 unfold newS; with_reducible rfl
theorem A47 {key : List UInt8} {l : List Int} (h : jW key l = 0) : nD R (newS key l) (newS key l) = some (true, ()) := by
 have s3 := (A1C h).2.2.1
 rw [BB7]
 exact A5s _ _ _ _ _ (by rw [List.length_append, s3, List.length_replicate]; decide)
theorem BV8 {key : List UInt8} {l : List Int} (h : jW key l = 0) : Ad3 R key l = some (newS key l, (0, ())) := by
 obtain ⟨h1, h2, h3, h4⟩ := Ae4 h
 rw [show Ad3 R key l = _ from call (BC3 R L key l), A4r l (by omega), Ba3 key l h, h1, h2, h3]
 rfl
theorem BQ1 {key : List UInt8} {l : List Int} (h : jW key l = 0) : bP R (newS key l) = some (newS key l, ([], (5, ()))) := by
 have hok := (Ax7 h).1
 have hso := SO.of hok
 have hw : uN R (newS key l).2.1 = some (0, ()) := by
  rw [show uN R (newS key l).2.1 = _ from call (iY R L _)]
  rw [show (newS key l).2.1.2.2.1 = 0 by unfold newS; with_reducible rfl, show (newS key l).2.1.1 = 0 by unfold newS; with_reducible rfl]
  rfl
 have hx : ∃ d r, qO R (newS key l) = some (d, (r, ([], (5, ())))) := by
  rw [show qO R (newS key l) = _ from call (AM5 R L _), Bh6, show upc (newS key l) = 0 from A7F .., hw]
  exact ⟨_, _, rfl⟩
 obtain ⟨d, r, hx⟩ := hx
 have hf : mM R (newS key l) 5 = some (newS key l, ()) := by
  rw [show mM R (newS key l) 5 = _ from call (Ab2 R L _ _), A9f hso]; rfl
 rw [show bP R (newS key l) = _ from call (A3N R L _), bJ, hok, hx]
 simp only [Option.bind_some, Bool.not_true, cond_false]
 rw [hf]; rfl
theorem BQ8 {key : List UInt8} {l : List Int} (h : jW key l = 0) : ∃ x, bM R (newS key l) = some (x, (17, ())) := by
 have hok := (Ax7 h).1
 rw [show bM R (newS key l) = _ from call (A2a R L _), bJ, hok, A9f (SO.of hok)]
 rw [show (newS key l).2.2.2.2.1 = false by unfold newS; with_reducible rfl, show (newS key l).2.2.2.1 = true by unfold newS; with_reducible rfl]
 exact ⟨_, rfl⟩
theorem A38 (e : DE) : ∀ (c i : Nat), i + c = 11 → wV R L e [] (List.replicate 11 0) 11 (i : Int) = some ([], ())
 | 0, i, h => by
  rw [show wV R L e [] (List.replicate 11 0) 11 (i : Int) = _ from round (by kernel_rfl) (dZ R L e [] (List.replicate 11 0) 11 (i : Int)), dF (show ¬ (i : Int) < 11 by omega)]; rfl
 | c + 1, i, h => by
  have e0 : (List.replicate 11 (0 : Int)).getD i 0 = 0 := by
   rw [List.getD_eq_getElem?_getD, List.getElem?_replicate]; split <;> rfl
  rw [show wV R L e [] (List.replicate 11 0) 11 (i : Int) = _ from round (by kernel_rfl) (dZ R L e [] (List.replicate 11 0) 11 (i : Int)), dT (show (i : Int) < 11 by omega), nn, tn, yP (by rw [List.length_replicate]; omega), e0, zB (by omega)]
  exact A38 e c (i + 1) (by omega)
theorem BL9 {l : List Int} (h2 : l.length = 12) (h3 : l.all jH = true) : Ac0 (AA3 l) = true := by
 have e : Ac0 (AA3 l) = (decide (l.length = 12) && (l.all iX && true)) := rfl
 rw [e, h2, show l.all iX = l.all jH from rfl, h3]; rfl
theorem BN1 {l : List Int} (h2 : l.length = 12) (h3 : l.all jH = true) : AN5 R (AA3 l) = some ([], (0, ())) := by
 rw [show AN5 R (AA3 l) = _ from call (A9B R L _), BP7 (AA3 l) (by show (List.replicate 11 (0 : Int)).length ≤ _; decide) (by show l.length ≤ 4096; omega) (by show 0 + (List.replicate 15 ([] : List DB)).flatten.length ≤ _; decide), BL9 h2 h3]
 simp only [Option.bind_some, Bool.not_true, cond_false]
 rw [show eA R (AA3 l) = _ from call (Ag2 R L _)]
 have := A38 (AA3 l) 11 0 rfl
 have e : wV R L (AA3 l) [] (AA3 l).1 (((AA3 l).1.length : Nat) : Int) 0 = some ([], ()) := this
 rw [e]; rfl
theorem law_Init (x y : List Int) (hx : At1 (.sl (.int .u8)) x) (hy : At1 (.sl (.int .u8)) y) : AV2 R x y = some (true, ()) := by
 rw [show AV2 R x y = _ from call (A5d R L x y)]
 by_cases h1 : 1048576 < x.length
 ·rw [dT (show (1048576 : Int) < (x.length : Int) by omega)]; rfl
 ·by_cases h2 : 1048576 < y.length
  ·rw [dF (show ¬ (1048576 : Int) < (x.length : Int) by omega), dT (show (1048576 : Int) < (y.length : Int) by omega)]; rfl
  ·rw [dF (show ¬ (1048576 : Int) < (x.length : Int) by omega), dF (show ¬ (1048576 : Int) < (y.length : Int) by omega)]
   obtain ⟨k, ek, hk⟩ := BU6 (Ap7 hx (by omega))
   obtain ⟨l, el, hl, ha⟩ := A9U (Ap7 hy (by omega)) 12 (by decide)
   have el : fZ R y 12 = some (l, ()) := el
   have hc : bY l = 0 := by
    unfold bY
    rw [if_neg (by omega), if_neg (by omega), if_neg (by rw [ha]; decide)]
   have h : jW k l = 0 := by
    unfold jW
    rw [if_neg (by omega), if_neg (by omega), if_neg (by omega), hc]
   have e1 := BU4 k l (by omega) (by omega)
   rw [if_pos h, h] at e1
   have e2 := A5G l (by omega)
   rw [if_pos hc, hc] at e2
   obtain ⟨z, e3⟩ := BQ8 h
   obtain ⟨o1, o2⟩ := Ax7 h
   rw [ek, el]
   simp only [Option.bind_some]
   rw [e1, BV8 h]
   simp only [Option.bind_some]
   rw [BR3 h, BQ1 h, e2]
   simp only [Option.bind_some, cond_false]
   rw [BN1 hl ha, e3, A47 h, bJ, o1, AK8, o2]
   simp only [Option.bind_some, cond_true, A47 h]
   rw [show (newS k l).2.2.2.1 = true by unfold newS; with_reducible rfl]
   rfl
end Go.Rf.S

end
