/- What the program computes, in plain words: part 6. No condition. -/
import Derived.Test.YtpnhinlcggjjkaaGreatIni2
import Derived.Test.YtpnhinlcggjjkaaGreatIni1
set_option linter.unusedVariables false
set_option linter.unusedSimpArgs false
section
namespace Go.Rf.S
set_option maxRecDepth 100000
theorem Be3 : ∀ n : Fin 32, xF .and .u64 (IntKind.wrap .u64 (n.val : Int)) 31 = (n.val : Int) := by decide +kernel
theorem BJ1 (x n : Nat) (hx : x < 4294967296) (hn : n < 32) : yT R (x : Int) (n : Int) = some (((rl n x : Nat) : Int), ()) := by
 have hq : yT R (x : Int) (n : Int) = _ := call (lA R L (x : Int) (n : Int))
 have e1 := Be3 ⟨n, hn⟩
 simp only at e1
 have e2 : IntKind.wrap .u64 ((32 : Int) - (n : Int)) = ((32 - n : Nat) : Int) := by
  rw [show (32 : Int) - (n : Int) = ((32 - n : Nat) : Int) by omega, AR1 (by simp only [tL]; omega)]
 rw [hq, e1, e2, decide_eq_false (show ¬ (((32 - n : Nat) : Int) < 0) by omega)]
 simp only [cond_false, tn]
 rw [show Min.min (32 - n) (IntKind.bits .u32) = 32 - n from Nat.min_eq_left (by simp only [IntKind.bits]; omega), show Min.min n (IntKind.bits .u32) = n from Nat.min_eq_left (by simp only [IntKind.bits]; omega), A6P, Aj5, kP,
  Ai5 (k := .u32) (wO _) (nB _ hx)]
 rfl
theorem A4o (x n : Nat) (hx : x < 4294967296) (hn : n < 31) : sL R (x : Int) (n : Int) = some (((rl n x : Nat) : Int), ()) := by
 have hq : sL R (x : Int) (n : Int) = _ := call (A22 R L (x : Int) (n : Int))
 have e2 : IntKind.wrap .i64 ((32 : Int) - (n : Int)) = ((32 - n : Nat) : Int) := by
  rw [zO (by omega) (by omega)]; omega
 have hb : x * 2 ^ n < 9223372036854775808 := by
  have h1 : 2 ^ n ≤ 2 ^ 30 := Nat.pow_le_pow_right (by decide) (by omega)
  have h2 : x * 2 ^ n ≤ x * 2 ^ 30 := Nat.mul_le_mul_left _ h1
  omega
 rw [hq, e2, decide_eq_false (show ¬ ((n : Int) < 0) by omega), decide_eq_false (show ¬ (((32 - n : Nat) : Int) < 0) by omega)]
 simp only [cond_false, tn]
 rw [show Min.min (32 - n) (IntKind.bits .i64) = 32 - n from Nat.min_eq_left (by simp only [IntKind.bits]; omega), show Min.min n (IntKind.bits .i64) = n from Nat.min_eq_left (by simp only [IntKind.bits]; omega), A01 (k := .i64) hb, kP,
  Ai5 (k := .i64) hb (Nat.lt_trans (nB _ hx) (by decide)), m32 (Nat.or_lt_two_pow (n := 63) hb (Nat.lt_trans (nB _ hx) (by decide))), BM8 hx]
def qT : List (List Int) := [[16, 12], [8, 7]]
theorem A8Q (a b c d : Nat) (ha : a < 4294967296) (hb : b < 4294967296) (hc : c < 4294967296) (hd : d < 4294967296) :
  bE R (a : Int) (b : Int) (c : Int) (d : Int) = some ((((qr a b c d).1 : Nat) : Int), ((((qr a b c d).2.1 : Nat) : Int), ((((qr a b c d).2.2.1 : Nat) : Int), ((((qr a b c d).2.2.2 : Nat) : Int), ())))) := by
 have hq : bE R (a : Int) (b : Int) (c : Int) (d : Int) = _ := call (A2U R L (a : Int) (b : Int) (c : Int) (d : Int))
 have st : ∀ (a b c d i s1 s2 : Nat), b < 4294967296 → d < 4294967296 → i < 2 → s1 < 32 → s2 < 32 → (qT.getD i (List.replicate 2 (0 : Int))).getD (Int.toNat 0) 0 = (s1 : Int) → (qT.getD i (List.replicate 2 (0 : Int))).getD (Int.toNat 1) 0 = (s2 : Int) →
   tH R L (a : Int) (b : Int) (c : Int) (d : Int) qT (i : Int) =
    tH R L (((a + b) % 4294967296 : Nat) : Int) ((rl s2 (b ^^^ ((c + rl s1 (d ^^^ ((a + b) % 4294967296))) % 4294967296)) : Nat) : Int) (((c + rl s1 (d ^^^ ((a + b) % 4294967296))) % 4294967296 : Nat) : Int) ((rl s1 (d ^^^ ((a + b) % 4294967296)) : Nat) : Int) qT ((i + 1 : Nat) : Int) := by
  intro a b c d i s1 s2 hb hd hi h1 h2 e1 e2
  have hq : tH R L (a : Int) (b : Int) (c : Int) (d : Int) qT (i : Int) = _ := round (by kernel_rfl) (AQ1 R L (a : Int) (b : Int) (c : Int) (d : Int) qT (i : Int))
  rw [hq, show decide ((i : Int) < 2) = true from decide_eq_true (by omega), zB (by omega)]
  simp only [nn, tn, cond_true, yP (show i < 2 from hi), BE2]
  rw [e1, e2, aY (k := .u32) (by decide) hd (wO _), BJ1 _ s1 (xE hd (wO _)) h1]
  simp only [Option.bind_some, BE2]
  rw [aY (k := .u32) (by decide) hb (wO _), BJ1 _ s2 (xE hb (wO _)) h2]
  rfl
 rw [hq]
 show tH R L (a : Int) (b : Int) (c : Int) (d : Int) qT ((0 : Nat) : Int) = _
 rw [st a b c d 0 16 12 hb hd (by decide) (by decide) (by decide) rfl rfl, st _ _ _ _ 1 8 7 (Ak7 (xE hb (wO _))) (Ak7 (xE hd (wO _))) (by decide) (by decide) (by decide) rfl rfl]
 have he : ∀ (a b c d : Int), tH R L a b c d qT ((1 + 1 : Nat) : Int) = some (a, (b, (c, (d, ())))) := fun a b c d => by
  have hq : tH R L a b c d qT ((1 + 1 : Nat) : Int) = _ := round (by kernel_rfl) (AQ1 R L a b c d qT ((1 + 1 : Nat) : Int))
  rw [hq]; rfl
 rw [he]
 rfl
def ql (q : Nat × Nat × Nat × Nat) : List Nat := [q.1, q.2.1, q.2.2.1, q.2.2.2]
theorem Ay2 (a b c d : Nat) (ha : a < 4294967296) (hb : b < 4294967296) (hc : c < 4294967296) (hd : d < 4294967296) :
  iE R (a : Int) (b : Int) (c : Int) (d : Int) = some (cl (ql (qr a b c d)), ()) := by
 have hq : iE R (a : Int) (b : Int) (c : Int) (d : Int) = _ := call (An1 R L (a : Int) (b : Int) (c : Int) (d : Int))
 have sm : ∀ {x y : Nat}, x < 4294967296 → y < 4294967296 → xF .and .i64 (IntKind.wrap .i64 ((x : Int) + (y : Int))) 4294967295 = (((x + y) % 4294967296 : Nat) : Int) := fun hx hy => by
  rw [Ak1 (by simp only [tL]; omega), m32 (by omega)]
 have L16 : ∀ {x : Nat}, x < 4294967296 → sL R (x : Int) 16 = some (((rl 16 x : Nat) : Int), ()) := fun {x} h => A4o x 16 h (by decide)
 have L12 : ∀ {x : Nat}, x < 4294967296 → sL R (x : Int) 12 = some (((rl 12 x : Nat) : Int), ()) := fun {x} h => A4o x 12 h (by decide)
 have L8 : ∀ {x : Nat}, x < 4294967296 → sL R (x : Int) 8 = some (((rl 8 x : Nat) : Int), ()) := fun {x} h => A4o x 8 h (by decide)
 have L7 : ∀ {x : Nat}, x < 4294967296 → sL R (x : Int) 7 = some (((rl 7 x : Nat) : Int), ()) := fun {x} h => A4o x 7 h (by decide)
 have h1 := wO (a + b)
 have hd1 : rl 16 (d ^^^ ((a + b) % 4294967296)) < 4294967296 := Ak7 (xE hd h1)
 have hc1 := wO (c + rl 16 (d ^^^ ((a + b) % 4294967296)))
 rw [hq, sm ha hb, aY (k := .i64) (by decide) hd h1, L16 (xE hd h1)]
 simp only [Option.bind_some]
 rw [sm hc hd1, aY (k := .i64) (by decide) hb hc1, L12 (xE hb hc1)]
 simp only [Option.bind_some]
 have hb1 : rl 12 (b ^^^ ((c + rl 16 (d ^^^ ((a + b) % 4294967296))) % 4294967296)) < 4294967296 := Ak7 (xE hb hc1)
 rw [sm h1 hb1, aY (k := .i64) (by decide) hd1 (wO _), L8 (xE hd1 (wO _))]
 simp only [Option.bind_some]
 rw [sm hc1 (Ak7 (xE hd1 (wO _))), aY (k := .i64) (by decide) hb1 (wO _), L7 (xE hb1 (wO _))]
 rfl
theorem BS0 {a b c d : Nat} {y : List Nat} {n : Nat} (h : Wd n y) : Wd n (qs a b c d y) := ⟨by rw [BZ1]; exact h.1, Bg2 h.2⟩
theorem A7g (y : List Nat) (hy : Wd 16 y) (a b c d : Nat) (ha : a < 16) (hb : b < 16) (hc : c < 16) (hd : d < 16) :
  iQ R (cl y) (a : Int) (b : Int) (c : Int) (d : Int) = some (cl (qs a b c d y), ()) := by
 have hq : iQ R (cl y) (a : Int) (b : Int) (c : Int) (d : Int) = _ := call (A1f R L (cl y) (a : Int) (b : Int) (c : Int) (d : Int))
 rw [hq]
 simp only [nn, tn, cond_true, yP ha, yP hb, yP hc, yP hd, yA]
 rw [Ay2 _ _ _ _ (hy.g a) (hy.g b) (hy.g c) (hy.g d)]
 simp only [Option.bind_some, yA, uS]
 rfl
theorem BG7 (k : IntKind) (hk : 4294967296 ≤ tL k) (h32 : 32 ≤ k.bits) (t : List UInt8) (i : Nat) :
  xF .or k (xF .or k (xF .or k (IntKind.wrap k (((t.getD i 0).toNat : Nat) : Int))
   (IntKind.wrap k (IntKind.wrap k (((t.getD (i + 1) 0).toNat : Nat) : Int) * ((2 : Int) ^ Min.min (Int.toNat 8) k.bits))))
   (IntKind.wrap k (IntKind.wrap k (((t.getD (i + 2) 0).toNat : Nat) : Int) * ((2 : Int) ^ Min.min (Int.toNat 16) k.bits))))
   (IntKind.wrap k (IntKind.wrap k (((t.getD (i + 3) 0).toNat : Nat) : Int) * ((2 : Int) ^ Min.min (Int.toNat 24) k.bits))) = ((wLE t i : Nat) : Int) := by
 have h0 := sT t i; have h1 := sT t (i + 1); have h2 := sT t (i + 2); have h3 := sT t (i + 3)
 have m24 : Min.min (Int.toNat 24) k.bits = 24 := Nat.min_eq_left (by show 24 ≤ _; omega)
 have m16 : Min.min (Int.toNat 16) k.bits = 16 := Nat.min_eq_left (by show 16 ≤ _; omega)
 have m8 : Min.min (Int.toNat 8) k.bits = 8 := Nat.min_eq_left (by show 8 ≤ _; omega)
 have hk8 : 256 ≤ tL k := Nat.le_trans (by decide) hk
 unfold bt at h0 h1 h2 h3
 rw [m24, m16, m8, A1L hk8, A1L hk8, A1L hk8, A1L hk8, A01 (by omega), A01 (by omega), A01 (by omega), BT6 hk (by omega) (by omega), BT6 hk (jT (by omega) (by omega)) (by omega), BT6 hk (jT (jT (by omega) (by omega)) (by omega)) (by omega)]
 rfl
theorem A3K (t : List UInt8) (i : Nat) (h : i + 3 < t.length) (hi : i < 1099511627776) : mV R t (i : Int) = some (((wLE t i : Nat) : Int), ()) := by
 have hq : mV R t (i : Int) = _ := call (A28 R L t (i : Int))
 have e1 : IntKind.wrap .i64 ((i : Int) + 1) = ((i + 1 : Nat) : Int) := Ai4 1 (by omega)
 have e2 : IntKind.wrap .i64 ((i : Int) + 2) = ((i + 2 : Nat) : Int) := Ai4 2 (by omega)
 have e3 : IntKind.wrap .i64 ((i : Int) + 3) = ((i + 3 : Nat) : Int) := Ai4 3 (by omega)
 rw [hq, e1, e2, e3]
 simp only [nn, tn, yP (show i < t.length by omega), yP (show i + 1 < t.length by omega), yP (show i + 2 < t.length by omega), yP h, cond_true]
 rw [BG7 .i64 (by decide) (by decide)]
theorem AX7 (t : List UInt8) (h : 4 ≤ t.length) : mI R t = some (((wLE t 0 : Nat) : Int), ()) := by
 have hq : mI R t = _ := call (Al7 R L t)
 rw [hq]
 simp only [show Int.toNat 0 = 0 from rfl, show Int.toNat 1 = 1 from rfl, show Int.toNat 2 = 2 from rfl, show Int.toNat 3 = 3 from rfl, yP (show 0 < t.length by omega), yP (show 1 < t.length by omega), yP (show 2 < t.length by omega), yP (show 3 < t.length by omega), cond_true]
 rw [show xF .or .u32 _ _ = _ from BG7 .u32 (by decide) (by decide) t 0]
end Go.Rf.S

end
section
namespace Go.Rf.S
set_option maxRecDepth 100000
theorem A4z (v n : Nat) (hn : n ≤ 8) : sA R L (v : Int) (cl []) (n : Int) 0 = some (ub (lit v n), ()) ∧ (lit v n).length = n :=
 yI (fun (o : List Nat) i => sA R L (v : Int) (cl o) (n : Int) i) (stL v) (fun i o => o.length = i) n (fun o => some (ub o, ()))
  (fun o _ => by
   have hq : sA R L (v : Int) (cl o) (n : Int) (n : Nat) = _ := round (by kernel_rfl) (AX1 R L (v : Int) (cl o) (n : Int) (n : Nat))
   show sA R L (v : Int) (cl o) (n : Int) (n : Nat) = _
   rw [hq, decide_eq_false (show ¬ ((n : Int) < (n : Int)) by omega), Aa5]; rfl)
  (fun o i hi ho => by
   have hq : sA R L (v : Int) (cl o) (n : Int) (i : Nat) = _ := round (by kernel_rfl) (AX1 R L (v : Int) (cl o) (n : Int) (i : Nat))
   refine ⟨?_, by unfold stL; rw [List.length_append, ho]; rfl⟩
   show sA R L (v : Int) (cl o) (n : Int) (i : Nat) = _
   have e8 : IntKind.wrap .i64 ((8 : Int) * (i : Int)) = ((8 * i : Nat) : Int) := by rw [zO (by omega) (by omega)]; omega
   rw [hq, decide_eq_true (show (i : Int) < (n : Int) by omega), e8, decide_eq_false (show ¬ (((8 * i : Nat) : Int) < 0) by omega), tn, show Min.min (8 * i) (IntKind.bits .i64) = 8 * i from Nat.min_eq_left (by simp only [IntKind.bits]; omega), kP, tS,
    uB (by rw [mF]; simp only [List.length_cons, List.length_nil]; omega), zB (by omega)]
   simp only [cond_true, cond_false]
   rw [show [((v / 2 ^ (8 * i) % 256 : Nat) : Int)] = cl [v / 2 ^ (8 * i) % 256] from rfl, AO1]
   rfl)
  [] rfl
theorem aG (v n : Nat) (hn : n ≤ 8) : wY R (v : Int) (n : Int) = some (ub (lit v n), ()) := by
 have hq : wY R (v : Int) (n : Int) = _ := call (A6R R L (v : Int) (n : Int))
 exact hq.trans (A4z v n hn).1
theorem jP (v n : Nat) (hn : n ≤ 8) : (lit v n).length = n := (A4z v n hn).2
theorem AU0 {a b : List UInt8} {i : Nat} (h : i < a.length) : bt (a ++ b) i = bt a i := by
 unfold bt; rw [List.getD_eq_getElem?_getD, List.getD_eq_getElem?_getD, List.getElem?_append_left h]
theorem AU9 {a b : List UInt8} {i : Nat} (h : a.length ≤ i) : bt (a ++ b) i = bt b (i - a.length) := by
 unfold bt; rw [List.getD_eq_getElem?_getD, List.getD_eq_getElem?_getD, List.getElem?_append_right h]
theorem AG9 {a b : List UInt8} {i : Nat} (h : i + 3 < a.length) : wLE (a ++ b) i = wLE a i := by
 unfold wLE; rw [AU0 (by omega), AU0 (by omega), AU0 (by omega), AU0 (by omega)]
theorem Au4 {a b : List UInt8} {i j : Nat} (h : i = a.length + j) : wLE (a ++ b) i = wLE b j := by
 unfold wLE; rw [AU9 (by omega), AU9 (by omega), AU9 (by omega), AU9 (by omega), show i - a.length = j by omega, show i + 1 - a.length = j + 1 by omega, show i + 2 - a.length = j + 2 by omega, show i + 3 - a.length = j + 3 by omega]
theorem Av0 {t : List UInt8} {i : Nat} : wLE (t.drop i) 0 = wLE t i := by
 have : ∀ j, bt (t.drop i) j = bt t (i + j) := fun j => by unfold bt; rw [List.getD_eq_getElem?_getD, List.getD_eq_getElem?_getD, List.getElem?_drop]
 unfold wLE
 rw [this, this, this, this]
 simp only [Nat.add_zero, Nat.zero_add]
theorem An5 {a b n : Nat} (h : a < 2 ^ n) : a ||| b * 2 ^ n = a + b * 2 ^ n := by
 rw [Nat.or_comm, Nat.mul_comm b, ← Nat.two_pow_add_eq_or_of_lt h, Nat.add_comm]
theorem BP4 (v : Nat) (hv : v < 4294967296) : wLE (ub (lit v 4)) 0 = v := by
 have e : ub (lit v 4) = [UInt8.ofNat (v / 2 ^ 0 % 256), UInt8.ofNat (v / 2 ^ 8 % 256), UInt8.ofNat (v / 2 ^ 16 % 256), UInt8.ofNat (v / 2 ^ 24 % 256)] := rfl
 have b : ∀ n : Nat, (UInt8.ofNat (n % 256)).toNat = n % 256 := fun n => by
  rw [UInt8.toNat_ofNat']; exact Nat.mod_mod _ _
 rw [e]
 unfold wLE bt
 show (UInt8.ofNat (v / 2 ^ 0 % 256)).toNat ||| (UInt8.ofNat (v / 2 ^ 8 % 256)).toNat * 2 ^ 8 ||| (UInt8.ofNat (v / 2 ^ 16 % 256)).toNat * 2 ^ 16 ||| (UInt8.ofNat (v / 2 ^ 24 % 256)).toNat * 2 ^ 24 = v
 rw [b, b, b, b, An5 (n := 8) (by omega), An5 (n := 16) (by omega), An5 (n := 24) (by omega)]
 omega
theorem Bb0 (key nonce : List UInt8) (count : Nat) (hc : count < 4294967296) : Wd 16 (chI key nonce count) := ⟨rfl, fun x hx => by
 unfold chI at hx
 simp only [List.mem_cons, List.not_mem_nil, or_false] at hx
 rcases hx with rfl | rfl | rfl | rfl | rfl | rfl | rfl | rfl | rfl | rfl | rfl | rfl | rfl | rfl | rfl | rfl <;> first | exact BG5 _ _ | exact hc⟩
theorem BQ6 (key nonce : List UInt8) (count : Int) (y : List Nat) :
  uE R L key nonce count (cl y) 0 = wK R L key nonce count (cl (wE (fun i y => y.set i (wLE exC (4 * i))) 4 0 y)) 0 :=
 (yI (fun (y : List Nat) i => uE R L key nonce count (cl y) i) (fun i y => y.set i (wLE exC (4 * i))) (fun _ _ => True) 4 (fun y => wK R L key nonce count (cl y) 0)
  (fun y _ => by
   have hq : uE R L key nonce count (cl y) (4 : Nat) = _ := round (by kernel_rfl) (AI3 R L key nonce count (cl y) (4 : Nat))
   show uE R L key nonce count (cl y) (4 : Nat) = _
   rw [hq]; rfl)
  (fun y i hi _ => by
   have hq : uE R L key nonce count (cl y) (i : Nat) = _ := round (by kernel_rfl) (AI3 R L key nonce count (cl y) (i : Nat))
   refine ⟨?_, trivial⟩
   show uE R L key nonce count (cl y) (i : Nat) = _
   have e4 : IntKind.wrap .i64 ((4 : Int) * (i : Int)) = ((4 * i : Nat) : Int) := by rw [zO (by omega) (by omega)]; omega
   rw [hq, show decide ((i : Int) < 4) = true from decide_eq_true (by omega), e4, show mV R [101, 120, 112, 97, 110, 100, 32, 51, 50, 45, 98, 121, 116, 101, 32, 107] ((4 * i : Nat) : Int) = some (((wLE exC (4 * i) : Nat) : Int), ()) from A3K exC (4 * i) (by show 4 * i + 3 < 16; omega) (by omega), zB (by omega)]
   simp only [nn, tn, cond_true, Option.bind_some]
   rw [yP (show i < 16 by omega), uS]
   rfl)
  y trivial).1
theorem BQ2 (key nonce : List UInt8) (hk : key.length = 32) (count : Nat) (y : List Nat) :
  wK R L key nonce (count : Int) (cl y) 0 = wL R L nonce (cl ((wE (fun i y => y.set (4 + i) (wLE key (4 * i))) 8 0 y).set 12 count)) 0 :=
 (yI (fun (y : List Nat) i => wK R L key nonce (count : Int) (cl y) i) (fun i y => y.set (4 + i) (wLE key (4 * i))) (fun _ _ => True) 8 (fun y => wL R L nonce (cl (y.set 12 count)) 0)
  (fun y _ => by
   have hq : wK R L key nonce (count : Int) (cl y) (8 : Nat) = _ := round (by kernel_rfl) (AJ5 R L key nonce (count : Int) (cl y) (8 : Nat))
   show wK R L key nonce (count : Int) (cl y) (8 : Nat) = _
   rw [hq, uS]; rfl)
  (fun y i hi _ => by
   have hq : wK R L key nonce (count : Int) (cl y) (i : Nat) = _ := round (by kernel_rfl) (AJ5 R L key nonce (count : Int) (cl y) (i : Nat))
   refine ⟨?_, trivial⟩
   show wK R L key nonce (count : Int) (cl y) (i : Nat) = _
   have e4 : IntKind.wrap .i64 ((4 : Int) * (i : Int)) = ((4 * i : Nat) : Int) := by rw [zO (by omega) (by omega)]; omega
   have e5 : IntKind.wrap .i64 ((4 : Int) + (i : Int)) = ((4 + i : Nat) : Int) := by rw [zO (by omega) (by omega)]; omega
   rw [hq, show decide ((i : Int) < 8) = true from decide_eq_true (by omega), e4, e5, A3K key (4 * i) (by omega) (by omega), zB (by omega)]
   simp only [nn, tn, cond_true, Option.bind_some]
   rw [yP (show 4 + i < 16 by omega), uS]
   rfl)
  y trivial).1
theorem BO5 (nonce : List UInt8) (hk : nonce.length = 12) (y : List Nat) :
  wL R L nonce (cl y) 0 = yX R L (cl (wE (fun i y => y.set (13 + i) (wLE nonce (4 * i))) 3 0 y)) (cl (wE (fun i y => y.set (13 + i) (wLE nonce (4 * i))) 3 0 y)) 0 :=
 (yI (fun (y : List Nat) i => wL R L nonce (cl y) i) (fun i y => y.set (13 + i) (wLE nonce (4 * i))) (fun _ _ => True) 3 (fun y => yX R L (cl y) (cl y) 0)
  (fun y _ => by
   have hq : wL R L nonce (cl y) (3 : Nat) = _ := round (by kernel_rfl) (AI0 R L nonce (cl y) (3 : Nat))
   show wL R L nonce (cl y) (3 : Nat) = _
   rw [hq]; rfl)
  (fun y i hi _ => by
   have hq : wL R L nonce (cl y) (i : Nat) = _ := round (by kernel_rfl) (AI0 R L nonce (cl y) (i : Nat))
   refine ⟨?_, trivial⟩
   show wL R L nonce (cl y) (i : Nat) = _
   have e4 : IntKind.wrap .i64 ((4 : Int) * (i : Int)) = ((4 * i : Nat) : Int) := by rw [zO (by omega) (by omega)]; omega
   have e5 : IntKind.wrap .i64 ((13 : Int) + (i : Int)) = ((13 + i : Nat) : Int) := by rw [zO (by omega) (by omega)]; omega
   rw [hq, show decide ((i : Int) < 3) = true from decide_eq_true (by omega), e4, e5, A3K nonce (4 * i) (by omega) (by omega), zB (by omega)]
   simp only [nn, tn, cond_true, Option.bind_some]
   rw [yP (show 13 + i < 16 by omega), uS]
   rfl)
  y trivial).1
theorem Bb6 (key nonce : List UInt8) (hk : key.length = 32) (hn : nonce.length = 12) (count : Nat) :
  qG R key nonce (count : Int) = yX R L (cl (chI key nonce count)) (cl (chI key nonce count)) 0 := by
 have hq : qG R key nonce (count : Int) = _ := call (A1k R L key nonce (count : Int))
 refine hq.trans ((BQ6 key nonce (count : Int) (List.replicate 16 0)).trans ((BQ2 key nonce hk count _).trans ((BO5 nonce hn _).trans ?_)))
 rfl
theorem BT5 {k : Nat} {y : List Nat} (h : Wd 16 y) : Wd 16 (rk k y) := BS0 (BS0 (BS0 (BS0 h)))
theorem A9m (v7 : List Int) (y : List Nat) (hy : Wd 16 y) (v12 : Int) :
  uF R L v7 (cl y) v12 0 = wJ R L v7 (cl (rk 0 y)) v12 0 :=
 (yI (fun (y : List Nat) i => uF R L v7 (cl y) v12 i) (fun i y => qs i (4 + (i + 0) % 4) (8 + (i + 2 * 0) % 4) (12 + (i + 3 * 0) % 4) y) (fun _ y => Wd 16 y) 4 (fun y => wJ R L v7 (cl y) v12 0)
  (fun y _ => by
   have hq : uF R L v7 (cl y) v12 (4 : Nat) = _ := round (by kernel_rfl) (AJ1 R L v7 (cl y) v12 (4 : Nat))
   show uF R L v7 (cl y) v12 (4 : Nat) = _
   rw [hq]; rfl)
  (fun y i hi hy => by
   have hq : uF R L v7 (cl y) v12 (i : Nat) = _ := round (by kernel_rfl) (AJ1 R L v7 (cl y) v12 (i : Nat))
   refine ⟨?_, BS0 hy⟩
   show uF R L v7 (cl y) v12 (i : Nat) = _
   have e4 : IntKind.wrap .i64 ((4 : Int) + (i : Int)) = ((4 + (i + 0) % 4 : Nat) : Int) := by rw [zO (by omega) (by omega)]; omega
   have e8 : IntKind.wrap .i64 ((8 : Int) + (i : Int)) = ((8 + (i + 2 * 0) % 4 : Nat) : Int) := by rw [zO (by omega) (by omega)]; omega
   have e12 : IntKind.wrap .i64 ((12 : Int) + (i : Int)) = ((12 + (i + 3 * 0) % 4 : Nat) : Int) := by rw [zO (by omega) (by omega)]; omega
   rw [hq, show decide ((i : Int) < 4) = true from decide_eq_true (by omega), e4, e8, e12, A7g y hy _ _ _ _ (by omega) (by omega) (by omega) (by omega), zB (by omega)]
   rfl)
  y hy).1
theorem tm4 (a : Nat) : Int.tmod (a : Int) 4 = ((a % 4 : Nat) : Int) := A6w a 4
theorem BA4 (v7 : List Int) (y : List Nat) (hy : Wd 16 y) (v12 : Int) :
  wJ R L v7 (cl y) v12 0 = yX R L v7 (cl (rk 1 y)) (IntKind.wrap .i64 (v12 + 1)) :=
 (yI (fun (y : List Nat) i => wJ R L v7 (cl y) v12 i) (fun i y => qs i (4 + (i + 1) % 4) (8 + (i + 2 * 1) % 4) (12 + (i + 3 * 1) % 4) y) (fun _ y => Wd 16 y) 4 (fun y => yX R L v7 (cl y) (IntKind.wrap .i64 (v12 + 1)))
  (fun y _ => by
   have hq : wJ R L v7 (cl y) v12 (4 : Nat) = _ := round (by kernel_rfl) (AJ7 R L v7 (cl y) v12 (4 : Nat))
   show wJ R L v7 (cl y) v12 (4 : Nat) = _
   rw [hq]; rfl)
  (fun y i hi hy => by
   have hq : wJ R L v7 (cl y) v12 (i : Nat) = _ := round (by kernel_rfl) (AJ7 R L v7 (cl y) v12 (i : Nat))
   refine ⟨?_, BS0 hy⟩
   show wJ R L v7 (cl y) v12 (i : Nat) = _
   have f1 : IntKind.wrap .i64 ((i : Int) + 1) = ((i + 1 : Nat) : Int) := zB (by omega)
   have f2 : IntKind.wrap .i64 ((i : Int) + 2) = ((i + 2 * 1 : Nat) : Int) := Ai4 2 (by omega)
   have f3 : IntKind.wrap .i64 ((i : Int) + 3) = ((i + 3 * 1 : Nat) : Int) := Ai4 3 (by omega)
   have e4 : IntKind.wrap .i64 ((4 : Int) + (((i + 1) % 4 : Nat) : Int)) = ((4 + (i + 1) % 4 : Nat) : Int) := by rw [zO (by omega) (by omega)]; omega
   have e8 : IntKind.wrap .i64 ((8 : Int) + (((i + 2 * 1) % 4 : Nat) : Int)) = ((8 + (i + 2 * 1) % 4 : Nat) : Int) := by rw [zO (by omega) (by omega)]; omega
   have e12 : IntKind.wrap .i64 ((12 : Int) + (((i + 3 * 1) % 4 : Nat) : Int)) = ((12 + (i + 3 * 1) % 4 : Nat) : Int) := by rw [zO (by omega) (by omega)]; omega
   rw [hq, show decide ((i : Int) < 4) = true from decide_eq_true (by omega), f1, f2, f3, tm4, tm4, tm4, e4, e8, e12, A7g y hy _ _ _ _ (by omega) (by omega) (by omega) (by omega)]
   rfl)
  y hy).1
theorem A2b (v7 : List Int) (y : List Nat) (hy : Wd 16 y) :
  yX R L v7 (cl y) 0 = wG R L v7 (cl (r10 y)) (cl []) 0 ∧ Wd 16 (r10 y) :=
 yI (fun (y : List Nat) i => yX R L v7 (cl y) i) (fun _ y => rk 1 (rk 0 y)) (fun _ y => Wd 16 y) 10 (fun y => wG R L v7 (cl y) (cl []) 0)
  (fun y _ => by
   have hq : yX R L v7 (cl y) (10 : Nat) = _ := round (by kernel_rfl) (AH9 R L v7 (cl y) (10 : Nat))
   show yX R L v7 (cl y) (10 : Nat) = _
   rw [hq]; rfl)
  (fun y i hi hy => by
   have hq : yX R L v7 (cl y) (i : Nat) = _ := round (by kernel_rfl) (AH9 R L v7 (cl y) (i : Nat))
   refine ⟨?_, BT5 (BT5 hy)⟩
   show yX R L v7 (cl y) (i : Nat) = _
   rw [hq, show decide ((i : Int) < 10) = true from decide_eq_true (by omega)]
   simp only [cond_true]
   rw [A9m v7 y hy, BA4 v7 _ (BT5 hy), zB (by omega)])
  y hy
end Go.Rf.S

end
section
namespace Go.Rf.S
set_option maxRecDepth 100000
theorem A9C (v8 : List Int) (k : Nat) (hk : k < 2) (v41 : Int) (y : List Nat) (hy : Wd 16 y) :
  tX R L v8 (cl y) (k : Int) v41 (k : Int) 0 = nH R L v8 (cl (rk k y)) v41 ((k + 1 : Nat) : Int) :=
 (yI (fun (y : List Nat) i => tX R L v8 (cl y) (k : Int) v41 (k : Int) i) (fun i y => qs i (4 + (i + k) % 4) (8 + (i + 2 * k) % 4) (12 + (i + 3 * k) % 4) y) (fun _ y => Wd 16 y) 4 (fun y => nH R L v8 (cl y) v41 ((k + 1 : Nat) : Int))
  (fun y _ => by
   have hq : tX R L v8 (cl y) (k : Int) v41 (k : Int) (4 : Nat) = _ := round (by kernel_rfl) (AW6 R L v8 (cl y) (k : Int) v41 (k : Int) (4 : Nat))
   show tX R L v8 (cl y) (k : Int) v41 (k : Int) (4 : Nat) = _
   rw [hq, show decide (((4 : Nat) : Int) < 4) = false from by decide]
   simp only [cond_false]
   rw [zB (i := k) (by omega)])
  (fun y i hi hy => by
   have hq : tX R L v8 (cl y) (k : Int) v41 (k : Int) (i : Nat) = _ := round (by kernel_rfl) (AW6 R L v8 (cl y) (k : Int) v41 (k : Int) (i : Nat))
   refine ⟨?_, BS0 hy⟩
   show tX R L v8 (cl y) (k : Int) v41 (k : Int) (i : Nat) = _
   have f1 : IntKind.wrap .i64 ((i : Int) + (k : Int)) = ((i + k : Nat) : Int) := Ak1 (by simp only [tL]; omega)
   have g2 : IntKind.wrap .i64 ((2 : Int) * (k : Int)) = ((2 * k : Nat) : Int) := by rw [zO (by omega) (by omega)]; omega
   have g3 : IntKind.wrap .i64 ((3 : Int) * (k : Int)) = ((3 * k : Nat) : Int) := by rw [zO (by omega) (by omega)]; omega
   have f2 : IntKind.wrap .i64 ((i : Int) + ((2 * k : Nat) : Int)) = ((i + 2 * k : Nat) : Int) := Ak1 (by simp only [tL]; omega)
   have f3 : IntKind.wrap .i64 ((i : Int) + ((3 * k : Nat) : Int)) = ((i + 3 * k : Nat) : Int) := Ak1 (by simp only [tL]; omega)
   have e4 : IntKind.wrap .i64 ((4 : Int) + (((i + k) % 4 : Nat) : Int)) = ((4 + (i + k) % 4 : Nat) : Int) := by rw [zO (by omega) (by omega)]; omega
   have e8 : IntKind.wrap .i64 ((8 : Int) + (((i + 2 * k) % 4 : Nat) : Int)) = ((8 + (i + 2 * k) % 4 : Nat) : Int) := by rw [zO (by omega) (by omega)]; omega
   have e12 : IntKind.wrap .i64 ((12 : Int) + (((i + 3 * k) % 4 : Nat) : Int)) = ((12 + (i + 3 * k) % 4 : Nat) : Int) := by rw [zO (by omega) (by omega)]; omega
   rw [hq, show decide ((i : Int) < 4) = true from decide_eq_true (by omega), g2, g3, f1, f2, f3, tm4, tm4, tm4, e4, e8, e12, zB (by omega)]
   simp only [nn, tn, cond_true, yP (show i < 16 by omega), yP (show 4 + (i + k) % 4 < 16 by omega), yP (show 8 + (i + 2 * k) % 4 < 16 by omega), yP (show 12 + (i + 3 * k) % 4 < 16 by omega), yA]
   rw [A8Q _ _ _ _ (hy.g _) (hy.g _) (hy.g _) (hy.g _)]
   simp only [Option.bind_some, uS]
   rfl)
  y hy).1
theorem A35 (v8 : List Int) (y : List Nat) (hy : Wd 16 y) :
  uK R L v8 (cl y) 0 = uC R L v8 (cl (r10 y)) [] 0 ∧ Wd 16 (r10 y) :=
 yI (fun (y : List Nat) i => uK R L v8 (cl y) i) (fun _ y => rk 1 (rk 0 y)) (fun _ y => Wd 16 y) 10 (fun y => uC R L v8 (cl y) [] 0)
  (fun y _ => by
   have hq : uK R L v8 (cl y) (10 : Nat) = _ := round (by kernel_rfl) (AZ0 R L v8 (cl y) (10 : Nat))
   show uK R L v8 (cl y) (10 : Nat) = _
   rw [hq]; rfl)
  (fun y i hi hy => by
   have hq : uK R L v8 (cl y) (i : Nat) = _ := round (by kernel_rfl) (AZ0 R L v8 (cl y) (i : Nat))
   refine ⟨?_, BT5 (BT5 hy)⟩
   show uK R L v8 (cl y) (i : Nat) = _
   have q2 : ∀ (y : List Int) (v : Int) (w : Int), nH R L v8 y v w = _ := fun y v w => round (by kernel_rfl) (A1j R L v8 y v w)
   have e0 := A9C v8 0 (by decide) (i : Int) y hy
   have e1 := A9C v8 1 (by decide) (i : Int) _ (BT5 (k := 0) hy)
   rw [hq, show decide ((i : Int) < 10) = true from decide_eq_true (by omega)]
   simp only [cond_true]
   rw [q2, show decide ((0 : Int) < 2) = true from by decide]
   simp only [cond_true]
   refine Eq.trans e0 ?_
   rw [q2, show decide (((0 + 1 : Nat) : Int) < 2) = true from by decide]
   simp only [cond_true]
   refine Eq.trans e1 ?_
   rw [q2, show decide (((1 + 1 : Nat) : Int) < 2) = false from by decide, zB (by omega)]
   rfl)
  y hy
theorem A6k (x y : List Nat) (hx : Wd 16 x) (hy : Wd 16 y) :
  uC R L (cl x) (cl y) (ub []) 0 = some (ub (wE (stF x y) 16 0 []), ()) ∧ (wE (stF x y) 16 0 []).length = 4 * 16 :=
 yI (fun (o : List Nat) i => uC R L (cl x) (cl y) (ub o) i) (stF x y) (fun i o => o.length = 4 * i) 16 (fun o => some (ub o, ()))
  (fun o _ => by
   have hq : uC R L (cl x) (cl y) (ub o) (16 : Nat) = _ := round (by kernel_rfl) (AY8 R L (cl x) (cl y) (ub o) (16 : Nat))
   show uC R L (cl x) (cl y) (ub o) (16 : Nat) = _
   rw [hq]; rfl)
  (fun o i hi ho => by
   have hq : uC R L (cl x) (cl y) (ub o) (i : Nat) = _ := round (by kernel_rfl) (AY8 R L (cl x) (cl y) (ub o) (i : Nat))
   have hl := jP ((y.getD i 0 + x.getD i 0) % 4294967296) 4 (by decide)
   refine ⟨?_, by unfold stF; rw [List.length_append, ho, hl]; omega⟩
   show uC R L (cl x) (cl y) (ub o) (i : Nat) = _
   have hul : ∀ l : List Nat, (ub l).length = l.length := fun l => List.length_map _
   rw [hq, show decide ((i : Int) < 16) = true from decide_eq_true (by omega), zB (by omega)]
   simp only [nn, tn, cond_true, yP (show i < 16 from hi), yA, BE2]
   rw [sI (Nat.lt_trans (wO _) (by decide)), show wY R _ 4 = _ from aG ((y.getD i 0 + x.getD i 0) % 4294967296) 4 (by decide)]
   simp only [Option.bind_some]
   rw [hul, hul, hl, uB (by omega)]
   simp only [cond_true]
   unfold stF ub
   rw [List.map_append])
  [] rfl
theorem A6M (V : List UInt8) (hV : V.length = 64) (y0 : List Nat) (hy : y0.length = 16) :
  tA R L V (cl y0) (cl y0) 0 = uK R L (cl (wE (fun i y => y.set i (wLE V (4 * i))) 16 0 y0)) (cl (wE (fun i y => y.set i (wLE V (4 * i))) 16 0 y0)) 0 :=
 (yI (fun (y : List Nat) i => tA R L V (cl y) (cl y) i) (fun i y => y.set i (wLE V (4 * i))) (fun _ y => y.length = 16) 16 (fun y => uK R L (cl y) (cl y) 0)
  (fun y _ => by
   have hq : tA R L V (cl y) (cl y) (16 : Nat) = _ := round (by kernel_rfl) (AZ7 R L V (cl y) (cl y) (16 : Nat))
   show tA R L V (cl y) (cl y) (16 : Nat) = _
   rw [hq]; rfl)
  (fun y i hi hy => by
   have hq : tA R L V (cl y) (cl y) (i : Nat) = _ := round (by kernel_rfl) (AZ7 R L V (cl y) (cl y) (i : Nat))
   refine ⟨?_, by rw [List.length_set]; exact hy⟩
   show tA R L V (cl y) (cl y) (i : Nat) = _
   have e4 : IntKind.wrap .i64 ((4 : Int) * (i : Int)) = ((4 * i : Nat) : Int) := by rw [zO (by omega) (by omega)]; omega
   have hs : (y.set i (wLE V (4 * i))).getD i 0 = wLE V (4 * i) := by
    rw [List.getD_eq_getElem?_getD, List.getElem?_set, if_pos rfl, if_pos (by omega)]; rfl
   rw [hq, show decide ((i : Int) < 16) = true from decide_eq_true (by omega), e4, zB (by omega)]
   simp only [nn, tn, cond_true]
   rw [A5S (Nat.le_refl _), A5S (show 4 * i ≤ V.length by omega), List.take_length, AX7 _ (by rw [List.length_drop]; omega), Av0]
   simp only [cond_true, Option.bind_some]
   rw [yP (show i < 16 from hi), uS, yA, hs, uS]
   rfl)
  y0 hy).1
theorem BA9 (key nonce : List UInt8) (hk : key.length = 32) (hn : nonce.length = 12) (count : Nat) (hc : count < 4294967296) :
  wE (fun i y => y.set i (wLE (((exC ++ key) ++ ub (lit count 4)) ++ nonce) (4 * i))) 16 0 (List.replicate 16 0) = chI key nonce count := by
 have hl : (ub (lit count 4)).length = 4 := by unfold ub; rw [List.length_map, jP _ _ (by decide)]
 have he : exC.length = 16 := rfl
 have h1 : (exC ++ key).length = 48 := by rw [List.length_append]; omega
 have h2 : ((exC ++ key) ++ ub (lit count 4)).length = 52 := by rw [List.length_append]; omega
 show [wLE _ 0, wLE _ 4, wLE _ 8, wLE _ 12, wLE _ 16, wLE _ 20, wLE _ 24, wLE _ 28, wLE _ 32, wLE _ 36, wLE _ 40, wLE _ 44, wLE _ 48, wLE _ 52, wLE _ 56, wLE _ 60] = _
 have a0 : ∀ i, i + 3 < 16 → wLE (((exC ++ key) ++ ub (lit count 4)) ++ nonce) i = wLE exC i := fun i hi => by
  rw [AG9 (by omega), AG9 (by omega), AG9 (by omega)]
 have a1 : ∀ j, j + 3 < 32 → wLE (((exC ++ key) ++ ub (lit count 4)) ++ nonce) (16 + j) = wLE key j := fun j hj => by
  rw [AG9 (by omega), AG9 (by omega), Au4 (j := j) (by omega)]
 have a2 : wLE (((exC ++ key) ++ ub (lit count 4)) ++ nonce) 48 = count := by
  rw [AG9 (by omega), Au4 (j := 0) (by omega), BP4 _ hc]
 have a3 : ∀ j, wLE (((exC ++ key) ++ ub (lit count 4)) ++ nonce) (52 + j) = wLE nonce j := fun j => by
  rw [Au4 (j := j) (by omega)]
 rw [a0 0 (by decide), a0 4 (by decide), a0 8 (by decide), a0 12 (by decide), a1 0 (by decide), a1 4 (by decide), a1 8 (by decide), a1 12 (by decide), a1 16 (by decide), a1 20 (by decide), a1 24 (by decide), a1 28 (by decide), a2, a3 0, a3 4, a3 8]
 rfl
theorem Aw8 (key nonce : List UInt8) (hk : key.length = 32) (hn : nonce.length = 12) (count : Nat) (hc : count < 4294967296) :
  cL R key nonce (count : Int) = some (ub (chO (chI key nonce count)), ()) ∧ (ub (chO (chI key nonce count))).length = 64 := by
 have hq : cL R key nonce (count : Int) = _ := call (A6g R L key nonce (count : Int))
 have hl : (ub (lit count 4)).length = 4 := by unfold ub; rw [List.length_map, jP _ _ (by decide)]
 have he : exC.length = 16 := rfl
 have h1 : (exC ++ key).length = 48 := by rw [List.length_append]; omega
 have h2 : ((exC ++ key) ++ ub (lit count 4)).length = 52 := by rw [List.length_append]; omega
 have hW := Bb0 key nonce count hc
 obtain ⟨r1, r2⟩ := A35 (cl (chI key nonce count)) _ hW
 obtain ⟨b1, b2⟩ := A6k _ _ hW r2
 refine ⟨?_, by unfold ub; rw [List.length_map]; exact b2⟩
 rw [hq, show wY R (count : Int) 4 = _ from aG count 4 (by decide)]
 show cond (yB (exC.length + key.length)) (cond (yB ((exC ++ key).length + (ub (lit count 4)).length)) (cond (yB (((exC ++ key) ++ ub (lit count 4)).length + nonce.length)) (tA R L (((exC ++ key) ++ ub (lit count 4)) ++ nonce) (cl (List.replicate 16 0)) (cl (List.replicate 16 0)) 0) none) none) none = _
 rw [uB (by omega), uB (by omega), uB (by omega)]
 simp only [cond_true]
 rw [A6M _ (by rw [List.length_append]; omega) _ rfl, BA9 key nonce hk hn count hc, r1]
 exact b1
end Go.Rf.S

end
section
namespace Go.Rf.S
set_option maxRecDepth 100000
theorem A78 (o : List Nat) (ho : o.length ≤ 1048576) (w : Nat) : iR R (cl o) (w : Int) = some (cl (o ++ lit w 4), ()) := by
 have hq : iR R (cl o) (w : Int) = _ := call (A2N R L (cl o) (w : Int))
 have m24 : Min.min (Int.toNat 24) (IntKind.bits .i64) = 24 := rfl
 have m16 : Min.min (Int.toNat 16) (IntKind.bits .i64) = 16 := rfl
 have m8 : Min.min (Int.toNat 8) (IntKind.bits .i64) = 8 := rfl
 rw [hq, m24, m16, m8, kP, kP, kP, tS, tS, tS, tS, uB (by rw [mF]; simp only [List.length_cons, List.length_nil]; omega)]
 simp only [cond_true]
 rw [show [((w % 256 : Nat) : Int), ((w / 2 ^ 8 % 256 : Nat) : Int), ((w / 2 ^ 16 % 256 : Nat) : Int), ((w / 2 ^ 24 % 256 : Nat) : Int)] = cl [w % 256, w / 2 ^ 8 % 256, w / 2 ^ 16 % 256, w / 2 ^ 24 % 256] from rfl, AO1]
 have : lit w 4 = [w / 2 ^ 0 % 256, w / 2 ^ 8 % 256, w / 2 ^ 16 % 256, w / 2 ^ 24 % 256] := rfl
 rw [this, Nat.pow_zero, Nat.div_one]
theorem A3a (x y : List Nat) (hx : Wd 16 x) (hy : Wd 16 y) :
  wG R L (cl x) (cl y) (cl []) 0 = some (ub (wE (stF x y) 16 0 []), ()) ∧ (wE (stF x y) 16 0 []).length = 4 * 16 :=
 yI (fun (o : List Nat) i => wG R L (cl x) (cl y) (cl o) i) (stF x y) (fun i o => o.length = 4 * i) 16 (fun o => some (ub o, ()))
  (fun o _ => by
   have hq : wG R L (cl x) (cl y) (cl o) (16 : Nat) = _ := round (by kernel_rfl) (AJ4 R L (cl x) (cl y) (cl o) (16 : Nat))
   show wG R L (cl x) (cl y) (cl o) (16 : Nat) = _
   rw [hq, show decide (((16 : Nat) : Int) < 16) = false from by decide, Aa5]; rfl)
  (fun o i hi ho => by
   have hq : wG R L (cl x) (cl y) (cl o) (i : Nat) = _ := round (by kernel_rfl) (AJ4 R L (cl x) (cl y) (cl o) (i : Nat))
   have hl := jP ((y.getD i 0 + x.getD i 0) % 4294967296) 4 (by decide)
   have ay := hy.g i; have ax := hx.g i
   refine ⟨?_, by unfold stF; rw [List.length_append, ho, hl]; omega⟩
   show wG R L (cl x) (cl y) (cl o) (i : Nat) = _
   rw [hq, show decide ((i : Int) < 16) = true from decide_eq_true (by omega), zB (by omega)]
   simp only [nn, tn, cond_true, yP (show i < 16 from hi), yA]
   rw [Ak1 (by simp only [tL]; omega), m32 (by omega), A78 o (by omega)]
   rfl)
  [] rfl
theorem Ar5 (key nonce : List UInt8) (hk : key.length = 32) (hn : nonce.length = 12) (count : Nat) (hc : count < 4294967296) :
  qG R key nonce (count : Int) = some (ub (chO (chI key nonce count)), ()) := by
 have hW := Bb0 key nonce count hc
 obtain ⟨r1, r2⟩ := A2b (cl (chI key nonce count)) _ hW
 rw [Bb6 key nonce hk hn count, r1]
 exact (A3a _ _ hW r2).1
end Go.Rf.S

end
section
namespace Go.Rf.S
set_option maxRecDepth 100000
def bn (t : List UInt8) : List Nat := List.map UInt8.toNat t
theorem Bg7 (t : List UInt8) : List.map (fun b : UInt8 => ((b.toNat : Nat) : Int)) t = cl (bn t) := by
 unfold cl bn; rw [List.map_map]; rfl
theorem BI2 (t : List UInt8) : (bn t).length = t.length := List.length_map _
theorem BK5 (t : List UInt8) (i : Nat) : (bn t).getD i 0 = bt t i := by
 unfold bn bt
 rw [List.getD_eq_getElem?_getD, List.getD_eq_getElem?_getD, List.getElem?_map]
 cases t[i]? <;> rfl
theorem A7L {a b : List UInt8} (hl : a.length = b.length) (h : ∀ i, i < a.length → bt a i = bt b i) : a = b := by
 apply List.ext_getElem hl
 intro i h1 h2
 have := h i h1
 unfold bt at this
 rw [List.getD_eq_getElem?_getD, List.getD_eq_getElem?_getD, List.getElem?_eq_getElem h1, List.getElem?_eq_getElem h2] at this
 exact UInt8.toNat_inj.1 this
theorem Ba6 {l : List Nat} {i : Nat} (h : l.getD i 0 < 256) : bt (ub l) i = l.getD i 0 := by
 unfold bt ub
 rw [List.getD_eq_getElem?_getD, List.getD_eq_getElem?_getD, List.getElem?_map]
 rw [List.getD_eq_getElem?_getD] at h
 cases e : l[i]? with
 | none => rfl
 | some x =>
  rw [e] at h
  have h : x < 256 := h
  show (UInt8.ofNat x).toNat = x
  rw [UInt8.toNat_ofNat']
  exact Nat.mod_eq_of_lt h
theorem AG2 : ∀ (a b : List UInt8), a.length ≤ b.length → (Am8 a b).length = a.length
 | [], _, _ => rfl
 | x :: a, [], h => by simp at h
 | x :: a, y :: b, h => by
  show (Am8 a b).length + 1 = _
  rw [AG2 a b (by simpa using h)]; rfl
theorem AB1 (x : UInt8) (a : List UInt8) (i : Nat) : bt (x :: a) (i + 1) = bt a i := rfl
theorem Au5 : ∀ (a b : List UInt8) (i : Nat), i < a.length → a.length ≤ b.length → bt (Am8 a b) i = bt a i ^^^ bt b i
 | [], _, _, h, _ => by simp at h
 | x :: a, [], _, _, h => by simp at h
 | x :: a, y :: b, 0, _, h => by
  show (x ^^^ y).toNat = _
  exact UInt8.toNat_xor x y
 | x :: a, y :: b, i + 1, hi, h => by
  show bt ((x ^^^ y) :: Am8 a b) (i + 1) = _
  rw [AB1, AB1, AB1]
  exact Au5 a b i (by simpa using hi) (by simpa using h)
def stX (b : List UInt8) (i : Nat) (y : List Nat) : List Nat := y.set i (y.getD i 0 ^^^ bt b i)
theorem BH4 {a b : Nat} (ha : a < 256) (hb : b < 256) : a ^^^ b < 256 := Nat.xor_lt_two_pow (n := 8) ha hb
theorem Bg1 (a b : List UInt8) (h : a.length ≤ b.length) (hb : b.length ≤ 4294967296) : A34 R a b = some (Am8 a b, ()) := by
 have hq : A34 R a b = _ := call (BJ6 R L a b)
 have hlp := yI (fun (y : List Nat) i => mY R L b (cl y) (a.length : Int) i) (stX b)
  (fun i y => y.length = a.length ∧ ∀ j, y.getD j 0 = if j < i then bt a j ^^^ bt b j else bt a j) a.length (fun y => some (ub y, ()))
  (fun y _ => by
   have hq : mY R L b (cl y) (a.length : Int) (a.length : Nat) = _ := round (by kernel_rfl) (A0W R L b (cl y) (a.length : Int) (a.length : Nat))
   show mY R L b (cl y) (a.length : Int) (a.length : Nat) = _
   rw [hq, decide_eq_false (show ¬ ((a.length : Int) < (a.length : Int)) by omega), Aa5]; rfl)
  (fun y i hi hy => by
   obtain ⟨h1, h2⟩ := hy
   have hq : mY R L b (cl y) (a.length : Int) (i : Nat) = _ := round (by kernel_rfl) (A0W R L b (cl y) (a.length : Int) (i : Nat))
   have hyi := h2 i
   rw [if_neg (Nat.lt_irrefl i)] at hyi
   refine ⟨?_, by unfold stX; rw [List.length_set]; exact h1, fun j => ?_⟩
   ·show mY R L b (cl y) (a.length : Int) (i : Nat) = _
    rw [hq, decide_eq_true (show (i : Int) < (a.length : Int) by omega), zB (by omega)]
    simp only [nn, tn, cond_true, mF, h1, yP hi, yP (show i < b.length by omega), yA]
    have e : xF .xor .u8 ((y.getD i 0 : Nat) : Int) (((b.getD i 0).toNat : Nat) : Int) = ((y.getD i 0 ^^^ bt b i : Nat) : Int) := A3M (k := .u8) (by rw [hyi]; exact sT a i) (sT b i)
    rw [e, uS]
    rfl
   ·unfold stX
    by_cases hj : j = i
    ·subst hj
     rw [if_pos (Nat.lt_succ_self _), List.getD_eq_getElem?_getD, List.getElem?_set, if_pos rfl, if_pos (by omega), hyi]; rfl
    ·rw [List.getD_eq_getElem?_getD, List.getElem?_set, if_neg (fun e => hj e.symm), ← List.getD_eq_getElem?_getD, h2 j]
     by_cases hji : j < i
     ·rw [if_pos hji, if_pos (by omega)]
     ·rw [if_neg hji, if_neg (by omega)])
  (bn a) ⟨BI2 a, fun j => by rw [if_neg (by omega), BK5]⟩
 obtain ⟨e1, e2, e3⟩ := hlp
 rw [hq, Bg7, mF, BI2]
 refine Eq.trans e1 ?_
 refine congrArg (fun x => some (x, ())) ?_
 apply A7L
 ·unfold ub; rw [List.length_map, e2, AG2 a b h]
 ·intro i hi
  have hi' : i < a.length := by unfold ub at hi; rw [List.length_map, e2] at hi; exact hi
  have hv := e3 i
  rw [if_pos hi'] at hv
  rw [Ba6 (by rw [hv]; exact BH4 (sT _ _) (sT _ _)), hv, Au5 a b i hi' h]
theorem AB5 {key nonce : List UInt8} (hk : key.length = 32) (hn : nonce.length = 12) {count : Nat} (hc : count < 4294967296) : (chB key nonce count).length = 64 := by
 unfold chB; exact (Aw8 key nonce hk hn count hc).2
theorem Ac2 (key nonce : List UInt8) (hk : key.length = 32) (hn : nonce.length = 12) : ∀ (n count : Nat) (t : List UInt8), t.length ≤ 64 * n → count + n < 4294967296 →
  (chX key nonce n count t).length = t.length ∧ ∀ i, i < t.length → bt (chX key nonce n count t) i = bt t i ^^^ bt (chB key nonce (count + i / 64)) (i % 64)
 | 0, count, t, ht, _ => by
  have : t.length = 0 := by omega
  exact ⟨by rw [this]; rfl, fun i hi => by omega⟩
 | n + 1, count, t, ht, hc => by
  unfold chX
  by_cases h0 : t = []
  ·subst h0
   rw [if_pos rfl]
   exact ⟨rfl, fun i hi => by simp at hi⟩
  ·rw [if_neg h0]
   have hB : (chB key nonce count).length = 64 := AB5 hk hn (by omega)
   have hx : (Am8 (t.take 64) (chB key nonce count)).length = (t.take 64).length := AG2 _ _ (by rw [List.length_take]; omega)
   obtain ⟨r1, r2⟩ := Ac2 key nonce hk hn n (count + 1) (t.drop 64) (by rw [List.length_drop]; omega) (by omega)
   have htk : (t.take 64).length = min 64 t.length := List.length_take
   refine ⟨by rw [List.length_append, hx, r1, List.length_drop, htk]; omega, fun i hi => ?_⟩
   by_cases hi64 : i < 64
   ·rw [AU0 (by rw [hx, htk]; omega), Au5 _ _ _ (by rw [htk]; omega) (by rw [htk]; omega), show i / 64 = 0 by omega, show i % 64 = i by omega]
    have : bt (t.take 64) i = bt t i := by unfold bt; rw [cN t hi64]
    rw [this]; rfl
   ·rw [AU9 (by rw [hx, htk]; omega), hx, htk, show min 64 t.length = 64 by omega, r2 (i - 64) (by rw [List.length_drop]; omega)]
    have e1 : bt (t.drop 64) (i - 64) = bt t i := by unfold bt; rw [List.getD_eq_getElem?_getD, List.getD_eq_getElem?_getD, List.getElem?_drop, show 64 + (i - 64) = i by omega]
    rw [e1, show count + 1 + (i - 64) / 64 = count + i / 64 by omega, show (i - 64) % 64 = i % 64 by omega]
def B0 (key nonce : List UInt8) (count i : Nat) : List UInt8 := chB key nonce (count + i / 64)
def stQ (key nonce : List UInt8) (count : Nat) (t : List UInt8) (i : Nat) (s : List Nat × List UInt8) : List Nat × List UInt8 :=
 (s.1 ++ [bt t i ^^^ bt (if i % 64 = 0 then B0 key nonce count i else s.2) (i % 64)], if i % 64 = 0 then B0 key nonce count i else s.2)
theorem A0f (key nonce : List UInt8) (hk : key.length = 32) (hn : nonce.length = 12) (count : Nat) (t : List UInt8) (ht : t.length ≤ 1073741824) (hc : count ≤ 1024) :
  fA R key nonce (count : Int) t = some (chX key nonce (t.length / 64 + 1) count t, ()) := by
 have hq : fA R key nonce (count : Int) t = _ := call (A5c R L key nonce (count : Int) t)
 have hB : ∀ i, i ≤ t.length → (B0 key nonce count i).length = 64 := fun i hi => AB5 hk hn (by omega)
 have hlp := yI (fun (s : List Nat × List UInt8) i => tY R L key nonce (count : Int) t (cl s.1) s.2 i) (stQ key nonce count t)
  (fun i s => s.1.length = i ∧ (i % 64 ≠ 0 → s.2 = B0 key nonce count i) ∧ ∀ j, j < i → s.1.getD j 0 = bt t j ^^^ bt (B0 key nonce count j) (j % 64)) t.length (fun s => some (ub s.1, ()))
  (fun s _ => by
   have hq : tY R L key nonce (count : Int) t (cl s.1) s.2 (t.length : Nat) = _ := round (by kernel_rfl) (AW2 R L key nonce (count : Int) t (cl s.1) s.2 (t.length : Nat))
   show tY R L key nonce (count : Int) t (cl s.1) s.2 (t.length : Nat) = _
   rw [hq, decide_eq_false (show ¬ ((t.length : Int) < (t.length : Int)) by omega), Aa5]; rfl)
  (fun s i hi hs => by
   obtain ⟨h1, h2, h3⟩ := hs
   have hq : tY R L key nonce (count : Int) t (cl s.1) s.2 (i : Nat) = _ := round (by kernel_rfl) (AW2 R L key nonce (count : Int) t (cl s.1) s.2 (i : Nat))
   have hBi := hB i (by omega)
   have em : Int.tmod (i : Int) 64 = ((i % 64 : Nat) : Int) := A6w i 64
   have ed : Int.tdiv (i : Int) 64 = ((i / 64 : Nat) : Int) := rfl
   have hm : i % 64 < 64 := Nat.mod_lt _ (by decide)
   have bx : ∀ (B : List UInt8), xF .xor .u8 (((t.getD i 0).toNat : Nat) : Int) (((B.getD (i % 64) 0).toNat : Nat) : Int) = ((bt t i ^^^ bt B (i % 64) : Nat) : Int) := fun B => A3M (k := .u8) (sT t i) (sT B _)
   have hcase : (if i % 64 = 0 then B0 key nonce count i else s.2) = B0 key nonce count i := by
    by_cases h0 : i % 64 = 0
    ·rw [if_pos h0]
    ·rw [if_neg h0, h2 h0]
   refine ⟨?_, ?_, ?_, ?_⟩
   ·show tY R L key nonce (count : Int) t (cl s.1) s.2 (i : Nat) = _
    rw [hq, decide_eq_true (show (i : Int) < (t.length : Int) by omega), em, ed]
    unfold stQ
    rw [hcase]
    by_cases h0 : i % 64 = 0
    ·rw [show eqI ((i % 64 : Nat) : Int) 0 = true from by rw [oJ]; exact decide_eq_true (by omega), sI (n := i / 64) (by omega), Ak1 (by simp only [tL]; omega), show qG R key nonce ((count + i / 64 : Nat) : Int) = some (B0 key nonce count i, ()) from Ar5 key nonce hk hn _ (by omega)]
     simp only [nn, tn, cond_true, Option.bind_some]
     rw [yP hi, hBi, yP hm, uB (by rw [mF]; simp only [List.length_cons, List.length_nil]; omega), bx, zB (by omega)]
     simp only [cond_true]
     rw [show [((bt t i ^^^ bt (B0 key nonce count i) (i % 64) : Nat) : Int)] = cl [bt t i ^^^ bt (B0 key nonce count i) (i % 64)] from rfl, AO1]
    ·rw [show eqI ((i % 64 : Nat) : Int) 0 = false from by rw [oJ]; exact decide_eq_false (by omega), h2 h0]
     simp only [nn, tn, cond_true, cond_false]
     rw [yP hi, hBi, yP hm, uB (by rw [mF]; simp only [List.length_cons, List.length_nil]; omega), bx, zB (by omega)]
     simp only [cond_true]
     rw [show [((bt t i ^^^ bt (B0 key nonce count i) (i % 64) : Nat) : Int)] = cl [bt t i ^^^ bt (B0 key nonce count i) (i % 64)] from rfl, AO1]
   ·unfold stQ; rw [List.length_append, h1]; rfl
   ·intro h0
    unfold stQ
    rw [hcase]
    unfold B0
    rw [show (i + 1) / 64 = i / 64 by omega]
   ·intro j hj
    unfold stQ
    rw [hcase]
    by_cases hji : j = i
    ·subst hji
     rw [List.getD_eq_getElem?_getD, List.getElem?_append_right (by omega), h1, Nat.sub_self]; rfl
    ·rw [List.getD_eq_getElem?_getD, List.getElem?_append_left (by omega), ← List.getD_eq_getElem?_getD]
     exact h3 j (by omega))
  ([], []) ⟨rfl, fun h => absurd rfl h, fun j hj => by omega⟩
 obtain ⟨e1, e2, _, e3⟩ := hlp
 obtain ⟨r1, r2⟩ := Ac2 key nonce hk hn (t.length / 64 + 1) count t (by omega) (by omega)
 rw [hq]
 refine Eq.trans e1 ?_
 refine congrArg (fun x => some (x, ())) ?_
 have hul : ∀ l : List Nat, (ub l).length = l.length := fun l => List.length_map _
 apply A7L
 ·rw [hul, e2, r1]
 ·intro i hi
  rw [hul, e2] at hi
  have hv := e3 i hi
  rw [Ba6 (by rw [hv]; exact BH4 (sT _ _) (sT _ _)), hv, r2 i hi]
  rfl
end Go.Rf.S

end
section

end
section
namespace Go.Rf.S
set_option maxRecDepth 100000
theorem A5L {x : List Nat} (h : x.length = 5) : x = [x.getD 0 0, x.getD 1 0, x.getD 2 0, x.getD 3 0, x.getD 4 0] := by
 match x, h with
 | [a, b, c, d, e], _ => rfl
def crd (x : List Nat) : List Nat := car (x.getD 0 0) (x.getD 1 0) (x.getD 2 0) (x.getD 3 0) (x.getD 4 0)
def CAR (x : List Nat) : List Nat := crd (crd (crd x))
def vl (x : List Nat) : Nat := val (x.getD 0 0) (x.getD 1 0) (x.getD 2 0) (x.getD 3 0) (x.getD 4 0)
structure Can (x : List Nat) : Prop where
 l : x.length = 5
 b : Bd 67108864 x
theorem bd5 {B a b c d e : Nat} (ha : a < B) (hb : b < B) (hc : c < B) (hd : d < B) (he : e < B) : Bd B [a, b, c, d, e] := fun x hx => by
 simp only [List.mem_cons, List.not_mem_nil, or_false] at hx
 rcases hx with rfl | rfl | rfl | rfl | rfl <;> assumption
theorem A10 {x : List Nat} (h : x.length = 5) (hb : Bd 288230376151711744 x) : Can (CAR x) ∧ vl (CAR x) % PP = vl x % PP ∧ (crd x).length = 5 ∧ Bd 1152921504606846976 (crd x) ∧ (crd (crd x)).length = 5 ∧ Bd 1152921504606846976 (crd (crd x)) := by
 have g := fun i => hb.get (by decide) i
 obtain ⟨a1, b1, c1, d1, e1, a2, b2, c2, d2, e2, a3, b3, c3, d3, e3, h1, h2, h3, hv, q0, q1, q2, q3, q4, r0, r1, r2, r3, r4, s0, s1, s2, s3, s4⟩ := Bj5 (x.getD 0 0) (x.getD 1 0) (x.getD 2 0) (x.getD 3 0) (x.getD 4 0) (g 0) (g 1) (g 2) (g 3) (g 4)
 have e1 : crd x = [a1, b1, c1, d1, e1] := h1
 have e2 : crd (crd x) = [a2, b2, c2, d2, e2] := by rw [e1]; exact h2
 have e3 : CAR x = [a3, b3, c3, d3, e3] := by unfold CAR; rw [e2]; exact h3
 refine ⟨⟨by rw [e3]; rfl, by rw [e3]; exact bd5 q0 q1 q2 q3 q4⟩, by rw [e3]; exact hv, by rw [e1]; rfl, ?_, by rw [e2]; rfl, ?_⟩
 ·rw [e1]; exact bd5 r0 (by omega) (by omega) (by omega) (by omega)
 ·rw [e2]; exact bd5 s0 (by omega) (by omega) (by omega) (by omega)
theorem BI5 {x : List Nat} (h : Can x) : CAR x = x := by
 have g := fun i => h.b.get (by decide) i
 have e : crd x = x := by
  have := BW6 (g 0) (g 1) (g 2) (g 3) (g 4)
  exact this.trans (A5L h.l).symm
 unfold CAR
 rw [e, e, e]
theorem BA3 (l : List Nat) (i a : Nat) (z : Int) (h : z = (a : Int)) : (cl l).set i z = cl (l.set i a) := by rw [h, uS]
def Bi7 (i : Nat) (s : List Nat × Nat) : List Nat × Nat := (s.1.set i ((s.1.getD i 0 + s.2) % 67108864), (s.1.getD i 0 + s.2) / 67108864)
theorem aH (v2 : List Int) (j : Int) (x : List Nat) (hx : x.length = 5) (hb : Bd 1152921504606846976 x) :
  xI R L (cl x) v2 (0 : Int) j (0 : Int) = uM R L (cl (crd x)) v2 (IntKind.wrap .i64 (j + 1)) := by
 have := (yI (fun (s : List Nat × Nat) i => xI R L (cl s.1) v2 (s.2 : Int) j i) Bi7
  (fun i s => s.1.length = 5 ∧ Bd 1152921504606846976 s.1 ∧ s.2 < 68719476736) 5
  (fun s => uM R L (cl (s.1.set 0 (s.1.getD 0 0 + 5 * s.2))) v2 (IntKind.wrap .i64 (j + 1)))
  (fun s hs => by
   obtain ⟨h1, h2, h3⟩ := hs
   have hq : xI R L (cl s.1) v2 (s.2 : Int) j (5 : Nat) = _ := round (by kernel_rfl) (fG R L (cl s.1) v2 (s.2 : Int) j (5 : Nat))
   have hg := h2.get (by decide) 0
   show xI R L (cl s.1) v2 (s.2 : Int) j (5 : Nat) = _
   rw [hq, show decide (((5 : Nat) : Int) < 5) = false from by decide]
   simp only [cond_false]
   rw [BA3 _ _ (s.1.getD 0 0 + 5 * s.2)]
   ·rfl
   ·show IntKind.wrap .u64 ((cl s.1).getD 0 0 + IntKind.wrap .u64 (5 * (s.2 : Int))) = _
    rw [yA, At8, At8]
    omega)
  (fun s i hi hs => by
   obtain ⟨h1, h2, h3⟩ := hs
   have hq : xI R L (cl s.1) v2 (s.2 : Int) j (i : Nat) = _ := round (by kernel_rfl) (fG R L (cl s.1) v2 (s.2 : Int) j (i : Nat))
   have hg := h2.get (by decide) i
   refine ⟨?_, by simp [Bi7, h1], h2.set (Nat.lt_of_lt_of_le (Nat.mod_lt _ (by decide)) (by decide)), ?_⟩
   ·show xI R L (cl s.1) v2 (s.2 : Int) j (i : Nat) = _
    have hw : IntKind.wrap .u64 ((cl s.1).getD i 0 + (s.2 : Int)) = ((s.1.getD i 0 + s.2 : Nat) : Int) := by
     rw [yA, At8]; omega
    have hgs : ((cl s.1).set i ((s.1.getD i 0 + s.2 : Nat) : Int)).getD i 0 = ((s.1.getD i 0 + s.2 : Nat) : Int) := by
     rw [uS, yA, List.getD_eq_getElem?_getD, List.getElem?_set]
     simp [h1, hi]
    rw [hq, show decide ((i : Int) < 5) = true from decide_eq_true (by omega), nn, tn, yP (n := 5) hi]
    simp only [cond_true]
    rw [hw, hgs, zB (by omega), List.set_set, show xF .and .u64 ((s.1.getD i 0 + s.2 : Nat) : Int) 67108863 = (((s.1.getD i 0 + s.2) % 67108864 : Nat) : Int) from by
     rw [show (67108863 : Int) = ((67108863 : Nat) : Int) from rfl, AN4 (by simp only [tL]; omega) (by decide), A8o], uS]
    rw [show Int.fdiv ((s.1.getD i 0 + s.2 : Nat) : Int) (2 ^ Min.min (Int.toNat 26) (IntKind.bits .u64)) = (((s.1.getD i 0 + s.2) / 67108864 : Nat) : Int) from kP _ 26]
    rfl
   ·show (s.1.getD i 0 + s.2) / 67108864 < 68719476736
    omega)
  (x, 0) ⟨hx, hb, (by decide : (0 : Nat) < 68719476736)⟩).1
 refine this.trans ?_
 obtain ⟨a, b, c, d, e, rfl⟩ : ∃ a b c d e, x = [a, b, c, d, e] := ⟨_, _, _, _, _, A5L hx⟩
 rfl
theorem AM3 (x : List Nat) (hx : x.length = 5) (hb : Bd 288230376151711744 x) : xZ R (cl x) = some (cl (CAR x), ()) := by
 have hq : xZ R (cl x) = _ := call (AT0 R L (cl x))
 obtain ⟨_, _, l1, b1, l2, b2⟩ := A10 hx hb
 have b0 : Bd 1152921504606846976 x := fun y hy => Nat.lt_of_lt_of_le (hb y hy) (by decide)
 have q0 : ∀ (y : List Int) (v2 : List Int) (j : Int), uM R L y v2 j = _ := fun y v2 j => round (by kernel_rfl) (AL4 R L y v2 j)
 rw [hq, q0, show decide ((0 : Int) < 3) = true from rfl]
 simp only [cond_true]
 rw [aH _ _ x hx b0, q0, show decide (IntKind.wrap .i64 ((0 : Int) + 1) < 3) = true from by decide]
 simp only [cond_true]
 rw [aH _ _ _ l1 b1, q0, show decide (IntKind.wrap .i64 (IntKind.wrap .i64 ((0 : Int) + 1) + 1) < 3) = true from by decide]
 simp only [cond_true]
 rw [aH _ _ _ l2 b2, q0, show decide (IntKind.wrap .i64 (IntKind.wrap .i64 (IntKind.wrap .i64 ((0 : Int) + 1) + 1) + 1) < 3) = false from by decide]
 rfl
end Go.Rf.S

end
section
namespace Go.Rf.S
set_option maxRecDepth 100000
theorem oF {l : List Nat} {i j a : Nat} (h : i ≠ j) : (l.set i a).getD j 0 = l.getD j 0 := by
 rw [List.getD_eq_getElem?_getD, List.getD_eq_getElem?_getD, List.getElem?_set, if_neg h]
theorem vF {k : IntKind} {a b : Nat} (h : a + b < tL k) : IntKind.wrap k ((a : Int) + (b : Int)) = ((a + b : Nat) : Int) := by
 rw [show (a : Int) + (b : Int) = ((a + b : Nat) : Int) from by omega, AR1 h]
theorem iH {k : IntKind} {a b : Nat} (h : a * b < tL k) : IntKind.wrap k ((a : Int) * (b : Int)) = ((a * b : Nat) : Int) := by
 rw [show (a : Int) * (b : Int) = ((a * b : Nat) : Int) from by simp, AR1 h]
theorem m26 {k : IntKind} {a : Nat} (h : a < tL k) (hk : 67108863 < tL k) : xF .and k (a : Int) 67108863 = ((a % 67108864 : Nat) : Int) := by
 rw [show (67108863 : Int) = ((67108863 : Nat) : Int) from rfl, AN4 h hk, A8o]
def BY6 (i : Nat) (x : List Nat) : List Nat := (x.set (i + 1) (x.getD (i + 1) 0 + x.getD i 0 / 67108864)).set i (x.getD i 0 % 67108864)
theorem bA (v2 : List Int) (j : Int) (x : List Nat) (hx : x.length = 5) (hb : Bd 1152921504606846976 x) :
  uH R L (cl x) v2 j (0 : Int) = rT R L (cl (crd x)) v2 (IntKind.wrap .i64 (j + 1)) := by
 have := (yI (fun (x : List Nat) i => uH R L (cl x) v2 j i) BY6
  (fun i x => x.length = 5 ∧ Bd (1152921504606846976 + i * 1099511627776) x) 4
  (fun x => rT R L (cl ((x.set 0 (x.getD 0 0 + 5 * (x.getD 4 0 / 67108864))).set 4 (x.getD 4 0 % 67108864))) v2 (IntKind.wrap .i64 (j + 1)))
  (fun x hs => by
   obtain ⟨h1, h2⟩ := hs
   have hq : uH R L (cl x) v2 j (4 : Nat) = _ := round (by kernel_rfl) (AJ2 R L (cl x) v2 j (4 : Nat))
   have hg := h2.get (by decide) 0
   have hg4 := h2.get (by decide) 4
   show uH R L (cl x) v2 j (4 : Nat) = _
   rw [hq, show decide (((4 : Nat) : Int) < 4) = false from by decide]
   simp only [cond_false]
   have e0 : Int.toNat 0 = 0 := rfl
   have e4 : Int.toNat 4 = 4 := rfl
   have ed : Int.fdiv ((cl x).getD 4 0) (2 ^ Min.min (Int.toNat 26) (IntKind.bits .i64)) = ((x.getD 4 0 / 67108864 : Nat) : Int) := by rw [yA]; exact kP _ 26
   have ew : IntKind.wrap .i64 ((cl x).getD 0 0 + IntKind.wrap .i64 (5 * ((x.getD 4 0 / 67108864 : Nat) : Int))) = ((x.getD 0 0 + 5 * (x.getD 4 0 / 67108864) : Nat) : Int) := by
    rw [show (5 : Int) = ((5 : Nat) : Int) from rfl, iH (by simp only [tL]; omega), yA, vF (by simp only [tL]; omega)]
   rw [e0, e4, ed, ew, uS, yA, oF (by decide), m26 (by simp only [tL]; omega) (by decide), uS])
  (fun x i hi hs => by
   obtain ⟨h1, h2⟩ := hs
   have hq : uH R L (cl x) v2 j (i : Nat) = _ := round (by kernel_rfl) (AJ2 R L (cl x) v2 j (i : Nat))
   have hpos : 0 < 1152921504606846976 + i * 1099511627776 := by omega
   have hg := h2.get hpos i
   have hg1 := h2.get hpos (i + 1)
   have hmono : Bd (1152921504606846976 + (i + 1) * 1099511627776) x := fun y hy => Nat.lt_of_lt_of_le (h2 y hy) (by omega)
   refine ⟨?_, by simp [BY6, h1], (hmono.set (by omega)).set (Nat.lt_of_lt_of_le (Nat.mod_lt _ (by decide)) (by omega))⟩
   show uH R L (cl x) v2 j (i : Nat) = _
   have ed : Int.fdiv ((cl x).getD i 0) (2 ^ Min.min (Int.toNat 26) (IntKind.bits .i64)) = ((x.getD i 0 / 67108864 : Nat) : Int) := by rw [yA]; exact kP _ 26
   rw [hq, show decide ((i : Int) < 4) = true from decide_eq_true (by omega), zB (by omega), nn, tn, nn, tn, yP (n := 5) (show i + 1 < 5 by omega), yP (n := 5) (show i < 5 by omega)]
   simp only [cond_true]
   rw [ed, yA, vF (by simp only [tL]; omega), uS, yA, oF (by omega), m26 (by simp only [tL]; omega) (by decide), uS]
   rfl)
  x ⟨hx, by simpa using hb⟩).1
 refine this.trans ?_
 obtain ⟨a, b, c, d, e, rfl⟩ : ∃ a b c d e, x = [a, b, c, d, e] := ⟨_, _, _, _, _, A5L hx⟩
 rfl
theorem A1m (x : List Nat) (hx : x.length = 5) (hb : Bd 288230376151711744 x) : oQ R (cl x) = some (cl (CAR x), ()) := by
 have hq : oQ R (cl x) = _ := call (A1p R L (cl x))
 obtain ⟨_, _, l1, b1, l2, b2⟩ := A10 hx hb
 have b0 : Bd 1152921504606846976 x := fun y hy => Nat.lt_of_lt_of_le (hb y hy) (by decide)
 have q0 : ∀ (y : List Int) (v2 : List Int) (j : Int), rT R L y v2 j = _ := fun y v2 j => round (by kernel_rfl) (Ak9 R L y v2 j)
 rw [hq, q0, show decide ((0 : Int) < 3) = true from rfl]
 simp only [cond_true]
 rw [bA _ _ x hx b0, q0, show decide (IntKind.wrap .i64 ((0 : Int) + 1) < 3) = true from by decide]
 simp only [cond_true]
 rw [bA _ _ _ l1 b1, q0, show decide (IntKind.wrap .i64 (IntKind.wrap .i64 ((0 : Int) + 1) + 1) < 3) = true from by decide]
 simp only [cond_true]
 rw [bA _ _ _ l2 b2, q0, show decide (IntKind.wrap .i64 (IntKind.wrap .i64 (IntKind.wrap .i64 ((0 : Int) + 1) + 1) + 1) < 3) = false from by decide]
 rfl
def TIM (x y : List Nat) : List Nat :=
  [x.getD 0 0 * y.getD 0 0 + 5 * (x.getD 1 0 * y.getD 4 0) + 5 * (x.getD 2 0 * y.getD 3 0) + 5 * (x.getD 3 0 * y.getD 2 0) + 5 * (x.getD 4 0 * y.getD 1 0),
   x.getD 0 0 * y.getD 1 0 + x.getD 1 0 * y.getD 0 0 + 5 * (x.getD 2 0 * y.getD 4 0) + 5 * (x.getD 3 0 * y.getD 3 0) + 5 * (x.getD 4 0 * y.getD 2 0),
   x.getD 0 0 * y.getD 2 0 + x.getD 1 0 * y.getD 1 0 + x.getD 2 0 * y.getD 0 0 + 5 * (x.getD 3 0 * y.getD 4 0) + 5 * (x.getD 4 0 * y.getD 3 0),
   x.getD 0 0 * y.getD 3 0 + x.getD 1 0 * y.getD 2 0 + x.getD 2 0 * y.getD 1 0 + x.getD 3 0 * y.getD 0 0 + 5 * (x.getD 4 0 * y.getD 4 0),
   x.getD 0 0 * y.getD 4 0 + x.getD 1 0 * y.getD 3 0 + x.getD 2 0 * y.getD 2 0 + x.getD 3 0 * y.getD 1 0 + x.getD 4 0 * y.getD 0 0]
theorem A7Q (x y : List Nat) : (TIM x y).length = 5 := rfl
theorem BI3 (x y : List Nat) : vl (TIM x y) % PP = (vl x * vl y) % PP := by
 obtain ⟨q, h⟩ := BK4 (x.getD 0 0) (x.getD 1 0) (x.getD 2 0) (x.getD 3 0) (x.getD 4 0) (y.getD 0 0) (y.getD 1 0) (y.getD 2 0) (y.getD 3 0) (y.getD 4 0)
 show val _ _ _ _ _ % PP = (val _ _ _ _ _ * val _ _ _ _ _) % PP
 rw [h, Nat.add_mul_mod_self_right]
 rfl
theorem A9z {a b : Nat} (ha : a < 134217728) (hb : b < 67108864) : a * b < 9007199254740992 := by
 have : a * b ≤ a * 67108864 := Nat.mul_le_mul_left _ (by omega)
 omega
theorem A40 {x y : List Nat} (hx : Bd 134217728 x) (hy : Bd 67108864 y) : Bd 288230376151711744 (TIM x y) := by
 have p := fun i j => A9z (hx.get (by decide) i) (hy.get (by decide) j)
 have p00 := p 0 0; have p01 := p 0 1; have p02 := p 0 2; have p03 := p 0 3; have p04 := p 0 4
 have p10 := p 1 0; have p11 := p 1 1; have p12 := p 1 2; have p13 := p 1 3; have p14 := p 1 4
 have p20 := p 2 0; have p21 := p 2 1; have p22 := p 2 2; have p23 := p 2 3; have p24 := p 2 4
 have p30 := p 3 0; have p31 := p 3 1; have p32 := p 3 2; have p33 := p 3 3; have p34 := p 3 4
 have p40 := p 4 0; have p41 := p 4 1; have p42 := p 4 2; have p43 := p 4 3; have p44 := p 4 4
 exact bd5 (by omega) (by omega) (by omega) (by omega) (by omega)
def stT (x y : List Nat) (i k : Nat) (o : List Nat) : List Nat :=
 if i + k < 5 then o.set (i + k) (o.getD (i + k) 0 + x.getD i 0 * y.getD k 0) else o.set (i + k - 5) (o.getD (i + k - 5) 0 + 5 * (x.getD i 0 * y.getD k 0))
def A9H (i k : Nat) (o : List Nat) : Prop := o.length = 5 ∧ Bd (1 + (5 * i + k) * 45035996273704960) o
theorem A8h {x y o : List Nat} {i k : Nat} (hx : Bd 134217728 x) (hy : Bd 67108864 y) (h : A9H i k o) : A9H i (k + 1) (stT x y i k o) := by
 obtain ⟨h1, h2⟩ := h
 have hp := A9z (hx.get (by decide) i) (hy.get (by decide) k)
 have hpos : 0 < 1 + (5 * i + k) * 45035996273704960 := by omega
 have hmono : Bd (1 + (5 * i + (k + 1)) * 45035996273704960) o := fun z hz => Nat.lt_of_lt_of_le (h2 z hz) (by omega)
 unfold stT
 split
 ·have := h2.get hpos (i + k)
  exact ⟨by simp [h1], hmono.set (by omega)⟩
 ·have := h2.get hpos (i + k - 5)
  exact ⟨by simp [h1], hmono.set (by omega)⟩
theorem BG3 (x y : List Nat) : wE (fun i o => wE (stT x y i) 5 0 o) 5 0 (List.replicate 5 0) = TIM x y := by
  have e : wE (fun i o => wE (stT x y i) 5 0 o) 5 0 (List.replicate 5 0) =
    [0 + x.getD 0 0 * y.getD 0 0 + 5 * (x.getD 1 0 * y.getD 4 0) + 5 * (x.getD 2 0 * y.getD 3 0) + 5 * (x.getD 3 0 * y.getD 2 0) + 5 * (x.getD 4 0 * y.getD 1 0),
     0 + x.getD 0 0 * y.getD 1 0 + x.getD 1 0 * y.getD 0 0 + 5 * (x.getD 2 0 * y.getD 4 0) + 5 * (x.getD 3 0 * y.getD 3 0) + 5 * (x.getD 4 0 * y.getD 2 0),
     0 + x.getD 0 0 * y.getD 2 0 + x.getD 1 0 * y.getD 1 0 + x.getD 2 0 * y.getD 0 0 + 5 * (x.getD 3 0 * y.getD 4 0) + 5 * (x.getD 4 0 * y.getD 3 0),
     0 + x.getD 0 0 * y.getD 3 0 + x.getD 1 0 * y.getD 2 0 + x.getD 2 0 * y.getD 1 0 + x.getD 3 0 * y.getD 0 0 + 5 * (x.getD 4 0 * y.getD 4 0),
     0 + x.getD 0 0 * y.getD 4 0 + x.getD 1 0 * y.getD 3 0 + x.getD 2 0 * y.getD 2 0 + x.getD 3 0 * y.getD 1 0 + x.getD 4 0 * y.getD 0 0] := by kernel_rfl
  rw [e]
  simp only [Nat.zero_add]
  rfl
end Go.Rf.S

end
section
namespace Go.Rf.S
set_option maxRecDepth 100000
theorem Au0 (x y : List Nat) (v3 : List Int) (v4 : List Int) (i : Nat) (hi : i < 5) (hx : Bd 134217728 x) (hy : Bd 67108864 y) (o : List Nat) (ho : A9H i 0 o) :
  xQ R L v3 v4 (cl o) (i : Int) ((x.getD i 0 : Nat) : Int) (cl x) (i : Int) (cl y) (0 : Int) = xN R L v3 v4 (cl (wE (stT x y i) 5 0 o)) (cl x) ((i + 1 : Nat) : Int) ∧ A9H (i + 1) 0 (wE (stT x y i) 5 0 o) := by
 have := yI (fun (o : List Nat) k => xQ R L v3 v4 (cl o) (i : Int) ((x.getD i 0 : Nat) : Int) (cl x) (i : Int) (cl y) k) (stT x y i) (A9H i) 5
  (fun o => xN R L v3 v4 (cl o) (cl x) ((i + 1 : Nat) : Int))
  (fun o hs => by
   have hq : xQ R L v3 v4 (cl o) (i : Int) ((x.getD i 0 : Nat) : Int) (cl x) (i : Int) (cl y) (5 : Nat) = _ := round (by kernel_rfl) (cG R L v3 v4 (cl o) (i : Int) _ (cl x) (i : Int) (cl y) (5 : Nat))
   show xQ R L v3 v4 (cl o) (i : Int) ((x.getD i 0 : Nat) : Int) (cl x) (i : Int) (cl y) (5 : Nat) = _
   rw [hq, show decide (((5 : Nat) : Int) < 5) = false from by decide, zB (i := i) (by omega)]
   rfl)
  (fun o k hk hs => by
   refine ⟨?_, A8h hx hy hs⟩
   have hq : xQ R L v3 v4 (cl o) (i : Int) ((x.getD i 0 : Nat) : Int) (cl x) (i : Int) (cl y) (k : Nat) = _ := round (by kernel_rfl) (cG R L v3 v4 (cl o) (i : Int) _ (cl x) (i : Int) (cl y) (k : Nat))
   show xQ R L v3 v4 (cl o) (i : Int) ((x.getD i 0 : Nat) : Int) (cl x) (i : Int) (cl y) (k : Nat) = _
   have hp := A9z (hx.get (by decide) i) (hy.get (by decide) k)
   have hxi := hx.get (by decide) i
   have hpos : 0 < 1 + (5 * i + k) * 45035996273704960 := by omega
   have hik : IntKind.wrap .i64 ((i : Int) + (k : Int)) = ((i + k : Nat) : Int) := vF (by simp only [tL]; omega)
   rw [hq, show decide ((k : Int) < 5) = true from decide_eq_true (by omega), nn, tn, yP (n := 5) hk, hik]
   simp only [cond_true]
   unfold stT
   by_cases h : i + k < 5
   ·have hg := hs.2.get hpos (i + k)
    rw [if_pos h, show decide (((i + k : Nat) : Int) < 5) = true from decide_eq_true (by omega)]
    simp only [cond_true]
    rw [nn, tn, yP (n := 5) h, zB (by omega)]
    simp only [cond_true]
    rw [yA, yA, iH (by simp only [tL]; omega), vF (by simp only [tL]; omega), uS]
   ·have hg := hs.2.get hpos (i + k - 5)
    have h5 : IntKind.wrap .i64 (((i + k : Nat) : Int) - 5) = ((i + k - 5 : Nat) : Int) := by
     rw [zO (by omega) (by omega)]; omega
    rw [if_neg h, show decide (((i + k : Nat) : Int) < 5) = false from decide_eq_false (by omega)]
    simp only [cond_false]
    rw [h5, nn, tn, yP (n := 5) (show i + k - 5 < 5 by omega), zB (by omega)]
    simp only [cond_true]
    have hm : 5 * x.getD i 0 * y.getD k 0 = 5 * (x.getD i 0 * y.getD k 0) := Nat.mul_assoc _ _ _
    rw [yA, yA, show (5 : Int) = ((5 : Nat) : Int) from rfl, iH (by simp only [tL]; omega), iH (by simp only [tL]; omega), hm, vF (by simp only [tL]; omega), uS])
  o ho
 refine ⟨this.1, this.2.1, ?_⟩
 have h2 := this.2.2
 rw [show 5 * i + 5 = 5 * (i + 1) + 0 by omega] at h2
 exact h2
theorem A7V (x y : List Nat) (hlx : x.length = 5) (hx : Bd 134217728 x) (hy : Bd 67108864 y) : kD R (cl x) (cl y) = some (cl (CAR (TIM x y)), ()) := by
 have hq : kD R (cl x) (cl y) = _ := call (Af8 R L (cl x) (cl y))
 have := (yI (fun (o : List Nat) i => xN R L (cl y) (List.replicate 5 0) (cl o) (cl x) i) (fun i o => wE (stT x y i) 5 0 o) (fun i o => A9H i 0 o) 5
  (fun o => (xZ R (cl o)).bind fun r0 => some (r0.1, ()))
  (fun o hs => by
   have hq : xN R L (cl y) (List.replicate 5 0) (cl o) (cl x) (5 : Nat) = _ := round (by kernel_rfl) (dY R L (cl y) (List.replicate 5 0) (cl o) (cl x) (5 : Nat))
   show xN R L (cl y) (List.replicate 5 0) (cl o) (cl x) (5 : Nat) = _
   rw [hq, show decide (((5 : Nat) : Int) < 5) = false from by decide]
   rfl)
  (fun o i hi hs => by
   have hq : xN R L (cl y) (List.replicate 5 0) (cl o) (cl x) (i : Nat) = _ := round (by kernel_rfl) (dY R L (cl y) (List.replicate 5 0) (cl o) (cl x) (i : Nat))
   obtain ⟨h1, h2⟩ := Au0 x y (cl y) (List.replicate 5 0) i hi hx hy o hs
   refine ⟨?_, h2⟩
   show xN R L (cl y) (List.replicate 5 0) (cl o) (cl x) (i : Nat) = _
   rw [hq, show decide ((i : Int) < 5) = true from decide_eq_true (by omega), nn, tn, yP (n := 5) hi, yA]
   simp only [cond_true]
   exact h1)
  (List.replicate 5 0) ⟨rfl, Bd.rep (by omega)⟩).1
 rw [hq]
 refine this.trans ?_
 rw [BG3]
 show (xZ R (cl (TIM x y))).bind _ = _
 rw [AM3 _ (A7Q x y) (A40 hx hy)]
 rfl
theorem Ax2 (x y : List Nat) (v4 : List Int) (i : Nat) (hi : i < 5) (hx : Bd 134217728 x) (hy : Bd 67108864 y) (o : List Nat) (ho : A9H i 0 o) :
  vC R L (cl x) (cl y) v4 (cl o) (i : Int) (0 : Int) = wZ R L (cl x) (cl y) v4 (cl (wE (stT x y i) 5 0 o)) ((i + 1 : Nat) : Int) ∧ A9H (i + 1) 0 (wE (stT x y i) 5 0 o) := by
 have := yI (fun (o : List Nat) k => vC R L (cl x) (cl y) v4 (cl o) (i : Int) k) (stT x y i) (A9H i) 5
  (fun o => wZ R L (cl x) (cl y) v4 (cl o) ((i + 1 : Nat) : Int))
  (fun o hs => by
   have hq : vC R L (cl x) (cl y) v4 (cl o) (i : Int) (5 : Nat) = _ := round (by kernel_rfl) (AK2 R L (cl x) (cl y) v4 (cl o) (i : Int) (5 : Nat))
   show vC R L (cl x) (cl y) v4 (cl o) (i : Int) (5 : Nat) = _
   rw [hq, show decide (((5 : Nat) : Int) < 5) = false from by decide, zB (i := i) (by omega)]
   rfl)
  (fun o k hk hs => by
   refine ⟨?_, A8h hx hy hs⟩
   have hq : vC R L (cl x) (cl y) v4 (cl o) (i : Int) (k : Nat) = _ := round (by kernel_rfl) (AK2 R L (cl x) (cl y) v4 (cl o) (i : Int) (k : Nat))
   show vC R L (cl x) (cl y) v4 (cl o) (i : Int) (k : Nat) = _
   have hp := A9z (hx.get (by decide) i) (hy.get (by decide) k)
   have hpos : 0 < 1 + (5 * i + k) * 45035996273704960 := by omega
   have hik : IntKind.wrap .i64 ((i : Int) + (k : Int)) = ((i + k : Nat) : Int) := vF (by simp only [tL]; omega)
   have hmod : Int.tmod ((i + k : Nat) : Int) 5 = (((i + k) % 5 : Nat) : Int) := rfl
   rw [hq, show decide ((k : Int) < 5) = true from decide_eq_true (by omega), nn, tn, yP (n := 5) hi, nn, tn, yP (n := 5) hk, hik, hmod, nn, tn, yP (n := 5) (Nat.mod_lt _ (by decide)), zB (by omega), yA, yA, yA, iH (by simp only [tL]; omega)]
   simp only [cond_true]
   unfold stT
   by_cases h : i + k < 5
   ·have hg := hs.2.get hpos (i + k)
    rw [if_pos h, show decide ((4 : Int) < ((i + k : Nat) : Int)) = false from decide_eq_false (by omega), Nat.mod_eq_of_lt h]
    simp only [cond_false]
    rw [vF (by simp only [tL]; omega), uS]
   ·have hg := hs.2.get hpos (i + k - 5)
    have e5 : (i + k) % 5 = i + k - 5 := by omega
    rw [if_neg h, show decide ((4 : Int) < ((i + k : Nat) : Int)) = true from decide_eq_true (by omega), e5]
    simp only [cond_true]
    have hm : x.getD i 0 * y.getD k 0 * 5 = 5 * (x.getD i 0 * y.getD k 0) := Nat.mul_comm _ _
    rw [show (5 : Int) = ((5 : Nat) : Int) from rfl, iH (by simp only [tL]; omega), hm, vF (by simp only [tL]; omega), uS])
  o ho
 refine ⟨this.1, this.2.1, ?_⟩
 have h2 := this.2.2
 rw [show 5 * i + 5 = 5 * (i + 1) + 0 by omega] at h2
 exact h2
theorem A8O (x y : List Nat) (hlx : x.length = 5) (hx : Bd 134217728 x) (hy : Bd 67108864 y) : lC R (cl x) (cl y) = some (cl (CAR (TIM x y)), ()) := by
 have hq : lC R (cl x) (cl y) = _ := call (A2I R L (cl x) (cl y))
 have := (yI (fun (o : List Nat) i => wZ R L (cl x) (cl y) (List.replicate 5 0) (cl o) i) (fun i o => wE (stT x y i) 5 0 o) (fun i o => A9H i 0 o) 5
  (fun o => (oQ R (cl o)).bind fun r0 => some (r0.1, ()))
  (fun o hs => by
   have hq : wZ R L (cl x) (cl y) (List.replicate 5 0) (cl o) (5 : Nat) = _ := round (by kernel_rfl) (AJ8 R L (cl x) (cl y) (List.replicate 5 0) (cl o) (5 : Nat))
   show wZ R L (cl x) (cl y) (List.replicate 5 0) (cl o) (5 : Nat) = _
   rw [hq, show decide (((5 : Nat) : Int) < 5) = false from by decide]
   rfl)
  (fun o i hi hs => by
   have hq : wZ R L (cl x) (cl y) (List.replicate 5 0) (cl o) (i : Nat) = _ := round (by kernel_rfl) (AJ8 R L (cl x) (cl y) (List.replicate 5 0) (cl o) (i : Nat))
   obtain ⟨h1, h2⟩ := Ax2 x y (List.replicate 5 0) i hi hx hy o hs
   refine ⟨?_, h2⟩
   show wZ R L (cl x) (cl y) (List.replicate 5 0) (cl o) (i : Nat) = _
   rw [hq, show decide ((i : Int) < 5) = true from decide_eq_true (by omega)]
   simp only [cond_true]
   exact h1)
  (List.replicate 5 0) ⟨rfl, Bd.rep (by omega)⟩).1
 rw [hq]
 refine this.trans ?_
 rw [BG3]
 show (oQ R (cl (TIM x y))).bind _ = _
 rw [A1m _ (A7Q x y) (A40 hx hy)]
 rfl
end Go.Rf.S

end
section
namespace Go.Rf.S
set_option maxRecDepth 100000
def bI (t : List UInt8) : List Int := t.map fun b => (b.toNat : Int)
theorem BF2 (t : List UInt8) : (bI t).length = t.length := List.length_map _
theorem BM1 (t : List UInt8) (i : Nat) : (bI t).getD i (0 : Int) = ((bt t i : Nat) : Int) := by
 unfold bI bt
 rw [List.getD_eq_getElem?_getD, List.getD_eq_getElem?_getD, List.getElem?_map]
 cases t[i]? <;> rfl
theorem Az5 : ∀ (t : List UInt8) (i : Nat), leV t / 256 ^ i % 256 = bt t i
 | [], i => by simp [leV, bt]
 | c :: cs, 0 => by
  have := c.toNat_lt
  simp only [leV, Nat.pow_zero, Nat.div_one]
  show _ = c.toNat
  omega
 | c :: cs, i + 1 => by
  have := c.toNat_lt
  have ih := Az5 cs i
  have e : leV (c :: cs) / 256 ^ (i + 1) = leV cs / 256 ^ i := by
   rw [Nat.pow_succ, Nat.mul_comm, ← Nat.div_div_eq_div_mul]
   congr 1
   simp only [leV]
   omega
  rw [e, ih]
  rfl
theorem A7N {m s : Nat} (h : m < 2 ^ s) : m ||| 2 ^ s = m + 2 ^ s := by
 have := Nat.two_pow_add_eq_or_of_lt h 1
 rw [Nat.mul_one] at this
 rw [Nat.or_comm, ← this, Nat.add_comm]
theorem Be5 {s : Nat} (h : s < 26) : 1 ≤ 2 ^ s ∧ 2 ^ s ≤ 33554432 := ⟨Nat.one_le_two_pow, Nat.le_trans (Nat.pow_le_pow_right (by decide) (show s ≤ 25 by omega)) (by decide)⟩
theorem Bd6 {N q s : Nat} (hq : q < 5) (hs : s < 26) (hN : N < 2 ^ (26 * q + s)) : (L5 N).set q ((L5 N).getD q 0 ||| 2 ^ s) = L5 (N + 2 ^ (26 * q + s)) := by
 have hp := Be5 hs
 rw [Nat.pow_add] at hN ⊢
 have e : ∀ m, m < 2 ^ s → m ||| 2 ^ s = m + 2 ^ s := fun m hm => A7N hm
 generalize 2 ^ s = P at hp hN e ⊢
 match q, hq with
 | 0, _ =>
  rw [show 2 ^ (26 * 0) * P = P by simp] at hN ⊢
  show [(N % 67108864 ||| P), _, _, _, _] = L5 (N + P)
  rw [e _ (by omega)]
  unfold L5
  congr 1
  ·omega
  ·congr 1
   ·omega
   ·congr 1
    ·omega
    ·congr 1
     ·omega
     ·congr 1; omega
 | 1, _ =>
  rw [show 2 ^ (26 * 1) * P = 67108864 * P from rfl] at hN ⊢
  show [_, (N / 67108864 % 67108864 ||| P), _, _, _] = L5 (N + 67108864 * P)
  rw [e _ (by omega)]
  unfold L5
  congr 1
  ·omega
  ·congr 1
   ·omega
   ·congr 1
    ·omega
    ·congr 1
     ·omega
     ·congr 1; omega
 | 2, _ =>
  rw [show 2 ^ (26 * 2) * P = 4503599627370496 * P from rfl] at hN ⊢
  show [_, _, (N / 4503599627370496 % 67108864 ||| P), _, _] = L5 (N + 4503599627370496 * P)
  rw [e _ (by omega)]
  unfold L5
  congr 1
  ·omega
  ·congr 1
   ·omega
   ·congr 1
    ·omega
    ·congr 1
     ·omega
     ·congr 1; omega
 | 3, _ =>
  rw [show 2 ^ (26 * 3) * P = 302231454903657293676544 * P from rfl] at hN ⊢
  show [_, _, _, (N / 302231454903657293676544 % 67108864 ||| P), _] = L5 (N + 302231454903657293676544 * P)
  rw [e _ (by omega)]
  unfold L5
  congr 1
  ·omega
  ·congr 1
   ·omega
   ·congr 1
    ·omega
    ·congr 1
     ·omega
     ·congr 1; omega
 | 4, _ =>
  rw [show 2 ^ (26 * 4) * P = 20282409603651670423947251286016 * P from rfl] at hN ⊢
  show [_, _, _, _, (N / 20282409603651670423947251286016 % 67108864 ||| P)] = L5 (N + 20282409603651670423947251286016 * P)
  rw [e _ (by omega)]
  unfold L5
  congr 1
  ·omega
  ·congr 1
   ·omega
   ·congr 1
    ·omega
    ·congr 1
     ·omega
     ·congr 1; omega
theorem Aa2 (n : Nat) : Bd 67108864 (L5 n) := bd5 (Nat.mod_lt _ (by decide)) (Nat.mod_lt _ (by decide)) (Nat.mod_lt _ (by decide)) (Nat.mod_lt _ (by decide)) (Nat.mod_lt _ (by decide))
theorem A9X {t : List UInt8} {i b : Nat} (hb : b < 8) : bt t i / 2 ^ b % 2 = leV t / 2 ^ (8 * i + b) % 2 := by
 rw [← Az5, show (256 : Nat) = 2 ^ 8 from rfl, ← Nat.pow_mul]
 rw [Nat.pow_add, ← Nat.div_div_eq_div_mul]
 generalize leV t / 2 ^ (8 * i) = m
 rw [show (2 : Nat) ^ 8 = 2 ^ b * (2 * 2 ^ (7 - b)) by rw [← Nat.pow_succ', ← Nat.pow_add]; congr 1; omega, Nat.mod_mul_right_div_self, Nat.mod_mul_right_mod]
theorem A3W (n k : Nat) : n % 2 ^ (k + 1) = n % 2 ^ k + (n / 2 ^ k % 2) * 2 ^ k := by
 rw [Nat.mod_pow_succ, Nat.mul_comm (2 ^ k)]
theorem BZ5 {t : List UInt8} (hl : t.length ≤ 17) (hn : leV t < 1361129467683753853853498429727072845824) (i : Nat) (hi : i < t.length) (v2 : List Int) (v9 : List Int) (v10 : Int) :
  vE R L v2 (cl (L5 (leV t % 2 ^ (8 * i)))) (i : Int) ((bt t i : Nat) : Int) v9 v10 (i : Int) (0 : Int) = wN R L v2 (cl (L5 (leV t % 2 ^ (8 * (i + 1))))) v9 v10 ((i + 1 : Nat) : Int) := by
 have := (yI (fun (k : Nat) b => vE R L v2 (cl (L5 (leV t % 2 ^ k))) (i : Int) ((bt t i : Nat) : Int) v9 v10 (i : Int) b) (fun _ k => k + 1) (fun b k => k = 8 * i + b) 8
  (fun k => wN R L v2 (cl (L5 (leV t % 2 ^ k))) v9 v10 ((i + 1 : Nat) : Int))
  (fun k hk => by
   have hq : vE R L v2 (cl (L5 (leV t % 2 ^ k))) (i : Int) ((bt t i : Nat) : Int) v9 v10 (i : Int) (8 : Nat) = _ := round (by kernel_rfl) (AS2 R L v2 _ (i : Int) _ v9 v10 (i : Int) (8 : Nat))
   show vE R L v2 (cl (L5 (leV t % 2 ^ k))) (i : Int) ((bt t i : Nat) : Int) v9 v10 (i : Int) (8 : Nat) = _
   rw [hq, show decide (((8 : Nat) : Int) < 8) = false from by decide]
   simp only [cond_false]
   rw [zB (i := i) (by omega)])
  (fun k b hb hk => by
   subst hk
   refine ⟨?_, rfl⟩
   have hq : vE R L v2 (cl (L5 (leV t % 2 ^ (8 * i + b)))) (i : Int) ((bt t i : Nat) : Int) v9 v10 (i : Int) (b : Nat) = _ := round (by kernel_rfl) (AS2 R L v2 _ (i : Int) _ v9 v10 (i : Int) (b : Nat))
   show vE R L v2 (cl (L5 (leV t % 2 ^ (8 * i + b)))) (i : Int) ((bt t i : Nat) : Int) v9 v10 (i : Int) (b : Nat) = vE R L v2 (cl (L5 (leV t % 2 ^ (8 * i + b + 1)))) (i : Int) ((bt t i : Nat) : Int) v9 v10 (i : Int) ((b + 1 : Nat) : Int)
   have hbt := sT t i
   have hdiv : bt t i / 2 ^ b < 256 := Nat.lt_of_le_of_lt (Nat.div_le_self _ _) hbt
   have hand : xF .and .u8 (((bt t i / 2 ^ b : Nat)) : Int) 1 = ((bt t i / 2 ^ b % 2 : Nat) : Int) := by
    rw [show (1 : Int) = ((1 : Nat) : Int) from rfl, AN4 (by simp only [tL]; omega) (by decide), Nat.and_one_is_mod]
   have hmin : Min.min (Int.toNat (b : Int)) (IntKind.bits .u8) = b := by rw [tn]; show Nat.min b 8 = b; exact Nat.min_eq_left (by omega)
   rw [hq, show decide ((b : Int) < 8) = true from decide_eq_true (by omega), show decide ((b : Int) < 0) = false from decide_eq_false (by omega), hmin, kP, hand, A9X hb, zB (i := b) (by omega)]
   simp only [cond_true, cond_false]
   rcases Nat.mod_two_eq_zero_or_one (leV t / 2 ^ (8 * i + b)) with h0 | h1
   ·rw [h0, A3W, h0, Nat.zero_mul, Nat.add_zero]
    rfl
   ·rw [h1, A3W, h1, Nat.one_mul]
    have hk : 8 * i + b < 130 := by
     rcases Nat.lt_or_ge (8 * i + b) 130 with h | h
     ·exact h
     ·have : leV t / 2 ^ (8 * i + b) = 0 := Nat.div_eq_of_lt (Nat.lt_of_lt_of_le hn (Nat.le_trans (by decide) (Nat.pow_le_pow_right (by decide) h)))
      rw [this] at h1; simp at h1
    have e8 : IntKind.wrap .i64 (IntKind.wrap .i64 (8 * (i : Int)) + (b : Int)) = ((8 * i + b : Nat) : Int) := by
     rw [show (8 : Int) = ((8 : Nat) : Int) from rfl, iH (by simp only [tL]; omega), vF (by simp only [tL]; omega)]
    have et : Int.tdiv ((8 * i + b : Nat) : Int) 26 = (((8 * i + b) / 26 : Nat) : Int) := rfl
    have em : Int.tmod ((8 * i + b : Nat) : Int) 26 = (((8 * i + b) % 26 : Nat) : Int) := rfl
    rw [e8, et, em, sI (by omega), nn, tn, yP (n := 5) (by omega), show decide ((((8 * i + b) % 26 : Nat) : Int) < 0) = false from decide_eq_false (by omega), tn]
    rw [show eqI ((1 : Nat) : Int) 1 = true from rfl]
    simp only [cond_true, cond_false]
    have hs : (8 * i + b) % 26 < 26 := Nat.mod_lt _ (by decide)
    have hp := Be5 hs
    have hm2 : Min.min ((8 * i + b) % 26) (IntKind.bits .u64) = (8 * i + b) % 26 := Nat.min_eq_left (by show _ ≤ 64; omega)
    have hw : IntKind.wrap .u64 (1 * 2 ^ ((8 * i + b) % 26)) = ((2 ^ ((8 * i + b) % 26) : Nat) : Int) := by
     rw [Int.one_mul, show (2 ^ ((8 * i + b) % 26) : Int) = ((2 ^ ((8 * i + b) % 26) : Nat) : Int) from by simp, AR1 (by simp only [tL]; omega)]
    have hg := (Aa2 (leV t % 2 ^ (8 * i + b))).get (by decide) ((8 * i + b) / 26)
    rw [hm2, hw, yA, Ai5 (by simp only [tL]; omega) (by simp only [tL]; omega), uS, Bd6 (by omega) hs (by
     rw [Nat.div_add_mod]; exact Nat.mod_lt _ (Nat.two_pow_pos _)), Nat.div_add_mod])
  (8 * i) (by omega)).1
 exact this
theorem Ai2 (t : List UInt8) (hl : t.length ≤ 17) (hn : leV t < 1361129467683753853853498429727072845824) : jV R t = some (cl (L5 (leV t)), ()) := by
 have hq : jV R t = _ := call (A2W R L t)
 have := (yI (fun (k : Nat) i => wN R L (List.replicate 5 0) (cl (L5 (leV t % 2 ^ k))) (bI t) (t.length : Nat) i) (fun _ k => k + 8) (fun i k => k = 8 * i) t.length
  (fun k => some (cl (L5 (leV t)), ()))
  (fun k hk => by
   subst hk
   have hq : wN R L (List.replicate 5 0) (cl (L5 (leV t % 2 ^ (8 * t.length)))) (bI t) (t.length : Nat) (t.length : Nat) = _ := round (by kernel_rfl) (AQ9 R L (List.replicate 5 0) _ (bI t) (t.length : Nat) (t.length : Nat))
   show wN R L (List.replicate 5 0) (cl (L5 (leV t % 2 ^ (8 * t.length)))) (bI t) (t.length : Nat) (t.length : Nat) = _
   rw [hq, A2M (Nat.le_refl _)]
   have := A48 t
   rw [show (256 : Nat) = 2 ^ 8 from rfl, ← Nat.pow_mul] at this
   rw [Nat.mod_eq_of_lt this]
   rfl)
  (fun k i hi hk => by
   subst hk
   refine ⟨?_, by omega⟩
   have hq : wN R L (List.replicate 5 0) (cl (L5 (leV t % 2 ^ (8 * i)))) (bI t) (t.length : Nat) (i : Nat) = _ := round (by kernel_rfl) (AQ9 R L (List.replicate 5 0) _ (bI t) (t.length : Nat) (i : Nat))
   show wN R L (List.replicate 5 0) (cl (L5 (leV t % 2 ^ (8 * i)))) (bI t) (t.length : Nat) (i : Nat) = wN R L (List.replicate 5 0) (cl (L5 (leV t % 2 ^ (8 * i + 8)))) (bI t) (t.length : Nat) ((i + 1 : Nat) : Int)
   rw [hq, A2B hi, nn, tn, yP (by rw [BF2]; exact hi), BM1]
   simp only [cond_true]
   exact BZ5 hl hn i hi _ _ _)
  0 rfl).1
 rw [hq]
 show wN R L (List.replicate 5 0) (List.replicate 5 0) (bI t) ((bI t).length : Nat) 0 = _
 rw [BF2]
 refine Eq.trans ?_ this
 rw [Nat.pow_zero, Nat.mod_one]
 rfl
end Go.Rf.S

end
section
namespace Go.Rf.S
set_option maxRecDepth 100000
def stP (t : List UInt8) (i : Nat) (o : List Nat) : List Nat :=
 let o1 := o.set (8 * i / 26) (o.getD (8 * i / 26) 0 + bt t i * 2 ^ (8 * i % 26) % 67108864)
 if 18 < 8 * i % 26 ∧ 8 * i / 26 < 4 then o1.set (8 * i / 26 + 1) (o1.getD (8 * i / 26 + 1) 0 + bt t i / 2 ^ (26 - 8 * i % 26)) else o1
theorem sh2 (b : Nat) : b * 16777216 % 67108864 + 67108864 * (b / 4) = b * 16777216 := by
 rw [show (67108864 : Nat) = 4 * 16777216 from rfl, Nat.mul_mod_mul_right]
 omega
theorem sh4 (b : Nat) : b * 4194304 % 67108864 + 67108864 * (b / 16) = b * 4194304 := by
 rw [show (67108864 : Nat) = 16 * 4194304 from rfl, Nat.mul_mod_mul_right]
 omega
theorem sh6 (b : Nat) : b * 1048576 % 67108864 + 67108864 * (b / 64) = b * 1048576 := by
 rw [show (67108864 : Nat) = 64 * 1048576 from rfl, Nat.mul_mod_mul_right]
 omega
theorem A8S (b0 b1 b2 b3 b4 b5 b6 b7 b8 b9 b10 b11 b12 b13 b14 b15 b16 x3 x6 x9 y3 y6 y9 : Nat) (e3 : x3 + 67108864 * y3 = b3 * 16777216) (e6 : x6 + 67108864 * y6 = b6 * 4194304) (e9 : x9 + 67108864 * y9 = b9 * 1048576) :
  val (0 + b0 * 1 + b1 * 256 + b2 * 65536 + x3) (0 + y3 + b4 * 64 + b5 * 16384 + x6) (0 + y6 + b7 * 16 + b8 * 4096 + x9) (0 + y9 + b10 * 4 + b11 * 1024 + b12 * 262144) (0 + b13 * 1 + b14 * 256 + b15 * 65536 + b16 * 16777216) =
  b0 + 256 * (b1 + 256 * (b2 + 256 * (b3 + 256 * (b4 + 256 * (b5 + 256 * (b6 + 256 * (b7 + 256 * (b8 + 256 * (b9 + 256 * (b10 + 256 * (b11 + 256 * (b12 + 256 * (b13 + 256 * (b14 + 256 * (b15 + 256 * (b16 + 256 * 0)))))))))))))))) := by
 unfold val
 omega
theorem A7y {b0 b1 b2 b3 b4 b5 b6 b7 b8 b9 b10 b11 b12 b13 b14 b15 b16 : Nat} (h0 : b0 < 256) (h1 : b1 < 256) (h2 : b2 < 256) (h3 : b3 < 256) (h4 : b4 < 256) (h5 : b5 < 256) (h6 : b6 < 256) (h7 : b7 < 256) (h8 : b8 < 256) (h9 : b9 < 256) (h10 : b10 < 256) (h11 : b11 < 256) (h12 : b12 < 256) (h13 : b13 < 256) (h14 : b14 < 256) (h15 : b15 < 256) (h16 : b16 < 4) :
    [0 + b0 * 1 % 67108864 + b1 * 256 % 67108864 + b2 * 65536 % 67108864 + b3 * 16777216 % 67108864,
     0 + b3 / 4 + b4 * 64 % 67108864 + b5 * 16384 % 67108864 + b6 * 4194304 % 67108864,
     0 + b6 / 16 + b7 * 16 % 67108864 + b8 * 4096 % 67108864 + b9 * 1048576 % 67108864,
     0 + b9 / 64 + b10 * 4 % 67108864 + b11 * 1024 % 67108864 + b12 * 262144 % 67108864,
     0 + b13 * 1 % 67108864 + b14 * 256 % 67108864 + b15 * 65536 % 67108864 + b16 * 16777216 % 67108864] =
    L5 (b0 + 256 * (b1 + 256 * (b2 + 256 * (b3 + 256 * (b4 + 256 * (b5 + 256 * (b6 + 256 * (b7 + 256 * (b8 + 256 * (b9 + 256 * (b10 + 256 * (b11 + 256 * (b12 + 256 * (b13 + 256 * (b14 + 256 * (b15 + 256 * (b16 + 256 * 0))))))))))))))))) := by
  have v : val (0 + b0 * 1 % 67108864 + b1 * 256 % 67108864 + b2 * 65536 % 67108864 + b3 * 16777216 % 67108864) (0 + b3 / 4 + b4 * 64 % 67108864 + b5 * 16384 % 67108864 + b6 * 4194304 % 67108864)
     (0 + b6 / 16 + b7 * 16 % 67108864 + b8 * 4096 % 67108864 + b9 * 1048576 % 67108864) (0 + b9 / 64 + b10 * 4 % 67108864 + b11 * 1024 % 67108864 + b12 * 262144 % 67108864)
     (0 + b13 * 1 % 67108864 + b14 * 256 % 67108864 + b15 * 65536 % 67108864 + b16 * 16777216 % 67108864) =
    b0 + 256 * (b1 + 256 * (b2 + 256 * (b3 + 256 * (b4 + 256 * (b5 + 256 * (b6 + 256 * (b7 + 256 * (b8 + 256 * (b9 + 256 * (b10 + 256 * (b11 + 256 * (b12 + 256 * (b13 + 256 * (b14 + 256 * (b15 + 256 * (b16 + 256 * 0)))))))))))))))) := by
    rw [Nat.mod_eq_of_lt (a := b0 * 1) (by omega), Nat.mod_eq_of_lt (a := b1 * 256) (by omega), Nat.mod_eq_of_lt (a := b2 * 65536) (by omega), Nat.mod_eq_of_lt (a := b4 * 64) (by omega), Nat.mod_eq_of_lt (a := b5 * 16384) (by omega), Nat.mod_eq_of_lt (a := b7 * 16) (by omega), Nat.mod_eq_of_lt (a := b8 * 4096) (by omega), Nat.mod_eq_of_lt (a := b10 * 4) (by omega), Nat.mod_eq_of_lt (a := b11 * 1024) (by omega), Nat.mod_eq_of_lt (a := b12 * 262144) (by omega), Nat.mod_eq_of_lt (a := b13 * 1) (by omega), Nat.mod_eq_of_lt (a := b14 * 256) (by omega), Nat.mod_eq_of_lt (a := b15 * 65536) (by omega), Nat.mod_eq_of_lt (a := b16 * 16777216) (by omega)]
    exact A8S _ _ _ _ _ _ _ _ _ _ _ _ _ _ _ _ _ _ _ _ _ _ _ (sh2 b3) (sh4 b6) (sh6 b9)
  rw [← v]
  refine (A98 ?_ ?_ ?_ ?_ ?_).symm <;> omega
theorem Bg8 {t : List UInt8} (h : t.length = 17) : leV t = bt t 0 + 256 * (bt t 1 + 256 * (bt t 2 + 256 * (bt t 3 + 256 * (bt t 4 + 256 * (bt t 5 + 256 * (bt t 6 + 256 * (bt t 7 + 256 * (bt t 8 + 256 * (bt t 9 + 256 * (bt t 10 + 256 * (bt t 11 + 256 * (bt t 12 + 256 * (bt t 13 + 256 * (bt t 14 + 256 * (bt t 15 + 256 * (bt t 16 + 256 * 0)))))))))))))))) := by
 match t, h with
 | [a, b, c, d, e, f, g, h, i, j, k, l, m, n, o, p, q], _ => rfl
theorem A2S (t : List UInt8) (hl : t.length = 17) (h16 : bt t 16 < 4) : lH R t = some (cl (L5 (leV t)), ()) := by
 have hq : lH R t = _ := call (A0d R L t)
 have := (yI (fun (o : List Nat) i => vD R L t (List.replicate 5 0) (cl o) i) (stP t) (fun i o => o.length = 5 ∧ Bd (1 + i * 134217728) o) 17
  (fun o => some (cl o, ()))
  (fun o hs => by
   have hq : vD R L t (List.replicate 5 0) (cl o) (17 : Nat) = _ := round (by kernel_rfl) (AH8 R L t (List.replicate 5 0) (cl o) (17 : Nat))
   show vD R L t (List.replicate 5 0) (cl o) (17 : Nat) = _
   rw [hq, show decide (((17 : Nat) : Int) < 17) = false from by decide]
   rfl)
  (fun o i hi hs => by
   have hq : vD R L t (List.replicate 5 0) (cl o) (i : Nat) = _ := round (by kernel_rfl) (AH8 R L t (List.replicate 5 0) (cl o) (i : Nat))
   have hb := sT t i
   have hpos : 0 < 1 + i * 134217728 := by omega
   have hg := hs.2.get hpos (8 * i / 26)
   have hg1 := hs.2.get hpos (8 * i / 26 + 1)
   have hm := Nat.mod_lt (bt t i * 2 ^ (8 * i % 26)) (show 0 < 67108864 by decide)
   have hd : bt t i / 2 ^ (26 - 8 * i % 26) ≤ bt t i := Nat.div_le_self _ _
   have hmono : Bd (1 + (i + 1) * 134217728) o := fun z hz => Nat.lt_of_lt_of_le (hs.2 z hz) (by omega)
   refine ⟨?_, ?_⟩
   ·show vD R L t (List.replicate 5 0) (cl o) (i : Nat) = _
    have e8 : IntKind.wrap .i64 (8 * (i : Int)) = ((8 * i : Nat) : Int) := by rw [show (8 : Int) = ((8 : Nat) : Int) from rfl, iH (by simp only [tL]; omega)]
    have et : Int.tdiv ((8 * i : Nat) : Int) 26 = ((8 * i / 26 : Nat) : Int) := rfl
    have em : Int.tmod ((8 * i : Nat) : Int) 26 = ((8 * i % 26 : Nat) : Int) := rfl
    have hs26 : 8 * i % 26 < 26 := Nat.mod_lt _ (by decide)
    have hp := Be5 hs26
    have hmul : bt t i * 2 ^ (8 * i % 26) ≤ 255 * 33554432 := Nat.mul_le_mul (by omega) hp.2
    have hmn : Min.min (8 * i % 26) (IntKind.bits .i64) = 8 * i % 26 := Nat.min_eq_left (by show _ ≤ 64; omega)
    have hw0 : IntKind.wrap .i64 ((UInt8.toNat (t.getD i 0) : Nat) : Int) = ((bt t i : Nat) : Int) := sI (by show bt t i < _; omega)
    have hsh : IntKind.wrap .i64 (((bt t i : Nat) : Int) * 2 ^ (8 * i % 26)) = ((bt t i * 2 ^ (8 * i % 26) : Nat) : Int) := by rw [A6P, sI (by omega)]
    rw [hq, show decide ((i : Int) < 17) = true from decide_eq_true (by omega), e8, et, em, sI (n := 8 * i / 26) (by omega)]
    simp only [nn, tn]
    rw [yP (n := t.length) (by omega), yP (n := 5) (show 8 * i / 26 < 5 by omega), show decide (((8 * i % 26 : Nat) : Int) < 0) = false from decide_eq_false (by omega), hmn, hw0, hsh, m26 (by simp only [tL]; omega) (by decide), yA, vF (by simp only [tL]; omega), uS, zB (i := i) (by omega)]
    simp only [cond_true, cond_false]
    unfold stP
    by_cases h18 : 18 < 8 * i % 26
    ·rw [show decide ((18 : Int) < ((8 * i % 26 : Nat) : Int)) = true from decide_eq_true (by omega)]
     simp only [cond_true]
     by_cases h4 : 8 * i / 26 < 4
     ·rw [show decide (((8 * i / 26 : Nat) : Int) < 4) = true from decide_eq_true (by omega), zB (i := 8 * i / 26) (by omega)]
      simp only [cond_true, nn, tn]
      have e26 : IntKind.wrap .i64 (26 - ((8 * i % 26 : Nat) : Int)) = ((26 - 8 * i % 26 : Nat) : Int) := by rw [zO (by omega) (by omega)]; omega
      have hmn2 : Min.min (26 - 8 * i % 26) (IntKind.bits .i64) = 26 - 8 * i % 26 := Nat.min_eq_left (by show _ ≤ 64; omega)
      rw [yP (n := 5) (show 8 * i / 26 + 1 < 5 by omega), e26, show decide (((26 - 8 * i % 26 : Nat) : Int) < 0) = false from decide_eq_false (by omega), tn, hmn2, kP, yA, oF (by omega), vF (by simp only [tL]; omega), uS, if_pos ⟨h18, h4⟩]
      simp only [cond_true, cond_false]
      first | done | rw [oF (by omega)]
     ·rw [show decide (((8 * i / 26 : Nat) : Int) < 4) = false from decide_eq_false (by omega), if_neg (fun h => h4 h.2)]
      rfl
    ·rw [show decide ((18 : Int) < ((8 * i % 26 : Nat) : Int)) = false from decide_eq_false (by omega), if_neg (fun h => h18 h.1)]
     rfl
   ·unfold stP
    simp only
    split
    ·exact ⟨by simp [hs.1], (hmono.set (by omega)).set (by rw [oF (by omega)]; omega)⟩
    ·exact ⟨by simp [hs.1], hmono.set (by omega)⟩)
  (List.replicate 5 0) ⟨rfl, Bd.rep (by omega)⟩).1
 rw [hq]
 refine this.trans ?_
 rw [Bg8 hl, ← A7y (sT _ _) (sT _ _) (sT _ _) (sT _ _) (sT _ _) (sT _ _) (sT _ _) (sT _ _) (sT _ _) (sT _ _) (sT _ _) (sT _ _) (sT _ _) (sT _ _) (sT _ _) (sT _ _) h16]
 kernel_rfl
end Go.Rf.S

end
section
namespace Go.Rf.S
set_option maxRecDepth 100000
def ADD (x y : List Nat) : List Nat := [x.getD 0 0 + y.getD 0 0, x.getD 1 0 + y.getD 1 0, x.getD 2 0 + y.getD 2 0, x.getD 3 0 + y.getD 3 0, x.getD 4 0 + y.getD 4 0]
def BT8 (y : List Nat) (i : Nat) (x : List Nat) : List Nat := x.set i (x.getD i 0 + y.getD i 0)
theorem BG9 (x y : List Nat) (h : x.length = 5) : wE (BT8 y) 5 0 x = ADD x y := by
 match x, h with
 | [a, b, c, d, e], _ => rfl
theorem BF8 (x y : List Nat) : vl (ADD x y) = vl x + vl y := by
 show val _ _ _ _ _ = val _ _ _ _ _ + val _ _ _ _ _
 unfold val
 simp only [ADD, List.getD_cons_zero, List.getD_cons_succ]
 omega
theorem A7x {x y : List Nat} (hx : Bd 67108864 x) (hy : Bd 67108864 y) : Bd 134217728 (ADD x y) := by
 have g := fun i => hx.get (by decide) i
 have k := fun i => hy.get (by decide) i
 have g0 := g 0; have g1 := g 1; have g2 := g 2; have g3 := g 3; have g4 := g 4
 have k0 := k 0; have k1 := k 1; have k2 := k 2; have k3 := k 3; have k4 := k 4
 exact bd5 (by omega) (by omega) (by omega) (by omega) (by omega)
def BZ0 (x0 : List Nat) (i : Nat) (x : List Nat) : Prop := x.length = 5 ∧ ∀ j, i ≤ j → x.getD j 0 = x0.getD j 0
theorem BZ0.step {x0 y x : List Nat} {i : Nat} (h : BZ0 x0 i x) : BZ0 x0 (i + 1) (BT8 y i x) := ⟨by simp [BT8, h.1], fun j hj => by
 unfold BT8
 rw [oF (by omega)]; exact h.2 j (by omega)⟩
theorem A9b (x y : List Nat) (hl : x.length = 5) (hx : Bd 67108864 x) (hy : Bd 67108864 y) : iD R (cl x) (cl y) = some (cl (CAR (ADD x y)), ()) := by
 have hq : iD R (cl x) (cl y) = _ := call (Al1 R L (cl x) (cl y))
 have := (yI (fun (z : List Nat) i => vO R L (cl z) (cl y) (List.replicate 5 0) i) (BT8 y) (BZ0 x) 5
  (fun z => (xZ R (cl z)).bind fun r0 => some (r0.1, ()))
  (fun z hs => by
   have hq : vO R L (cl z) (cl y) (List.replicate 5 0) (5 : Nat) = _ := round (by kernel_rfl) (aO R L (cl z) (cl y) (List.replicate 5 0) (5 : Nat))
   show vO R L (cl z) (cl y) (List.replicate 5 0) (5 : Nat) = _
   rw [hq, show decide (((5 : Nat) : Int) < 5) = false from by decide]
   rfl)
  (fun z i hi hs => by
   have hq : vO R L (cl z) (cl y) (List.replicate 5 0) (i : Nat) = _ := round (by kernel_rfl) (aO R L (cl z) (cl y) (List.replicate 5 0) (i : Nat))
   refine ⟨?_, hs.step⟩
   show vO R L (cl z) (cl y) (List.replicate 5 0) (i : Nat) = _
   have hg := hx.get (by decide) i
   have hk := hy.get (by decide) i
   have he := hs.2 i (Nat.le_refl _)
   rw [hq, show decide ((i : Int) < 5) = true from decide_eq_true (by omega)]
   simp only [nn, tn]
   rw [yP (n := 5) hi, yA, yA, vF (by simp only [tL]; omega), uS, zB (i := i) (by omega)]
   rfl)
  x ⟨hl, fun _ _ => rfl⟩).1
 rw [hq]
 refine this.trans ?_
 rw [BG9 _ _ hl]
 show (xZ R (cl (ADD x y))).bind _ = _
 rw [AM3 _ rfl (fun z hz => Nat.lt_of_lt_of_le (A7x hx hy z hz) (by decide))]
 rfl
theorem BB3 (x y : List Nat) (hl : x.length = 5) (hx : Bd 67108864 x) (hy : Bd 67108864 y) (v0 v1 : List UInt8) (v5 : List Int) (v7 : Int) :
  tC R L v0 v1 v5 (cl x) v7 (cl y) (0 : Int) = (lC R (cl (ADD x y)) v5).bind fun r0 => tW R L v0 v1 v5 r0.1 (IntKind.wrap .i64 (v7 + 16)) := by
 have := (yI (fun (z : List Nat) i => tC R L v0 v1 v5 (cl z) v7 (cl y) i) (BT8 y) (BZ0 x) 5
  (fun z => (lC R (cl z) v5).bind fun r0 => tW R L v0 v1 v5 r0.1 (IntKind.wrap .i64 (v7 + 16)))
  (fun z hs => by
   have hq : tC R L v0 v1 v5 (cl z) v7 (cl y) (5 : Nat) = _ := round (by kernel_rfl) (AW9 R L v0 v1 v5 (cl z) v7 (cl y) (5 : Nat))
   show tC R L v0 v1 v5 (cl z) v7 (cl y) (5 : Nat) = _
   rw [hq, show decide (((5 : Nat) : Int) < 5) = false from by decide]
   rfl)
  (fun z i hi hs => by
   have hq : tC R L v0 v1 v5 (cl z) v7 (cl y) (i : Nat) = _ := round (by kernel_rfl) (AW9 R L v0 v1 v5 (cl z) v7 (cl y) (i : Nat))
   refine ⟨?_, hs.step⟩
   show tC R L v0 v1 v5 (cl z) v7 (cl y) (i : Nat) = _
   have hg := hx.get (by decide) i
   have hk := hy.get (by decide) i
   have he := hs.2 i (Nat.le_refl _)
   rw [hq, show decide ((i : Int) < 5) = true from decide_eq_true (by omega)]
   simp only [nn, tn]
   rw [yP (n := 5) hi, yA, yA, vF (by simp only [tL]; omega), uS, zB (i := i) (by omega)]
   rfl)
  x ⟨hl, fun _ _ => rfl⟩).1
 refine this.trans ?_
 rw [BG9 _ _ hl]
def RED (x : List Nat) : List Nat := if PP ≤ vl x then L5 (vl x - PP) else x
theorem BG2 {x : List Nat} (h : Can x) : RED x = L5 (if PP ≤ vl x then vl x - PP else vl x) := by
 unfold RED
 split
 ·rfl
 ·have g := fun i => h.b.get (by decide) i
  exact (A5L h.l).trans (A98 (g 0) (g 1) (g 2) (g 3) (g 4)).symm
theorem BY7 {x : List Nat} (h : Can x) : vl x < 1361129467683753853853498429727072845824 := by
 have g := fun i => h.b.get (by decide) i
 exact BV6 (g 0) (g 1) (g 2) (g 3) (g 4)
def lst : List Nat := [67108859, 67108863, 67108863, 67108863, 67108863]
theorem A9o (x : List Nat) (hx : Can x) (v2 : List Int) (i : Nat) (hi : i < 5) : xJ R L (cl x) v2 (cl lst) (i : Int) =
  if x.getD i 0 = lst.getD i 0 then xJ R L (cl x) v2 (cl lst) ((i : Int) - 1) else if x.getD i 0 < lst.getD i 0 then some (cl x, ()) else zU R L (cl x) v2 (cl lst) 0 := by
 have hq : xJ R L (cl x) v2 (cl lst) (i : Int) = _ := round (by kernel_rfl) (fS R L (cl x) v2 (cl lst) (i : Int))
 rw [hq, show decide ((0 : Int) ≤ (i : Int)) = true from decide_eq_true (by omega), zO (n := (i : Int) - 1) (by omega) (by omega)]
 simp only [nn, tn]
 rw [yP (n := 5) hi, yA, yA, oJ]
 simp only [cond_true]
 by_cases h : x.getD i 0 = lst.getD i 0
 ·rw [if_pos h, h]; simp
 ·rw [if_neg h, show decide (((x.getD i 0 : Nat) : Int) = ((lst.getD i 0 : Nat) : Int)) = false from decide_eq_false (by omega)]
  simp only [Bool.not_false, cond_true]
  by_cases h2 : x.getD i 0 < lst.getD i 0
  ·rw [if_pos h2, show decide (((x.getD i 0 : Nat) : Int) < ((lst.getD i 0 : Nat) : Int)) = true from decide_eq_true (by omega)]; rfl
  ·rw [if_neg h2, show decide (((x.getD i 0 : Nat) : Int) < ((lst.getD i 0 : Nat) : Int)) = false from decide_eq_false (by omega)]; rfl
theorem BZ3 (l : List Nat) (a b c d e : Nat) : wE (fun i (z : List Nat) => z.set i (z.getD i 0 - l.getD i 0)) 5 0 [a, b, c, d, e] = [a - l.getD 0 0, b - l.getD 1 0, c - l.getD 2 0, d - l.getD 3 0, e - l.getD 4 0] := rfl
theorem BJ8 (a : Nat) (ha : a < 67108864) (h : 67108859 ≤ a) (v2 : List Int) : zU R L (cl [a, 67108863, 67108863, 67108863, 67108863]) v2 (cl lst) (0 : Int) = some (cl [a - 67108859, 0, 0, 0, 0], ()) := by
 have := (yI (fun (z : List Nat) i => zU R L (cl z) v2 (cl lst) i) (fun i z => z.set i (z.getD i 0 - lst.getD i 0)) (fun i z => z.length = 5 ∧ ∀ j, i ≤ j → z.getD j 0 = [a, 67108863, 67108863, 67108863, 67108863].getD j 0) 5
  (fun z => some (cl z, ()))
  (fun z hs => by
   have hq : zU R L (cl z) v2 (cl lst) (5 : Nat) = _ := round (by kernel_rfl) (fF R L (cl z) v2 (cl lst) (5 : Nat))
   show zU R L (cl z) v2 (cl lst) (5 : Nat) = _
   rw [hq, show decide (((5 : Nat) : Int) < 5) = false from by decide]
   rfl)
  (fun z i hi hs => by
   have hq : zU R L (cl z) v2 (cl lst) (i : Nat) = _ := round (by kernel_rfl) (fF R L (cl z) v2 (cl lst) (i : Nat))
   refine ⟨?_, by simp [hs.1], fun j hj => by rw [oF (by omega)]; exact hs.2 j (by omega)⟩
   show zU R L (cl z) v2 (cl lst) (i : Nat) = _
   have he := hs.2 i (Nat.le_refl _)
   have hge : lst.getD i 0 ≤ z.getD i 0 ∧ z.getD i 0 < 67108864 := by
    rw [he]
    match i, hi with
    | 0, _ => exact ⟨h, ha⟩
    | 1, _ => exact ⟨Nat.le_refl 67108863, (by decide : (67108863 : Nat) < 67108864)⟩
    | 2, _ => exact ⟨Nat.le_refl 67108863, (by decide : (67108863 : Nat) < 67108864)⟩
    | 3, _ => exact ⟨Nat.le_refl 67108863, (by decide : (67108863 : Nat) < 67108864)⟩
    | 4, _ => exact ⟨Nat.le_refl 67108863, (by decide : (67108863 : Nat) < 67108864)⟩
   rw [hq, show decide ((i : Int) < 5) = true from decide_eq_true (by omega)]
   simp only [nn, tn]
   rw [yP (n := 5) hi, yA, yA, show ((z.getD i 0 : Nat) : Int) - ((lst.getD i 0 : Nat) : Int) = ((z.getD i 0 - lst.getD i 0 : Nat) : Int) from by omega, AR1 (by simp only [tL]; omega), uS, zB (i := i) (by omega)]
   simp only [cond_true])
  [a, 67108863, 67108863, 67108863, 67108863] ⟨rfl, fun _ _ => rfl⟩).1
 refine this.trans ?_
 have := BZ3 lst a 67108863 67108863 67108863 67108863
 rw [this, show lst.getD 0 0 = 67108859 from rfl, show lst.getD 1 0 = 67108863 from rfl, show lst.getD 2 0 = 67108863 from rfl, show lst.getD 3 0 = 67108863 from rfl, show lst.getD 4 0 = 67108863 from rfl, Nat.sub_self]
theorem A24 (x : List Nat) (hx : Can x) : nL R (cl x) = some (cl (RED x), ()) := by
 have hq : nL R (cl x) = _ := call (AW1 R L (cl x))
 rw [hq, AM3 x hx.l (fun z hz => Nat.lt_of_lt_of_le (hx.b z hz) (by decide)), BI5 hx]
 simp only [Option.bind_some]
 have g := fun i => hx.b.get (by decide) i
 have hl := A5L hx.l
 have r := fun i hi => A9o x hx (List.replicate 5 0) i hi
 show xJ R L (cl x) (List.replicate 5 0) (cl lst) ((4 : Nat) : Int) = _
 generalize ha : x.getD 0 0 = a at *
 generalize hb : x.getD 1 0 = b at *
 generalize hc : x.getD 2 0 = c at *
 generalize hd : x.getD 3 0 = d at *
 generalize he : x.getD 4 0 = e at *
 have ga : a < 67108864 := ha ▸ g 0
 have gb : b < 67108864 := hb ▸ g 1
 have gc : c < 67108864 := hc ▸ g 2
 have gd : d < 67108864 := hd ▸ g 3
 have ge : e < 67108864 := he ▸ g 4
 have hv : vl x = val a b c d e := by rw [hl]; rfl
 have small : val a b c d e < PP → some (cl x, ()) = some (cl (RED x), ()) := fun h => by
  unfold RED
  rw [if_neg (by rw [hv]; omega)]
 have end_ : ∀ z v2 v3, xJ R L z v2 v3 (-1) = zU R L z v2 v3 0 := fun z v2 v3 => by
  have hq : xJ R L z v2 v3 (-1) = _ := round (by kernel_rfl) (fS R L z v2 v3 (-1))
  rw [hq]; rfl
 rw [r 4 (by decide), he]
 show (if e = 67108863 then _ else if e < 67108863 then _ else _) = _
 by_cases h4 : e = 67108863
 ·rw [if_pos h4, show ((4 : Nat) : Int) - 1 = ((3 : Nat) : Int) from rfl, r 3 (by decide), hd]
  show (if d = 67108863 then _ else if d < 67108863 then _ else _) = _
  by_cases h3 : d = 67108863
  ·rw [if_pos h3, show ((3 : Nat) : Int) - 1 = ((2 : Nat) : Int) from rfl, r 2 (by decide), hc]
   show (if c = 67108863 then _ else if c < 67108863 then _ else _) = _
   by_cases h2 : c = 67108863
   ·rw [if_pos h2, show ((2 : Nat) : Int) - 1 = ((1 : Nat) : Int) from rfl, r 1 (by decide), hb]
    show (if b = 67108863 then _ else if b < 67108863 then _ else _) = _
    by_cases h1 : b = 67108863
    ·rw [if_pos h1, show ((1 : Nat) : Int) - 1 = ((0 : Nat) : Int) from rfl, r 0 (by decide), ha, show ((0 : Nat) : Int) - 1 = -1 from rfl, end_]
     show (if a = 67108859 then _ else if a < 67108859 then _ else _) = _
     have big : 67108859 ≤ a → zU R L (cl x) (List.replicate 5 0) (cl lst) 0 = some (cl (RED x), ()) := fun h => by
      have hx' : x = [a, 67108863, 67108863, 67108863, 67108863] := by rw [hl, h1, h2, h3, h4]
      have hv2 : vl x = PP + (a - 67108859) := by rw [hv, h1, h2, h3, h4]; unfold val PP; omega
      have hr : RED x = [a - 67108859, 0, 0, 0, 0] := by
       unfold RED
       rw [if_pos (by omega), hv2, Nat.add_sub_cancel_left]
       have := A98 (a := a - 67108859) (b := 0) (c := 0) (d := 0) (e := 0) (by omega) (by decide) (by decide) (by decide) (by decide)
       rw [← this, show val (a - 67108859) 0 0 0 0 = a - 67108859 from by unfold val; omega]
      rw [hr, hx']
      exact BJ8 a ga h _
     by_cases h0 : a = 67108859
     ·rw [if_pos h0]; exact big (by omega)
     ·rw [if_neg h0]
      by_cases h0' : a < 67108859
      ·rw [if_pos h0']; exact small (by unfold val PP; omega)
      ·rw [if_neg h0']; exact big (by omega)
    ·rw [if_neg h1, if_pos (by omega)]; exact small (by unfold val PP; omega)
   ·rw [if_neg h2, if_pos (by omega)]; exact small (by unfold val PP; omega)
  ·rw [if_neg h3, if_pos (by omega)]; exact small (by unfold val PP; omega)
 ·rw [if_neg h4, if_pos (by omega)]; exact small (by unfold val PP; omega)
end Go.Rf.S

end
section
namespace Go.Rf.S
set_option maxRecDepth 100000
theorem BO3 (a b c d e : Nat) : wE BY6 4 0 [a, b, c, d, e] = [a % 67108864, (b + a / 67108864) % 67108864, (c + (b + a / 67108864) / 67108864) % 67108864, (d + (c + (b + a / 67108864) / 67108864) / 67108864) % 67108864, e + (d + (c + (b + a / 67108864) / 67108864) / 67108864) / 67108864] := rfl
theorem BB2 (x : List Nat) (hx : Can x) : bQ R (cl x) = some (cl (RED x), ()) := by
 have hq : bQ R (cl x) = _ := call (A2d R L (cl x))
 have g := fun i => hx.b.get (by decide) i
 have g0 := g 0; have g1 := g 1; have g2 := g 2; have g3 := g 3; have g4 := g 4
 have hl := A5L hx.l
 have e0 : (cl x).set (Int.toNat 0) (IntKind.wrap .i64 ((cl x).getD (Int.toNat 0) 0 + 5)) = cl (x.set 0 (x.getD 0 0 + 5)) := by
  rw [show Int.toNat 0 = 0 from rfl, yA, show (5 : Int) = ((5 : Nat) : Int) from rfl, vF (by simp only [tL]; omega), uS]
 have := (yI (fun (z : List Nat) i => sC R L (cl x) (List.replicate 5 0) (cl z) i) BY6
  (fun i z => z.length = 5 ∧ Bd (134217728 + i * 1099511627776) z) 4
  (fun z => cond (eqI ((z.getD 4 0 / 67108864 : Nat) : Int) 0) (some (cl x, ())) (some (cl (z.set 4 (z.getD 4 0 % 67108864)), ())))
  (fun z hs => by
   obtain ⟨h1, h2⟩ := hs
   have hq : sC R L (cl x) (List.replicate 5 0) (cl z) (4 : Nat) = _ := round (by kernel_rfl) (AP8 R L (cl x) (List.replicate 5 0) (cl z) (4 : Nat))
   have hg4 := h2.get (by decide) 4
   show sC R L (cl x) (List.replicate 5 0) (cl z) (4 : Nat) = _
   rw [hq, show decide (((4 : Nat) : Int) < 4) = false from by decide]
   simp only [cond_false]
   have ed : Int.fdiv ((cl z).getD 4 0) (2 ^ Min.min (Int.toNat 26) (IntKind.bits .i64)) = ((z.getD 4 0 / 67108864 : Nat) : Int) := by rw [yA]; exact kP _ 26
   rw [show Int.toNat 4 = 4 from rfl, ed, yA, m26 (by simp only [tL]; omega) (by decide), uS])
  (fun x' i hi hs => by
   obtain ⟨h1, h2⟩ := hs
   have hq : sC R L (cl x) (List.replicate 5 0) (cl x') (i : Nat) = _ := round (by kernel_rfl) (AP8 R L (cl x) (List.replicate 5 0) (cl x') (i : Nat))
   have hpos : 0 < 134217728 + i * 1099511627776 := by omega
   have hg := h2.get hpos i
   have hg1 := h2.get hpos (i + 1)
   have hmono : Bd (134217728 + (i + 1) * 1099511627776) x' := fun y hy => Nat.lt_of_lt_of_le (h2 y hy) (by omega)
   refine ⟨?_, by simp [BY6, h1], (hmono.set (by omega)).set (Nat.lt_of_lt_of_le (Nat.mod_lt _ (by decide)) (by omega))⟩
   show sC R L (cl x) (List.replicate 5 0) (cl x') (i : Nat) = _
   have ed : Int.fdiv ((cl x').getD i 0) (2 ^ Min.min (Int.toNat 26) (IntKind.bits .i64)) = ((x'.getD i 0 / 67108864 : Nat) : Int) := by rw [yA]; exact kP _ 26
   rw [hq, show decide ((i : Int) < 4) = true from decide_eq_true (by omega), zB (by omega)]
   simp only [nn, tn]
   rw [yP (n := 5) (show i + 1 < 5 by omega), yP (n := 5) (show i < 5 by omega), ed, yA, vF (by simp only [tL]; omega), uS, yA, oF (by omega), m26 (by simp only [tL]; omega) (by decide), uS]
   simp only [cond_true]
   rfl)
  (x.set 0 (x.getD 0 0 + 5)) ⟨by simp [hx.l], Bd.set (fun y hy => Nat.lt_of_lt_of_le (hx.b y hy) (by decide)) (by omega)⟩).1
 rw [hq, e0]
 refine this.trans ?_
 generalize ha : x.getD 0 0 = a at *
 generalize hb : x.getD 1 0 = b at *
 generalize hc : x.getD 2 0 = c at *
 generalize hd : x.getD 3 0 = d at *
 generalize he : x.getD 4 0 = e at *
 have hset : x.set 0 (a + 5) = [a + 5, b, c, d, e] := by rw [hl]; rfl
 have hv : vl x = val a b c d e := by rw [hl]; rfl
 rw [hset, BO3]
 generalize h1 : b + (a + 5) / 67108864 = b1
 generalize h2 : c + b1 / 67108864 = c1
 generalize h3 : d + c1 / 67108864 = d1
 generalize h4 : e + d1 / 67108864 = e1
 show cond (eqI ((e1 / 67108864 : Nat) : Int) 0) _ (some (cl [(a + 5) % 67108864, b1 % 67108864, c1 % 67108864, d1 % 67108864, e1 % 67108864], ())) = _
 unfold RED
 by_cases hz : e1 / 67108864 = 0
 ·rw [hz, if_neg (by rw [hv]; unfold val PP; omega)]; rfl
 ·have h1' : e1 / 67108864 = 1 := by omega
  rw [h1', if_pos (by rw [hv]; unfold val PP; omega)]
  have hm : val ((a + 5) % 67108864) (b1 % 67108864) (c1 % 67108864) (d1 % 67108864) (e1 % 67108864) = vl x - PP := by
   rw [hv]; unfold val PP; omega
  rw [← hm, A98 (Nat.mod_lt _ (by decide)) (Nat.mod_lt _ (by decide)) (Nat.mod_lt _ (by decide)) (Nat.mod_lt _ (by decide)) (Nat.mod_lt _ (by decide))]
  rfl
theorem BX8 (v q s : Nat) (hq : q < 5) (hs : s < 26) : (L5 v).getD q 0 / 2 ^ s % 2 = v / 2 ^ (26 * q + s) % 2 := by
 have e : (L5 v).getD q 0 = v / 2 ^ (26 * q) % 67108864 := by
  match q, hq with
  | 0, _ => show v % 67108864 = v / 2 ^ 0 % 67108864; rw [Nat.pow_zero, Nat.div_one]
  | 1, _ => rfl
  | 2, _ => rfl
  | 3, _ => rfl
  | 4, _ => rfl
 rw [e, Nat.pow_add, ← Nat.div_div_eq_div_mul]
 generalize v / 2 ^ (26 * q) = m
 rw [show (67108864 : Nat) = 2 ^ s * (2 * 2 ^ (25 - s)) by rw [← Nat.pow_succ', ← Nat.pow_add, show s + (25 - s).succ = 26 by omega], Nat.mod_mul_right_div_self, Nat.mod_mul_right_mod]
theorem BX3 {m b x : Nat} (h : m < 2 ^ b) (hx : x < 2) : m ||| x * 2 ^ b = m + x * 2 ^ b := by
 rcases (show x = 0 ∨ x = 1 by omega) with rfl | rfl
 ·simp
 ·rw [Nat.one_mul]; exact A7N h
def stG (v : Nat) (k : List UInt8) (i : Nat) (s : List Nat × Nat) : List Nat × Nat :=
 (s.1 ++ [(s.2 + (v / 2 ^ (8 * i) % 256 + bt k i)) % 256], (s.2 + (v / 2 ^ (8 * i) % 256 + bt k i)) / 256)
def Bb3 (i : Nat) (s : List Nat × Nat) : Prop := s.1.length = i ∧ s.2 ≤ 2
theorem Bb3.step {v i : Nat} {k : List UInt8} {s : List Nat × Nat} (h : Bb3 i s) : Bb3 (i + 1) (stG v k i s) := by
 have hb := sT k i
 have hm := Nat.mod_lt (v / 2 ^ (8 * i)) (show 0 < 256 by decide)
 have h2 := h.2
 refine ⟨by simp [stG, h.1], ?_⟩
 show (s.2 + (v / 2 ^ (8 * i) % 256 + bt k i)) / 256 ≤ 2
 omega
def Bc7 (v : Nat) (k : List UInt8) : List UInt8 := (wE (stG v k) 16 0 ([], 0)).1.map fun n => UInt8.ofNat n
theorem BQ3 (v : Nat) (k : List UInt8) (hk : k.length = 16) (i : Nat) (hi : i < 16) (o : List Int) (ho : o.length = 16) (c : Nat) (hc : c ≤ 2) :
  xP R L k (cl (L5 v)) o (c : Int) (i : Int) (0 : Int) (16 : Nat) (i : Int) (0 : Int) =
   yZ R L k (cl (L5 v)) (o.set i (((c + (v / 2 ^ (8 * i) % 256 + bt k i)) % 256 : Nat) : Int)) (((c + (v / 2 ^ (8 * i) % 256 + bt k i)) / 256 : Nat) : Int) (16 : Nat) ((i + 1 : Nat) : Int) := by
 have := (yI (fun (w : Nat) b => xP R L k (cl (L5 v)) o (c : Int) (i : Int) (w : Int) (16 : Nat) (i : Int) b) (fun b _ => v / 2 ^ (8 * i) % 2 ^ (b + 1)) (fun b w => w = v / 2 ^ (8 * i) % 2 ^ b) 8
  (fun w => yZ R L k (cl (L5 v)) (o.set i (((c + (w + bt k i)) % 256 : Nat) : Int)) (((c + (w + bt k i)) / 256 : Nat) : Int) (16 : Nat) ((i + 1 : Nat) : Int))
  (fun w hw => by
   have hq : xP R L k (cl (L5 v)) o (c : Int) (i : Int) (w : Int) (16 : Nat) (i : Int) (8 : Nat) = _ := round (by kernel_rfl) (cH R L k _ o (c : Int) (i : Int) (w : Int) (16 : Nat) (i : Int) (8 : Nat))
   show xP R L k (cl (L5 v)) o (c : Int) (i : Int) (w : Int) (16 : Nat) (i : Int) (8 : Nat) = _
   have hb := sT k i
   have hw8 : w < 256 := by rw [hw]; exact Nat.mod_lt _ (by decide)
   have hw0 : IntKind.wrap .i64 ((UInt8.toNat (k.getD i 0) : Nat) : Int) = ((bt k i : Nat) : Int) := sI (by show bt k i < _; omega)
   rw [hq, show decide (((8 : Nat) : Int) < 8) = false from by decide]
   simp only [cond_false, nn, tn]
   rw [yP (by omega), yP (by omega), hw0, vF (by simp only [tL]; omega), vF (by simp only [tL]; omega), tS, zB (i := i) (by omega)]
   simp only [cond_true]
   rw [show Int.fdiv ((c + (w + bt k i) : Nat) : Int) (2 ^ Min.min (Int.toNat 8) (IntKind.bits .i64)) = (((c + (w + bt k i)) / 256 : Nat) : Int) from kP _ 8])
  (fun w b hb hw => by
   refine ⟨?_, rfl⟩
   have hq : xP R L k (cl (L5 v)) o (c : Int) (i : Int) (w : Int) (16 : Nat) (i : Int) (b : Nat) = _ := round (by kernel_rfl) (cH R L k _ o (c : Int) (i : Int) (w : Int) (16 : Nat) (i : Int) (b : Nat))
   show xP R L k (cl (L5 v)) o (c : Int) (i : Int) (w : Int) (16 : Nat) (i : Int) (b : Nat) = xP R L k (cl (L5 v)) o (c : Int) (i : Int) ((v / 2 ^ (8 * i) % 2 ^ (b + 1) : Nat) : Int) (16 : Nat) (i : Int) ((b + 1 : Nat) : Int)
   have e8 : IntKind.wrap .i64 (IntKind.wrap .i64 (8 * (i : Int)) + (b : Int)) = ((8 * i + b : Nat) : Int) := by
    rw [show (8 : Int) = ((8 : Nat) : Int) from rfl, iH (by simp only [tL]; omega), vF (by simp only [tL]; omega)]
   have et : Int.tdiv ((8 * i + b : Nat) : Int) 26 = (((8 * i + b) / 26 : Nat) : Int) := rfl
   have em : Int.tmod ((8 * i + b : Nat) : Int) 26 = (((8 * i + b) % 26 : Nat) : Int) := rfl
   have hs : (8 * i + b) % 26 < 26 := Nat.mod_lt _ (by decide)
   have hm2 : Min.min ((8 * i + b) % 26) (IntKind.bits .u64) = (8 * i + b) % 26 := Nat.min_eq_left (by show _ ≤ 64; omega)
   have hm3 : Min.min b (IntKind.bits .i64) = b := Nat.min_eq_left (by show _ ≤ 64; omega)
   have hg := (Aa2 v).get (by decide) ((8 * i + b) / 26)
   have hdl : (L5 v).getD ((8 * i + b) / 26) 0 / 2 ^ ((8 * i + b) % 26) < 67108864 := Nat.lt_of_le_of_lt (Nat.div_le_self _ _) hg
   have hand : xF .and .u64 (((L5 v).getD ((8 * i + b) / 26) 0 / 2 ^ ((8 * i + b) % 26) : Nat) : Int) 1 = ((v / 2 ^ (8 * i) / 2 ^ b % 2 : Nat) : Int) := by
    rw [show (1 : Int) = ((1 : Nat) : Int) from rfl, AN4 (by simp only [tL]; omega) (by decide), Nat.and_one_is_mod, BX8 v _ _ (by omega) hs, Nat.div_add_mod, Nat.pow_add, ← Nat.div_div_eq_div_mul]
   have hbit : v / 2 ^ (8 * i) / 2 ^ b % 2 < 2 := Nat.mod_lt _ (by decide)
   have hp : 2 ^ b ≤ 128 := Nat.le_trans (Nat.pow_le_pow_right (by decide) (show b ≤ 7 by omega)) (by decide)
   have hp1 : 1 ≤ 2 ^ b := Nat.one_le_two_pow
   have hmu : v / 2 ^ (8 * i) / 2 ^ b % 2 * 2 ^ b ≤ 1 * 128 := Nat.mul_le_mul (by omega) hp
   have hw' : w < 2 ^ b := by rw [hw]; exact Nat.mod_lt _ (Nat.two_pow_pos _)
   rw [hq, show decide ((b : Int) < 8) = true from decide_eq_true (by omega), e8, et, em, sI (n := (8 * i + b) / 26) (by omega)]
   simp only [nn, tn, cond_true]
   rw [yP (n := 5) (by omega), show decide ((((8 * i + b) % 26 : Nat) : Int) < 0) = false from decide_eq_false (by omega), show decide ((b : Int) < 0) = false from decide_eq_false (by omega), hm2, hm3, yA, kP, hand, sI (n := v / 2 ^ (8 * i) / 2 ^ b % 2) (by omega), A6P, sI (n := v / 2 ^ (8 * i) / 2 ^ b % 2 * 2 ^ b) (by omega), Ai5 (by simp only [tL]; omega) (by simp only [tL]; omega), zB (i := b) (by omega), BX3 hw' hbit, hw, ← A3W]
   rfl)
  0 (by rw [Nat.pow_zero, Nat.mod_one])).1
 exact this
end Go.Rf.S

end
section
namespace Go.Rf.S
set_option maxRecDepth 100000
theorem Ah3 (a b : List Nat) : cl (a ++ b) = cl a ++ cl b := by unfold cl; exact List.map_append
theorem BV0 (pre : List Nat) (n : Nat) (z : Nat) : (cl pre ++ List.replicate (n + 1) (0 : Int)).set pre.length (z : Int) = cl (pre ++ [z]) ++ List.replicate n (0 : Int) := by
 rw [Ah3, List.append_assoc, List.set_append_right _ _ (by rw [mF]; exact Nat.le_refl _), mF, Nat.sub_self, List.replicate_succ]
 rfl
theorem A1h (pre : List Nat) : List.map (fun n : Int => UInt8.ofNat (Int.toNat n)) (cl pre) = pre.map fun n => UInt8.ofNat n := by
 unfold cl
 rw [List.map_map]
 apply List.map_congr_left
 intro n _
 show UInt8.ofNat (Int.toNat (n : Int)) = _
 rw [tn]
theorem A8z (v : Nat) (k : List UInt8) (hk : k.length = 16) : lL R (cl (L5 v)) k = some (Bc7 v k, ()) := by
 have hq : lL R (cl (L5 v)) k = _ := call (Ah6 R L (cl (L5 v)) k)
 have := (yI (fun (s : List Nat × Nat) i => yZ R L k (cl (L5 v)) (cl s.1 ++ List.replicate (16 - s.1.length) (0 : Int)) (s.2 : Int) (16 : Nat) i) (stG v k) Bb3 16
  (fun s => some (s.1.map fun n => UInt8.ofNat n, ()))
  (fun s hs => by
   have hq : yZ R L k (cl (L5 v)) (cl s.1 ++ List.replicate (16 - s.1.length) (0 : Int)) (s.2 : Int) (16 : Nat) (16 : Nat) = _ := round (by kernel_rfl) (cC R L k _ _ (s.2 : Int) (16 : Nat) (16 : Nat))
   show yZ R L k (cl (L5 v)) (cl s.1 ++ List.replicate (16 - s.1.length) (0 : Int)) (s.2 : Int) (16 : Nat) (16 : Nat) = _
   rw [hq, A2M (Nat.le_refl _), hs.1, Nat.sub_self, List.replicate_zero, List.append_nil, A1h]
   rfl)
  (fun s i hi hs => by
   refine ⟨?_, hs.step⟩
   have hq : yZ R L k (cl (L5 v)) (cl s.1 ++ List.replicate (16 - s.1.length) (0 : Int)) (s.2 : Int) (16 : Nat) (i : Nat) = _ := round (by kernel_rfl) (cC R L k _ _ (s.2 : Int) (16 : Nat) (i : Nat))
   show yZ R L k (cl (L5 v)) (cl s.1 ++ List.replicate (16 - s.1.length) (0 : Int)) (s.2 : Int) (16 : Nat) (i : Nat) = yZ R L k (cl (L5 v)) (cl (s.1 ++ [(s.2 + (v / 2 ^ (8 * i) % 256 + bt k i)) % 256]) ++ List.replicate (16 - (s.1 ++ [(s.2 + (v / 2 ^ (8 * i) % 256 + bt k i)) % 256]).length) (0 : Int)) (((s.2 + (v / 2 ^ (8 * i) % 256 + bt k i)) / 256 : Nat) : Int) (16 : Nat) ((i + 1 : Nat) : Int)
   rw [hq, A2B hi]
   simp only [cond_true]
   have hl := hs.1
   rw [BQ3 v k hk i hi _ (by rw [List.length_append, mF, List.length_replicate]; omega) s.2 hs.2, hl, show 16 - i = (15 - i) + 1 by omega]
   have := BV0 s.1 (15 - i) ((s.2 + (v / 2 ^ (8 * i) % 256 + bt k i)) % 256)
   rw [hl] at this
   rw [this, List.length_append, hl, show 16 - (i + [(s.2 + (v / 2 ^ (8 * i) % 256 + bt k i)) % 256].length) = 15 - i by simp only [List.length_cons, List.length_nil]; omega])
  ([], 0) ⟨rfl, Nat.zero_le _⟩).1
 rw [hq]
 exact this
theorem BO2 (v i : Nat) (hi : i < 16) : (18 < 8 * i % 26 → ((L5 v).getD (8 * i / 26) 0 / 2 ^ (8 * i % 26) + (L5 v).getD (8 * i / 26 + 1) 0 * 2 ^ (26 - 8 * i % 26)) % 256 = v / 2 ^ (8 * i) % 256) ∧ (¬ 18 < 8 * i % 26 → (L5 v).getD (8 * i / 26) 0 / 2 ^ (8 * i % 26) % 256 = v / 2 ^ (8 * i) % 256) := by
 obtain rfl | rfl | rfl | rfl | rfl | rfl | rfl | rfl | rfl | rfl | rfl | rfl | rfl | rfl | rfl | rfl : i = 0 ∨ i = 1 ∨ i = 2 ∨ i = 3 ∨ i = 4 ∨ i = 5 ∨ i = 6 ∨ i = 7 ∨ i = 8 ∨ i = 9 ∨ i = 10 ∨ i = 11 ∨ i = 12 ∨ i = 13 ∨ i = 14 ∨ i = 15 := by omega
 all_goals
  refine ⟨fun h => ?_, fun h => ?_⟩
  all_goals first
   | (exfalso; revert h; decide)
   | (clear h; simp only [L5, Nat.reduceMul, Nat.reduceMod, Nat.reduceDiv, Nat.reduceAdd, Nat.reduceSub, Nat.reducePow, List.getD_cons_zero, List.getD_cons_succ]; omega)
theorem BW0 (a : Nat) : a &&& 255 = a % 256 := Nat.and_two_pow_sub_one_eq_mod a 8
theorem Bh2 {a : Nat} (h : a < tL .i64) : xF .and .i64 (a : Int) 255 = ((a % 256 : Nat) : Int) := by
 rw [show (255 : Int) = ((255 : Nat) : Int) from rfl, AN4 h (by decide), BW0]
theorem A57 (v : Nat) (v0 : List UInt8) (h0 : v0.length = 32) : vZ R L v0 (cl (L5 v)) ([] : List Int) (0 : Int) (0 : Int) = some (Bc7 v (v0.drop 16), ()) := by
 have := (yI (fun (s : List Nat × Nat) i => vZ R L v0 (cl (L5 v)) (cl s.1) (s.2 : Int) i) (stG v (v0.drop 16)) Bb3 16
  (fun s => some (s.1.map fun n => UInt8.ofNat n, ()))
  (fun s hs => by
   have hq : vZ R L v0 (cl (L5 v)) (cl s.1) (s.2 : Int) (16 : Nat) = _ := round (by kernel_rfl) (AX9 R L v0 _ _ (s.2 : Int) (16 : Nat))
   show vZ R L v0 (cl (L5 v)) (cl s.1) (s.2 : Int) (16 : Nat) = _
   rw [hq, show decide (((16 : Nat) : Int) < 16) = false from by decide, A1h]
   rfl)
  (fun s i hi hs => by
   refine ⟨?_, hs.step⟩
   have hq : vZ R L v0 (cl (L5 v)) (cl s.1) (s.2 : Int) (i : Nat) = _ := round (by kernel_rfl) (AX9 R L v0 _ _ (s.2 : Int) (i : Nat))
   show vZ R L v0 (cl (L5 v)) (cl s.1) (s.2 : Int) (i : Nat) = vZ R L v0 (cl (L5 v)) (cl (s.1 ++ [(s.2 + (v / 2 ^ (8 * i) % 256 + bt (v0.drop 16) i)) % 256])) (((s.2 + (v / 2 ^ (8 * i) % 256 + bt (v0.drop 16) i)) / 256 : Nat) : Int) ((i + 1 : Nat) : Int)
   obtain ⟨hl, hc⟩ := hs
   have hbe : bt (v0.drop 16) i = bt v0 (16 + i) := by
    unfold bt
    rw [List.getD_eq_getElem?_getD, List.getD_eq_getElem?_getD, List.getElem?_drop]
   have hb := sT v0 (16 + i)
   have e8 : IntKind.wrap .i64 (8 * (i : Int)) = ((8 * i : Nat) : Int) := by rw [show (8 : Int) = ((8 : Nat) : Int) from rfl, iH (by simp only [tL]; omega)]
   have et : Int.tdiv ((8 * i : Nat) : Int) 26 = ((8 * i / 26 : Nat) : Int) := rfl
   have em : Int.tmod ((8 * i : Nat) : Int) 26 = ((8 * i % 26 : Nat) : Int) := rfl
   have e16 : IntKind.wrap .i64 (16 + (i : Int)) = ((16 + i : Nat) : Int) := by rw [show (16 : Int) = ((16 : Nat) : Int) from rfl, vF (by simp only [tL]; omega)]
   have hw0 : IntKind.wrap .i64 ((UInt8.toNat (v0.getD (16 + i) 0) : Nat) : Int) = ((bt v0 (16 + i) : Nat) : Int) := sI (by show bt v0 (16 + i) < _; omega)
   have hs26 : 8 * i % 26 < 26 := Nat.mod_lt _ (by decide)
   have hmn : Min.min (8 * i % 26) (IntKind.bits .i64) = 8 * i % 26 := Nat.min_eq_left (by show _ ≤ 64; omega)
   have hg := (Aa2 v).get (by decide) (8 * i / 26)
   have hg1 := (Aa2 v).get (by decide) (8 * i / 26 + 1)
   have hdl : (L5 v).getD (8 * i / 26) 0 / 2 ^ (8 * i % 26) ≤ (L5 v).getD (8 * i / 26) 0 := Nat.div_le_self _ _
   have hm := Nat.mod_lt (v / 2 ^ (8 * i)) (show 0 < 256 by decide)
   obtain ⟨b1, b2⟩ := BO2 v i hi
   rw [hq, show decide ((i : Int) < 16) = true from decide_eq_true (by omega), e8, et, em, e16, sI (n := 8 * i / 26) (by omega), hbe, zB (i := i) (by omega)]
   simp only [nn, tn, cond_true]
   rw [yP (n := 5) (show 8 * i / 26 < 5 by omega), show decide (((8 * i % 26 : Nat) : Int) < 0) = false from decide_eq_false (by omega), hmn, yP (n := v0.length) (by omega), hw0, yA, kP]
   simp only [cond_true, cond_false]
   have h8 : ∀ z : Nat, Int.fdiv ((z : Nat) : Int) (2 ^ Min.min (Int.toNat 8) (IntKind.bits .i64)) = ((z / 256 : Nat) : Int) := fun z => kP _ 8
   by_cases h18 : 18 < 8 * i % 26
   ·rw [show decide ((18 : Int) < ((8 * i % 26 : Nat) : Int)) = true from decide_eq_true (by omega), zB (i := 8 * i / 26) (by omega)]
    simp only [cond_true, nn, tn]
    have e26 : IntKind.wrap .i64 (26 - ((8 * i % 26 : Nat) : Int)) = ((26 - 8 * i % 26 : Nat) : Int) := by rw [zO (by omega) (by omega)]; omega
    have hmn2 : Min.min (26 - 8 * i % 26) (IntKind.bits .i64) = 26 - 8 * i % 26 := Nat.min_eq_left (by show _ ≤ 64; omega)
    have hp2 : 2 ^ (26 - 8 * i % 26) ≤ 128 := Nat.le_trans (Nat.pow_le_pow_right (by decide) (show 26 - 8 * i % 26 ≤ 7 by omega)) (by decide)
    have hmul : (L5 v).getD (8 * i / 26 + 1) 0 * 2 ^ (26 - 8 * i % 26) ≤ 67108863 * 128 := Nat.mul_le_mul (by omega) hp2
    rw [yP (n := 5) (show 8 * i / 26 + 1 < 5 by omega), e26, show decide (((26 - 8 * i % 26 : Nat) : Int) < 0) = false from decide_eq_false (by omega), tn, hmn2, yA, A6P, sI (n := (L5 v).getD (8 * i / 26 + 1) 0 * 2 ^ (26 - 8 * i % 26)) (by omega), vF (by simp only [tL]; omega), Bh2 (by simp only [tL]; omega), b1 h18, vF (by simp only [tL]; omega), vF (by simp only [tL]; omega), tS, h8, uB (by rw [mF]; simp only [List.length_cons, List.length_nil]; omega)]
    simp only [cond_true, cond_false]
    rw [Ah3]
    rfl
   ·rw [show decide ((18 : Int) < ((8 * i % 26 : Nat) : Int)) = false from decide_eq_false (by omega)]
    simp only [cond_false]
    rw [Bh2 (by simp only [tL]; omega), b2 h18, vF (by simp only [tL]; omega), vF (by simp only [tL]; omega), tS, h8, uB (by rw [mF]; simp only [List.length_cons, List.length_nil]; omega)]
    simp only [cond_true, cond_false]
    rw [Ah3]
    rfl)
  ([], 0) ⟨rfl, Nat.zero_le _⟩).1
 exact this
end Go.Rf.S

end
section
namespace Go.Rf.S
set_option maxRecDepth 100000
def cs (m : Int) (i : Nat) (v : List Int) : List Int := v.set i (xF .and .u8 (v.getD i 0) m)
def BI9 (v : List Int) : List Int := cs 252 12 (cs 252 8 (cs 252 4 (cs 15 15 (cs 15 11 (cs 15 7 (cs 15 3 v))))))
def aT (key : List UInt8) : List UInt8 := List.map (fun n : Int => UInt8.ofNat (Int.toNat n)) (BI9 (List.map (fun b : UInt8 => (b.toNat : Int)) (key.take 16)))
theorem kE (m : Int) (i : Nat) (v : List Int) : (cs m i v).length = v.length := by simp [cs]
theorem A6G {key : List UInt8} (h : 16 ≤ key.length) : (aT key).length = 16 := by
 unfold aT BI9
 rw [List.length_map, kE, kE, kE, kE, kE, kE, kE, List.length_map, List.length_take]
 omega
theorem ic0 (v : List Int) (hl : v.length = 16) (i : Nat) (hi : i < 16) : uZ R L v (i : Int) = uZ R L (cs 15 i v) ((i + 4 : Nat) : Int) := by
 have hq : uZ R L v (i : Int) = _ := round (by kernel_rfl) (AN7 R L v (i : Int))
 rw [hq, show decide ((i : Int) < 16) = true from decide_eq_true (by omega), show IntKind.wrap .i64 ((i : Int) + 4) = ((i + 4 : Nat) : Int) from by rw [zO (by omega) (by omega)]; omega]
 simp only [nn, tn]
 rw [yP (by omega)]
 rfl
theorem ic1 (v : List Int) (hl : v.length = 16) (i : Nat) (hi : i < 16) : tG R L v (i : Int) = tG R L (cs 252 i v) ((i + 4 : Nat) : Int) := by
 have hq : tG R L v (i : Int) = _ := round (by kernel_rfl) (AP7 R L v (i : Int))
 rw [hq, show decide ((i : Int) < 16) = true from decide_eq_true (by omega), show IntKind.wrap .i64 ((i : Int) + 4) = ((i + 4 : Nat) : Int) from by rw [zO (by omega) (by omega)]; omega]
 simp only [nn, tn]
 rw [yP (by omega)]
 rfl
theorem sc0 (v : List Int) (hl : v.length = 16) (i : Nat) (hi : i < 16) : uI R L v (i : Int) = uI R L (cs 15 i v) ((i + 4 : Nat) : Int) := by
 have hq : uI R L v (i : Int) = _ := round (by kernel_rfl) (AI4 R L v (i : Int))
 rw [hq, show decide ((i : Int) < 16) = true from decide_eq_true (by omega), show IntKind.wrap .i64 ((i : Int) + 4) = ((i + 4 : Nat) : Int) from by rw [zO (by omega) (by omega)]; omega]
 simp only [nn, tn]
 rw [yP (by omega)]
 rfl
theorem sc1 (v : List Int) (hl : v.length = 16) (i : Nat) (hi : i < 16) : uA R L v (i : Int) = uA R L (cs 252 i v) ((i + 4 : Nat) : Int) := by
 have hq : uA R L v (i : Int) = _ := round (by kernel_rfl) (AK1 R L v (i : Int))
 rw [hq, show decide ((i : Int) < 16) = true from decide_eq_true (by omega), show IntKind.wrap .i64 ((i : Int) + 4) = ((i + 4 : Nat) : Int) from by rw [zO (by omega) (by omega)]; omega]
 simp only [nn, tn]
 rw [yP (by omega)]
 rfl
theorem A3U (key : List UInt8) (h : 16 ≤ key.length) : bZ R key = some (aT key, ()) := by
 have hq : bZ R key = _ := call (A23 R L key)
 rw [hq, show Int.toNat 16 = 16 from rfl, show Nat.ble 16 key.length = true from by rw [Nat.ble_eq]; exact h, List.drop_zero]
 simp only [cond_true]
 have l0 : (List.map (fun b : UInt8 => (b.toNat : Int)) (key.take 16)).length = 16 := by rw [List.length_map, List.length_take]; omega
 unfold aT
 generalize List.map (fun b : UInt8 => (b.toNat : Int)) (key.take 16) = v at l0 ⊢
 have e1 : ∀ v, uZ R L v ((19 : Nat) : Int) = tG R L v ((4 : Nat) : Int) := fun v => by
  have hq : uZ R L v ((19 : Nat) : Int) = _ := round (by kernel_rfl) (AN7 R L v ((19 : Nat) : Int))
  rw [hq]; rfl
 have e2 : ∀ v, tG R L v ((16 : Nat) : Int) = some (List.map (fun n : Int => UInt8.ofNat (Int.toNat n)) v, ()) := fun v => by
  have hq : tG R L v ((16 : Nat) : Int) = _ := round (by kernel_rfl) (AP7 R L v ((16 : Nat) : Int))
  rw [hq]; rfl
 show uZ R L v ((3 : Nat) : Int) = _
 rw [ic0 v l0 3 (by decide), ic0 _ (by simp only [kE]; exact l0) 7 (by decide), ic0 _ (by simp only [kE]; exact l0) 11 (by decide), ic0 _ (by simp only [kE]; exact l0) 15 (by decide), e1,
  ic1 _ (by simp only [kE]; exact l0) 4 (by decide), ic1 _ (by simp only [kE]; exact l0) 8 (by decide), ic1 _ (by simp only [kE]; exact l0) 12 (by decide), e2]
 rfl
theorem A8d (key : List UInt8) (h : 16 ≤ key.length) : eP R key = some (aT key, ()) := by
 have hq : eP R key = _ := call (A0o R L key)
 rw [hq, show Int.toNat 16 = 16 from rfl, show Nat.ble 16 key.length = true from by rw [Nat.ble_eq]; exact h, List.drop_zero]
 simp only [cond_true]
 have l0 : (List.map (fun b : UInt8 => (b.toNat : Int)) (key.take 16)).length = 16 := by rw [List.length_map, List.length_take]; omega
 unfold aT
 generalize List.map (fun b : UInt8 => (b.toNat : Int)) (key.take 16) = v at l0 ⊢
 have e1 : ∀ v, uI R L v ((19 : Nat) : Int) = uA R L v ((4 : Nat) : Int) := fun v => by
  have hq : uI R L v ((19 : Nat) : Int) = _ := round (by kernel_rfl) (AI4 R L v ((19 : Nat) : Int))
  rw [hq]; rfl
 have e2 : ∀ v, uA R L v ((16 : Nat) : Int) = some (List.map (fun n : Int => UInt8.ofNat (Int.toNat n)) v, ()) := fun v => by
  have hq : uA R L v ((16 : Nat) : Int) = _ := round (by kernel_rfl) (AK1 R L v ((16 : Nat) : Int))
  rw [hq]; rfl
 show uI R L v ((3 : Nat) : Int) = _
 rw [sc0 v l0 3 (by decide), sc0 _ (by simp only [kE]; exact l0) 7 (by decide), sc0 _ (by simp only [kE]; exact l0) 11 (by decide), sc0 _ (by simp only [kE]; exact l0) 15 (by decide), e1,
  sc1 _ (by simp only [kE]; exact l0) 4 (by decide), sc1 _ (by simp only [kE]; exact l0) 8 (by decide), sc1 _ (by simp only [kE]; exact l0) 12 (by decide), e2]
 rfl
def jQ (t : List UInt8) (i : Nat) : List UInt8 := (t.take (min (i + 16) t.length)).drop i ++ [1]
theorem A8q {t : List UInt8} {i : Nat} (h : i < t.length) : 2 ≤ (jQ t i).length ∧ (jQ t i).length ≤ 17 := by
 unfold jQ
 rw [List.length_append, List.length_drop, List.length_take]
 simp only [List.length_cons, List.length_nil]
 omega
theorem A8a (t : List UInt8) (h : t.length ≤ 16) : leV (t ++ [1]) < 680564733841876926926749214863536422912 := by
 rw [AG5]
 have h1 := A48 t
 have h2 : 256 ^ t.length ≤ 256 ^ 16 := Nat.pow_le_pow_right (by decide) h
 have h3 : (256 : Nat) ^ 16 = 340282366920938463463374607431768211456 := by decide
 have h4 : leV [1] = 1 := by decide
 rw [h4]
 omega
theorem A2n {t : List UInt8} {i : Nat} (h : i < t.length) : leV (jQ t i) < 680564733841876926926749214863536422912 := A8a _ (by
 rw [List.length_drop, List.length_take]; omega)
theorem BE4 (a b : Nat) : Av8 (a : Int) (b : Int) = ((min a b : Nat) : Int) := by
 unfold Av8
 by_cases h : (b : Int) < (a : Int)
 ·rw [decide_eq_true h]; simp only [cond_true]; rw [Nat.min_eq_right (by omega)]
 ·rw [decide_eq_false h]; simp only [cond_false]; rw [Nat.min_eq_left (by omega)]
theorem Ar9 {a b : Nat} (h : a ≤ b) : Nat.ble a b = true := by rw [Nat.ble_eq]; exact h
theorem A5D (v0 v1 : List UInt8) (v5 v6 : List Int) (v7 : Int) : ∀ (n : Nat) (b : List UInt8), b.length + n = 17 → qJ R L v0 v1 v5 v6 v7 b = (lH R (b ++ List.replicate n 0)).bind fun r0 => tC R L v0 v1 v5 v6 v7 r0.1 0
 | 0, b, h => by
  have hq : qJ R L v0 v1 v5 v6 v7 b = _ := round (by kernel_rfl) (AX5 R L v0 v1 v5 v6 v7 b)
  rw [hq, show decide ((b.length : Int) < 17) = false from decide_eq_false (by omega), List.replicate_zero, List.append_nil]
  rfl
 | n + 1, b, h => by
  have hq : qJ R L v0 v1 v5 v6 v7 b = _ := round (by kernel_rfl) (AX5 R L v0 v1 v5 v6 v7 b)
  rw [hq, show decide ((b.length : Int) < 17) = true from decide_eq_true (by omega), uB (by simp only [List.length_cons, List.length_nil]; omega)]
  simp only [cond_true]
  rw [A5D v0 v1 v5 v6 v7 n (b ++ [0]) (by rw [List.length_append]; simp only [List.length_cons, List.length_nil]; omega), List.append_assoc, List.replicate_succ]
  rfl
theorem BB6 (key t : List UInt8) (hk : key.length = 32) (hl : t.length ≤ 4294967296) (r : Nat) (hr : r < 1361129467683753853853498429727072845824) :
  ∀ (n i : Nat) (h g : List Nat), t.length - i ≤ n → Can h → Can g → vl h % PP = vl g % PP → i ≤ t.length + 16 →
   ∃ out, jC R L key t (cl h) (cl (L5 r)) (i : Int) = some (out, ()) ∧ tW R L key t (cl (L5 r)) (cl g) (i : Int) = some (out, ()) ∧ out.length = 16 := by
 have hrv : vl (L5 r) = r := BG4 hr
 have hend : ∀ (i : Nat) (h g : List Nat), t.length ≤ i → Can h → Can g → vl h % PP = vl g % PP → ∃ out, jC R L key t (cl h) (cl (L5 r)) (i : Int) = some (out, ()) ∧ tW R L key t (cl (L5 r)) (cl g) (i : Int) = some (out, ()) ∧ out.length = 16 := by
  intro i h g hi hh hg he
  have hq : jC R L key t (cl h) (cl (L5 r)) (i : Int) = _ := round (by kernel_rfl) (A1H R L key t (cl h) (cl (L5 r)) (i : Int))
  have hq2 : tW R L key t (cl (L5 r)) (cl g) (i : Int) = _ := round (by kernel_rfl) (AY9 R L key t (cl (L5 r)) (cl g) (i : Int))
  refine ⟨Bc7 (if PP ≤ vl h then vl h - PP else vl h) (key.drop 16), ?_, ?_, ?_⟩
  ·rw [hq, show decide ((i : Int) < (t.length : Nat)) = false from decide_eq_false (by omega), A24 h hh, BG2 hh]
   simp only [cond_false, Option.bind_some]
   rw [show Int.toNat 16 = 16 from rfl, Ar9 (Nat.le_refl _), Ar9 (show 16 ≤ key.length by omega), List.take_length, A8z _ _ (by rw [List.length_drop]; omega)]
   rfl
  ·rw [hq2, show decide ((i : Int) < (t.length : Nat)) = false from decide_eq_false (by omega), A1m g hg.l (fun z hz => Nat.lt_of_lt_of_le (hg.b z hz) (by decide)), BI5 hg]
   simp only [cond_false, Option.bind_some]
   rw [BB2 g hg, BG2 hg, BU7 (BY7 hh) (BY7 hg) he]
   simp only [Option.bind_some]
   exact A57 _ key hk
  ·have inv : ∀ (m j : Nat) (s : List Nat × Nat) (v : Nat) (k : List UInt8), s.1.length = j → (wE (stG v k) m j s).1.length = j + m := by
    intro m
    induction m with
    | zero => intro j s v k hs; exact hs
    | succ m ih =>
     intro j s v k hs
     show (wE (stG v k) m (j + 1) (stG v k j s)).1.length = _
     rw [ih (j + 1) _ v k (by simp [stG, hs])]; omega
   unfold Bc7
   rw [List.length_map, inv 16 0 _ _ _ rfl]
 intro n
 induction n with
 | zero => intro i h g hn hh hg he hi; exact hend i h g (by omega) hh hg he
 | succ n ih =>
  intro i h g hn hh hg he hi
  rcases Nat.lt_or_ge i t.length with hlt | hge
  ·have hq : jC R L key t (cl h) (cl (L5 r)) (i : Int) = _ := round (by kernel_rfl) (A1H R L key t (cl h) (cl (L5 r)) (i : Int))
   have hq2 : tW R L key t (cl (L5 r)) (cl g) (i : Int) = _ := round (by kernel_rfl) (AY9 R L key t (cl (L5 r)) (cl g) (i : Int))
   have e16 : IntKind.wrap .i64 ((i : Int) + 16) = ((i + 16 : Nat) : Int) := by rw [show (16 : Int) = ((16 : Nat) : Int) from rfl, vF (by simp only [tL]; omega)]
   have hm := A2n hlt
   obtain ⟨c1, c2⟩ := A8q hlt
   have hm130 : leV (jQ t i) < 1361129467683753853853498429727072845824 := by omega
   have hlv : vl (L5 (leV (jQ t i))) = leV (jQ t i) := BG4 hm130
   have hcut : ((t.take (min (i + 16) t.length)).drop i).length ≤ 16 := by rw [List.length_drop, List.length_take]; omega
   have hA := A7x hh.b (Aa2 (leV (jQ t i)))
   have hB := A7x hg.b (Aa2 (leV (jQ t i)))
   have lift : ∀ {z : List Nat}, Bd 134217728 z → Bd 288230376151711744 z := fun hz y hy => Nat.lt_of_lt_of_le (hz y hy) (by decide)
   obtain ⟨k1, k2, _⟩ := A10 (x := ADD h (L5 (leV (jQ t i)))) rfl (lift hA)
   have kB : Bd 134217728 (CAR (ADD h (L5 (leV (jQ t i))))) := fun y hy => Nat.lt_of_lt_of_le (k1.b y hy) (by decide)
   obtain ⟨m1, m2, _⟩ := A10 (x := TIM (CAR (ADD h (L5 (leV (jQ t i))))) (L5 r)) rfl (A40 kB (Aa2 r))
   obtain ⟨s1, s2, _⟩ := A10 (x := TIM (ADD g (L5 (leV (jQ t i)))) (L5 r)) rfl (A40 hB (Aa2 r))
   have hmod : vl (CAR (TIM (CAR (ADD h (L5 (leV (jQ t i))))) (L5 r))) % PP = vl (CAR (TIM (ADD g (L5 (leV (jQ t i)))) (L5 r))) % PP := by
    rw [m2, s2, BI3, BI3, hrv, Nat.mul_mod, k2, BF8, BF8, hlv, Nat.add_mod (vl h), he, ← Nat.add_mod, ← Nat.mul_mod]
   obtain ⟨out, o1, o2, o3⟩ := ih (i + 16) _ _ (by omega) m1 s1 hmod (by omega)
   refine ⟨out, ?_, ?_, o3⟩
   ·rw [hq, show decide ((i : Int) < (t.length : Nat)) = true from decide_eq_true (by omega), e16, BE4]
    simp only [nn, tn, cond_true]
    rw [Ar9 (show min (i + 16) t.length ≤ t.length from Nat.min_le_right _ _), Ar9 (show i ≤ min (i + 16) t.length by omega), uB (by simp only [List.length_cons, List.length_nil]; omega)]
    simp only [cond_true]
    show (jV R (jQ t i)).bind _ = _
    rw [Ai2 _ c2 hm130]
    simp only [Option.bind_some]
    rw [A9b _ _ hh.l hh.b (Aa2 _)]
    simp only [Option.bind_some]
    rw [A7V _ _ k1.l kB (Aa2 r)]
    exact o1
   ·rw [hq2, show decide ((i : Int) < (t.length : Nat)) = true from decide_eq_true (by omega), e16, BE4, Nat.min_comm]
    simp only [nn, tn, cond_true]
    rw [Ar9 (show min (i + 16) t.length ≤ t.length from Nat.min_le_right _ _), Ar9 (show i ≤ min (i + 16) t.length by omega), uB (by simp only [List.length_cons, List.length_nil]; omega)]
    simp only [cond_true]
    show qJ R L key t (cl (L5 r)) (cl g) (i : Int) (jQ t i) = _
    have hz : leV (jQ t i ++ List.replicate (17 - (jQ t i).length) 0) = leV (jQ t i) := by rw [AG5, A2C]; simp
    have h17 : (jQ t i ++ List.replicate (17 - (jQ t i).length) 0).length = 17 := by rw [List.length_append, List.length_replicate]; omega
    have hb16 : bt (jQ t i ++ List.replicate (17 - (jQ t i).length) 0) 16 < 4 := by
     rw [← Az5, hz]
     have : (256 : Nat) ^ 16 = 340282366920938463463374607431768211456 := by decide
     rw [this]
     omega
    rw [A5D key t (cl (L5 r)) (cl g) (i : Int) (17 - (jQ t i).length) (jQ t i) (by omega), A2S _ h17 hb16, hz]
    simp only [Option.bind_some]
    rw [BB3 g (L5 (leV (jQ t i))) hg.l hg.b (Aa2 _), A8O _ _ rfl hB (Aa2 r)]
    simp only [Option.bind_some]
    rw [e16]
    exact o2
  ·exact hend i h g hge hh hg he
theorem Bi1 : Can (List.replicate 5 0) := ⟨rfl, Bd.rep (by decide)⟩
theorem BE1 (key t : List UInt8) (hk : key.length = 32) (hl : t.length ≤ 4294967296) : ∃ out, Ag6 R key t = some (out, ()) ∧ gR R key t = some (out, ()) ∧ out.length = 16 := by
 have hq : Ag6 R key t = _ := call (BQ4 R L key t)
 have hq2 : gR R key t = _ := call (A6S R L key t)
 have hcl := A6G (key := key) (by omega)
 have hr : leV (aT key) < 1361129467683753853853498429727072845824 := by
  have := A48 (aT key)
  rw [hcl] at this
  exact Nat.lt_of_lt_of_le this (by decide)
 obtain ⟨out, h1, h2, h3⟩ := BB6 key t hk hl (leV (aT key)) hr t.length 0 (List.replicate 5 0) (List.replicate 5 0) (by omega) Bi1 Bi1 rfl (by omega)
 refine ⟨out, ?_, ?_, h3⟩
 ·rw [hq, A3U key (by omega)]
  simp only [Option.bind_some]
  rw [Ai2 _ (by omega) hr]
  exact h1
 ·rw [hq2, A8d key (by omega)]
  simp only [Option.bind_some]
  have hz : leV (aT key ++ [0]) = leV (aT key) := by rw [AG5]; simp [leV]
  have hb : bt (aT key ++ [0]) 16 < 4 := by
   unfold bt
   rw [List.getD_eq_getElem?_getD, List.getElem?_append_right (by omega), hcl]
   decide
  rw [uB (by rw [hcl]; decide), A2S _ (by rw [List.length_append, hcl]; rfl) hb, hz]
  exact h2
end Go.Rf.S

end
section
namespace Go.Rf.S
set_option maxRecDepth 100000
theorem AK7 (l : List Nat) : (ub l).length = l.length := List.length_map _
theorem AP9 (v : Nat) : (ub (lit v 8)).length = 8 := by rw [AK7, jP v 8 (by decide)]
def BF5 (t : List UInt8) : List UInt8 := t ++ ub (List.replicate ((16 - t.length % 16) % 16) 0)
theorem A0N (t : List UInt8) : (BF5 t).length = t.length + (16 - t.length % 16) % 16 := by
 unfold BF5; rw [List.length_append, AK7, List.length_replicate]
theorem A4u (t : List UInt8) (ht : t.length ≤ 549755813888) : cF R t = some (BF5 t, ()) := by
 have hq : cF R t = _ := call (A6e R L t)
 have e1 : Int.tmod (t.length : Int) 16 = ((t.length % 16 : Nat) : Int) := rfl
 have e2 : IntKind.wrap .i64 (16 - ((t.length % 16 : Nat) : Int)) = ((16 - t.length % 16 : Nat) : Int) := by rw [zO (by omega) (by omega)]; omega
 have e3 : Int.tmod ((16 - t.length % 16 : Nat) : Int) 16 = (((16 - t.length % 16) % 16 : Nat) : Int) := rfl
 rw [hq, e1, e2, e3, A13 _ (by omega)]
 simp (disch := omega) only [st, AK7, List.length_replicate]
 rfl
theorem BU5 : ∀ (n : Nat) (t : List UInt8), (t.length + n) % 16 = 0 → n < 16 → t.length ≤ 549755813888 → kF R L t = some (t ++ ub (List.replicate n 0), ())
 | n, t, h, hn, ht => by
  have hq : kF R L t = _ := round (by kernel_rfl) (A2A R L t)
  have e1 : Int.tmod (t.length : Int) 16 = ((t.length % 16 : Nat) : Int) := rfl
  rw [hq, e1]
  cases n with
  | zero =>
   simp (disch := omega) only [st, Bool.not_true]
   rw [show ub (List.replicate 0 0) = [] from rfl, List.append_nil]
  | succ n =>
   simp (disch := omega) only [st, Bool.not_false]
   rw [BU5 n (t ++ [0]) (by rw [List.length_append]; simp only [List.length_cons, List.length_nil]; omega) (by omega) (by rw [List.length_append]; simp only [List.length_cons, List.length_nil]; omega), List.append_assoc]
   rfl
theorem A4s (t : List UInt8) (ht : t.length ≤ 549755813888) : dV R t = some (BF5 t, ()) :=
 Eq.trans (call (A6A R L t) : dV R t = _) (BU5 _ t (by omega) (by omega) ht)
theorem A3o (v : Nat) : mX R (v : Int) = some (ub (lit v 8), ()) := by
 have hq : mX R (v : Int) = _ := call (A0y R L (v : Int))
 refine hq.trans (yI (fun (o : List Nat) i => tJ R L (v : Int) (cl o) i) (stL v) (fun i o => o.length = i) 8 (fun o => some (ub o, ()))
  (fun o _ => ?_) (fun o i hi ho => ⟨?_, by unfold stL; rw [List.length_append, ho]; rfl⟩) [] rfl).1
 ·have hq : tJ R L (v : Int) (cl o) (8 : Nat) = _ := round (by kernel_rfl) (AK3 R L (v : Int) (cl o) (8 : Nat))
  show tJ R L (v : Int) (cl o) (8 : Nat) = _
  rw [hq, Aa5]; rfl
 ·have hq : tJ R L (v : Int) (cl o) (i : Nat) = _ := round (by kernel_rfl) (AK3 R L (v : Int) (cl o) (i : Nat))
  show tJ R L (v : Int) (cl o) (i : Nat) = _
  have e8 : IntKind.wrap .i64 ((8 : Int) * (i : Int)) = ((8 * i : Nat) : Int) := by rw [zO (by omega) (by omega)]; omega
  rw [hq, e8, tn, show Min.min (8 * i) (IntKind.bits .i64) = 8 * i from Nat.min_eq_left (by simp only [IntKind.bits]; omega), kP, tS, zB (by omega)]
  simp (disch := omega) only [st, dT, dF, mF]
  rw [show [((v / 2 ^ (8 * i) % 256 : Nat) : Int)] = cl [v / 2 ^ (8 * i) % 256] from rfl, AO1]
  rfl
noncomputable def BS9 (key t : List UInt8) : List UInt8 := ((gR R key t).getD ([], ())).1
theorem Bd9 {key t : List UInt8} (hk : key.length = 32) (hl : t.length ≤ 4294967296) : Ag6 R key t = some (BS9 key t, ()) ∧ gR R key t = some (BS9 key t, ()) ∧ (BS9 key t).length = 16 := by
 obtain ⟨out, h1, h2, h3⟩ := BE1 key t hk hl
 have e : BS9 key t = out := by unfold BS9; rw [h2]; rfl
 rw [e]; exact ⟨h1, h2, h3⟩
noncomputable def btF (key nonce ad t : List UInt8) : List UInt8 := BS9 ((chB key nonce 0).take 32) (((BF5 ad ++ BF5 t) ++ ub (lit ad.length 8)) ++ ub (lit t.length 8))
theorem Av6 {key nonce ad t : List UInt8} (hk : key.length = 32) (hn : nonce.length = 12) (ha : ad.length ≤ 1073741824) (hl : t.length ≤ 1073741824) :
  cA R key nonce ad t = some (btF key nonce ad t, ()) ∧ AF7 R key nonce ad t = some (btF key nonce ad t, ()) ∧ (btF key nonce ad t).length = 16 := by
 have hB : (chB key nonce 0).length = 64 := AB5 hk hn (by decide)
 obtain ⟨h1, h2, h3⟩ := Bd9 (key := (chB key nonce 0).take 32) (t := ((BF5 ad ++ BF5 t) ++ ub (lit ad.length 8)) ++ ub (lit t.length 8)) (by rw [List.length_take]; omega)
  (by simp only [List.length_append, A0N, AP9]; omega)
 have e1 : cL R key nonce 0 = some (chB key nonce 0, ()) := (Aw8 key nonce hk hn 0 (by decide)).1
 have e2 : qG R key nonce 0 = some (chB key nonce 0, ()) := Ar5 key nonce hk hn 0 (by decide)
 have l8 : ∀ v : Nat, wY R (v : Int) 8 = some (ub (lit v 8), ()) := fun v => aG v 8 (by decide)
 refine ⟨?_, ?_, h3⟩
 ·rw [show cA R key nonce ad t = _ from call (A5J R L key nonce ad t), e1, A4u ad (by omega), A4u t (by omega), l8, l8]
  simp (disch := omega) only [st, hB, A0N, AP9, show (32 : Int).toNat = 32 from rfl, List.drop_zero, h1]
  rfl
 ·rw [show AF7 R key nonce ad t = _ from call (A6V R L key nonce ad t), e2, A4s ad (by omega), A4s t (by omega), A3o, A3o]
  simp (disch := omega) only [st, hB, A0N, AP9, show (32 : Int).toNat = 32 from rfl, List.drop_zero, h2]
  rfl
theorem A1D (key nonce : List UInt8) (hk : key.length = 32) (hn : nonce.length = 12) (count : Nat) (t : List UInt8) (ht : t.length ≤ 1073741824) (hc : count ≤ 1024) : ∀ k, 64 * k ≤ t.length + 63 →
  (A6o Am8 (chB key nonce) count t k).length = min (64 * k) t.length ∧ ∀ i, i < min (64 * k) t.length → bt (A6o Am8 (chB key nonce) count t k) i = bt t i ^^^ bt (chB key nonce (count + i / 64)) (i % 64)
 | 0, _ => ⟨by simp [A6o], fun i hi => by omega⟩
 | k + 1, hk' => by
  obtain ⟨h1, h2⟩ := A1D key nonce hk hn count t ht hc k (by omega)
  have hB : (chB key nonce (count + k)).length = 64 := AB5 hk hn (by omega)
  have hl : ((t.drop (64 * k)).take 64).length = min 64 (t.length - 64 * k) := by rw [List.length_take, List.length_drop]
  have hx : (Am8 ((t.drop (64 * k)).take 64) (chB key nonce (count + k))).length = min 64 (t.length - 64 * k) := by rw [AG2 _ _ (by omega), hl]
  refine ⟨by rw [A6o, List.length_append, h1, hx]; omega, fun i hi => ?_⟩
  rw [A6o]
  by_cases hi64 : i < min (64 * k) t.length
  ·rw [AU0 (by omega), h2 i hi64]
  ·have hb : bt ((t.drop (64 * k)).take 64) (i - min (64 * k) t.length) = bt t i := by
    unfold bt
    rw [cN _ (by omega), List.getD_eq_getElem?_getD, List.getD_eq_getElem?_getD, List.getElem?_drop, show 64 * k + (i - min (64 * k) t.length) = i by omega]
   rw [AU9 (by omega), h1, Au5 _ _ _ (by omega) (by omega), hb, show i / 64 = k by omega, show i % 64 = i - min (64 * k) t.length by omega]
theorem A92 (key nonce : List UInt8) (hk : key.length = 32) (hn : nonce.length = 12) (count : Nat) (t : List UInt8) (ht : t.length ≤ 1073741824) (hc : count ≤ 1024) :
  A6o Am8 (chB key nonce) count t ((t.length + 63) / 64) = chX key nonce (t.length / 64 + 1) count t := by
 obtain ⟨a1, a2⟩ := A1D key nonce hk hn count t ht hc ((t.length + 63) / 64) (by omega)
 obtain ⟨b1, b2⟩ := Ac2 key nonce hk hn (t.length / 64 + 1) count t (by omega) (by omega)
 refine A7L (by rw [a1, b1]; omega) fun i hi => ?_
 rw [a1] at hi
 rw [a2 i hi, b2 i (by omega)]
theorem A4Q (key nonce : List UInt8) (hk : key.length = 32) (hn : nonce.length = 12) (count : Nat) (t : List UInt8) (ht : t.length ≤ 1048576) (hc : count ≤ 1024) :
  cM R key nonce (count : Int) t = some (chX key nonce (t.length / 64 + 1) count t, ()) := by
 refine (A53 (f := 132) rfl _).trans (A1A (E := EE) (f := 132) (x := (chX key nonce (t.length / 64 + 1) count t, ())) ?_ ?_)
 ·rfl
 ·rw [← A92 key nonce hk hn count t (by omega) hc]
  exact A7G (E := EE) rfl Am8 (chB key nonce) key nonce t count ht (by omega)
   (fun c hc => A2m _ _ _ (Aw8 key nonce hk hn c (by omega)).1)
   (fun a c hc ha => A2m _ _ _ (Bg1 a (chB key nonce c) (by rw [AB5 hk hn (by omega)]; exact ha) (by rw [AB5 hk hn (by omega)]; decide)))
   (fun a c hc ha => by rw [AG2 _ _ (by rw [AB5 hk hn (by omega)]; exact ha)]; exact ha)
theorem A5b (l : List Nat) (hl : l.length ≤ 262144) : AA6 R (cl l) = some ((cl l).flatMap itx, ()) := by
 have hlen : ∀ l : List Nat, ((cl l).flatMap itx).length = 4 * l.length := fun l => by
  induction l with
  | nil => rfl
  | cons a l ih =>
   show ((itx (a : Int)) ++ (cl l).flatMap itx).length = _
   rw [List.length_append, ih, show (itx (a : Int)).length = 4 from by unfold itx; rw [AK7, jP _ _ (by decide)]]
   simp only [List.length_cons]; omega
 refine (A53 (f := 135) rfl _).trans (A1A (E := EE) (f := 135) (x := ((cl l).flatMap itx, ())) rfl ?_)
 refine A3j (E := EE) (keep := (A3E BT7 134).keep) (mv := (A3E BT7 134).mv) rfl itx (cl l) (by rw [hlen]; omega) (by rw [mF]; omega) fun x hx => ?_
 obtain ⟨n, _, rfl⟩ := List.mem_map.1 hx
 exact A2m _ _ _ (aG n 4 (by decide))
end Go.Rf.S

end
section
namespace Go.Rf.S
set_option maxRecDepth 100000
def BB8 (kind place epoch : Nat) : List UInt8 := ((ub (lit kind 1) ++ ub (lit place 2)) ++ ub (lit 0 1)) ++ ub (lit epoch 8)
theorem Ay5 (a b c : Nat) : (BB8 a b c).length = 12 := by
 unfold BB8
 simp only [List.length_append, AK7, jP _ _ (show 8 ≤ 8 by decide), jP _ _ (show 1 ≤ 8 by decide), jP _ _ (show 2 ≤ 8 by decide)]
theorem A2V (a b c : Nat) : fK R (a : Int) (b : Int) (c : Int) = some (BB8 a b c, ()) ∧ eW R (a : Int) (b : Int) (c : Int) = some (BB8 a b c, ()) := by
 have e1 : ∀ v : Nat, wY R (v : Int) 1 = some (ub (lit v 1), ()) := fun v => aG v 1 (by decide)
 have e2 : ∀ v : Nat, wY R (v : Int) 2 = some (ub (lit v 2), ()) := fun v => aG v 2 (by decide)
 have e8 : ∀ v : Nat, wY R (v : Int) 8 = some (ub (lit v 8), ()) := fun v => aG v 8 (by decide)
 have e0 : wY R 0 1 = some (ub (lit 0 1), ()) := e1 0
 have l1 : ∀ v, (ub (lit v 1)).length = 1 := fun v => by rw [AK7, jP _ _ (by decide)]
 have l2 : ∀ v, (ub (lit v 2)).length = 2 := fun v => by rw [AK7, jP _ _ (by decide)]
 constructor
 ·rw [show fK R (a : Int) (b : Int) (c : Int) = _ from call (A2i R L (a : Int) (b : Int) (c : Int)), e1, e2, e0, e8]
  simp (disch := omega) only [st, l1, l2, AP9]
  rfl
 ·have hm : Min.min (8 : Int).toNat (IntKind.bits .i64) = 8 := rfl
  rw [show eW R (a : Int) (b : Int) (c : Int) = _ from call (A0b R L (a : Int) (b : Int) (c : Int)), A3o, hm, kP, tS, tS, tS]
  rw [show [((a % 256 : Nat) : Int), ((b % 256 : Nat) : Int), ((b / 2 ^ 8 % 256 : Nat) : Int), 0] = cl [a % 256, b % 256, b / 2 ^ 8 % 256, 0] from rfl, Aa5]
  simp (disch := omega) only [st, AP9, AK7, List.length_cons, List.length_nil]
  have : ub [a % 256, b % 256, b / 2 ^ 8 % 256, 0] = (ub (lit a 1) ++ ub (lit b 2)) ++ ub (lit 0 1) := by
   have f1 : lit a 1 = [a / 2 ^ 0 % 256] := rfl
   have f2 : lit b 2 = [b / 2 ^ 0 % 256, b / 2 ^ 8 % 256] := rfl
   have f3 : lit 0 1 = [0] := rfl
   rw [f1, f2, f3, Nat.pow_zero, Nat.div_one, Nat.div_one]; rfl
  rw [this]; rfl
def blk : List UInt8 := [98, 108, 111, 99, 107]
noncomputable def A3O (key nonce ad t : List UInt8) : List UInt8 := chX key nonce (t.length / 64 + 1) 1 t ++ btF key nonce ad (chX key nonce (t.length / 64 + 1) 1 t)
theorem A2t {key nonce : List UInt8} (hk : key.length = 32) (hn : nonce.length = 12) (t : List UInt8) (ht : t.length ≤ 1048576) : (chX key nonce (t.length / 64 + 1) 1 t).length = t.length :=
 (Ac2 key nonce hk hn (t.length / 64 + 1) 1 t (by omega) (by omega)).1
theorem BW7 {key nonce ad t : List UInt8} (hk : key.length = 32) (hn : nonce.length = 12) (ha : ad.length ≤ 1048576) (ht : t.length ≤ 1048576) :
  AO7 R key nonce ad t = some (A3O key nonce ad t, ()) ∧ fQ R key nonce ad t = some (A3O key nonce ad t, ()) ∧ (A3O key nonce ad t).length = t.length + 16 := by
 have hl := A2t hk hn t ht
 obtain ⟨h1, h2, h3⟩ := Av6 (ad := ad) (t := chX key nonce (t.length / 64 + 1) 1 t) hk hn (by omega) (by omega)
 have e1 : cM R key nonce 1 t = some (chX key nonce (t.length / 64 + 1) 1 t, ()) := A4Q key nonce hk hn 1 t ht (by decide)
 have e2 : fA R key nonce 1 t = some (chX key nonce (t.length / 64 + 1) 1 t, ()) := A0f key nonce hk hn 1 t (by omega) (by decide)
 refine ⟨?_, ?_, by unfold A3O; rw [List.length_append, hl, h3]⟩
 ·rw [show AO7 R key nonce ad t = _ from call (BA6 R L key nonce ad t), e1]
  simp (disch := omega) only [st, h1, hl, h3]
  rfl
 ·rw [show fQ R key nonce ad t = _ from call (A2y R L key nonce ad t), e2]
  simp (disch := omega) only [st, h2, hl, h3]
  rfl
noncomputable def Ae8 (key : List UInt8) (a b c : Nat) (t : List UInt8) : List UInt8 := A3O key (BB8 a b c) blk t
theorem Aw0 {key t : List UInt8} (hk : key.length = 32) (ht : t.length ≤ 1048576) (a b c : Nat) :
  jR R key (a : Int) (b : Int) (c : Int) t = some (Ae8 key a b c t, ()) ∧ mR R key (a : Int) (b : Int) (c : Int) t = some (Ae8 key a b c t, ()) ∧ (Ae8 key a b c t).length = t.length + 16 := by
 obtain ⟨h1, h2, h3⟩ := BW7 (ad := blk) (t := t) hk (Ay5 a b c) (by decide) ht
 refine ⟨?_, ?_, h3⟩
 ·rw [show jR R key (a : Int) (b : Int) (c : Int) t = _ from call (A6c R L key (a : Int) (b : Int) (c : Int) t), (A2V a b c).1]
  show (AO7 R key (BB8 a b c) blk t).bind _ = _
  rw [h1]; rfl
 ·rw [show mR R key (a : Int) (b : Int) (c : Int) t = _ from call (A2u R L key (a : Int) (b : Int) (c : Int) t), (A2V a b c).2]
  show (fQ R key (BB8 a b c) blk t).bind _ = _
  rw [h2]; rfl
def A7e (a b : List UInt8) : List UInt8 := dig (([1] ++ a) ++ b)
def A6U (at_ : Nat) (t : List UInt8) : List UInt8 := dig (ub [0, at_ % 256] ++ t)
theorem BH7 {a b : List UInt8} (ha : a.length ≤ 1048576) (hb : b.length ≤ 1048576) : Ad0 R a b = some (A7e a b, ()) ∧ cU R a b = some (A7e a b, ()) := by
 have hl : (([1] ++ a) ++ b).length ≤ 549755813888 := by simp only [List.length_append, List.length_cons, List.length_nil]; omega
 constructor
 ·rw [show Ad0 R a b = _ from call (BC6 R L a b), Az8 _ hl]
  simp (disch := omega) only [st]; rfl
 ·rw [show cU R a b = _ from call (A32 R L a b), A3c _ hl]
  simp (disch := omega) only [st]; rfl
theorem BI7 (i : Nat) {t : List UInt8} (ht : t.length ≤ 1048576) : jX R (i : Int) t = some (A6U i t, ()) ∧ bO R (i : Int) t = some (A6U i t, ()) := by
 have e : List.map (fun n : Int => UInt8.ofNat (Int.toNat n)) [(0 : Int), IntKind.wrap .u8 (i : Int)] = ub [0, i % 256] := by
  rw [tS, show [(0 : Int), ((i % 256 : Nat) : Int)] = cl [0, i % 256] from rfl, Aa5]
 have hl : (ub [0, i % 256] ++ t).length ≤ 549755813888 := by rw [List.length_append, AK7]; simp only [List.length_cons, List.length_nil]; omega
 have h2 : (ub [0, i % 256]).length = 2 := rfl
 constructor
 ·rw [show jX R (i : Int) t = _ from call (Am1 R L (i : Int) t), e, Az8 _ hl]
  simp (disch := omega) only [st, h2]; rfl
 ·rw [show bO R (i : Int) t = _ from call (A3z R L (i : Int) t), e, A3c _ hl]
  simp (disch := omega) only [st, h2]; rfl
def wT : List (List UInt8) → List (List UInt8)
 | a :: b :: r => A7e a b :: wT r
 | _ => []
def Sh (l : List (List UInt8)) : Prop := ∀ s ∈ l, s.length ≤ 1048576
theorem bB : ∀ l, Sh (wT l)
 | [] => fun s h => by cases h
 | [_] => fun s h => by cases h
 | a :: b :: r => fun s h => by
  rcases List.mem_cons.1 h with rfl | h
  ·unfold A7e; rw [A0I]; decide
  ·exact bB r s h
theorem kK : ∀ l : List (List UInt8), (wT l).length = l.length / 2
 | [] => rfl
 | [x] => by show 0 = 1 / 2; rfl
 | a :: b :: r => by
  show (wT r).length + 1 = (r.length + 2) / 2
  rw [kK r]; omega
theorem A8Y (v3 : List (List UInt8)) (v6 : List (List (List UInt8))) (hs : Sh v3) (h3 : v3.length ≤ 64) (h6 : v6.length ≤ 64) : ∀ (r v7 : List (List UInt8)) (j : Nat), j ≤ v3.length → v3.drop j = r → r.length % 2 = 0 → v7.length + r.length ≤ 128 →
  jM R L v3 v6 v7 (j : Int) = rL R L (v7 ++ wT r) (v6 ++ [v7 ++ wT r])
 | [], v7, j, hj, hr, _, h7 => by
  have hj : v3.length ≤ j := List.drop_eq_nil_iff.1 hr
  rw [show jM R L v3 v6 v7 (j : Int) = _ from round (by kernel_rfl) (Ao5 R L v3 v6 v7 (j : Int))]
  simp (disch := omega) only [st, dF]
  rw [show wT [] = [] from rfl, List.append_nil]
 | [_], v7, j, hj, hr, h, h7 => by simp at h
 | a :: b :: r, v7, j, _, hr, h, h7 => by
  obtain ⟨d1, d2, d3, d4⟩ := Bb4 (d := []) hr
  have hj := BH7 (hs a (by rw [← d2]; exact sN (by omega))) (hs b (by rw [← d3]; exact sN (by omega)))
  simp only [List.length_cons] at h h7
  rw [show jM R L v3 v6 v7 (j : Int) = _ from round (by kernel_rfl) (Ao5 R L v3 v6 v7 (j : Int)), A0n (by omega), zB (by omega)]
  simp (disch := omega) only [st, dT, d2, d3, hj.1]
  rw [A8Y v3 v6 hs h3 h6 r _ (j + 2) (by omega) d4 (by omega) (by rw [List.length_append]; simp only [List.length_cons, List.length_nil]; omega), List.append_assoc]
  rfl
theorem A7B (v3 : List (List UInt8)) (hs : Sh v3) (h3 : v3.length ≤ 64) : ∀ (r v7 : List (List UInt8)) (j : Nat), j ≤ v3.length → v3.drop j = r → r.length % 2 = 0 → v7.length + r.length ≤ 128 →
  qC R L v3 v7 (j : Int) = some (v7 ++ wT r, ())
 | [], v7, j, hj, hr, _, h7 => by
  have hj : v3.length ≤ j := List.drop_eq_nil_iff.1 hr
  rw [show qC R L v3 v7 (j : Int) = _ from round (by kernel_rfl) (AI5 R L v3 v7 (j : Int)), zB (by omega)]
  simp (disch := omega) only [st, dF]
  rw [show wT [] = [] from rfl, List.append_nil]
 | [_], v7, j, hj, hr, h, h7 => by simp at h
 | a :: b :: r, v7, j, _, hr, h, h7 => by
  obtain ⟨d1, d2, d3, d4⟩ := Bb4 (d := []) hr
  have hj := BH7 (hs a (by rw [← d2]; exact sN (by omega))) (hs b (by rw [← d3]; exact sN (by omega)))
  simp only [List.length_cons] at h h7
  rw [show qC R L v3 v7 (j : Int) = _ from round (by kernel_rfl) (AI5 R L v3 v7 (j : Int)), A0n (by omega), zB (by omega)]
  simp (disch := omega) only [st, dT, d2, d3, hj.2]
  rw [A7B v3 hs h3 r _ (j + 2) (by omega) d4 (by omega) (by rw [List.length_append]; simp only [List.length_cons, List.length_nil]; omega), List.append_assoc]
  rfl
def tK (l : List (List UInt8)) : List (List UInt8) := l.mapIdx A6U
theorem Ag8 (l : List (List UInt8)) : (tK l).length = l.length := List.length_mapIdx
theorem As3 (l : List (List UInt8)) : Sh (tK l) := fun s h => by
 obtain ⟨i, hi, rfl⟩ := List.mem_mapIdx.1 h
 unfold A6U; rw [A0I]; decide
def Am7 (l : List (List UInt8)) : List UInt8 := (wT (wT (wT (wT (tK l))))).getD 0 []
theorem A9l {v3 : List (List UInt8)} {v6 : List (List (List UInt8))} (hs : Sh v3) (h3 : v3.length ≤ 64) (h1 : 1 < v3.length) (h2 : v3.length % 2 = 0) (h6 : v6.length ≤ 64) :
  rL R L v3 v6 = rL R L (wT v3) (v6 ++ [wT v3]) := by
 rw [show rL R L v3 v6 = _ from round (by kernel_rfl) (An8 R L v3 v6)]
 simp (disch := omega) only [st, dT]
 exact A8Y v3 v6 hs h3 h6 v3 [] 0 (Nat.zero_le _) rfl h2 (by simp only [List.length_nil]; omega)
theorem A9r {v3 : List (List UInt8)} (hs : Sh v3) (h3 : v3.length ≤ 64) (h1 : 1 < v3.length) (h2 : v3.length % 2 = 0) : rO R L v3 = rO R L (wT v3) := by
 have e : eY R v3 = some (wT v3, ()) := Eq.trans (call (A0l R L v3) : eY R v3 = _) (A7B v3 hs h3 v3 [] 0 (Nat.zero_le _) rfl h2 (by simp only [List.length_nil]; omega))
 rw [show rO R L v3 = _ from round (by kernel_rfl) (AN8 R L v3), e]
 simp (disch := omega) only [st, dT]
theorem A7s {l : List (List UInt8)} (hl : l.length = 16) (hs : Sh l) : AG8 R l = some (Am7 l, ()) ∧ aJ R l = some (Am7 l, ()) := by
 have a0 := Ag8 l
 have a1 := kK (tK l)
 have a2 := kK (wT (tK l))
 have a3 := kK (wT (wT (tK l)))
 have a4 := kK (wT (wT (wT (tK l))))
 constructor
 ·have e0 : mU R L [] l (l.length : Int) 0 = rL R L (tK l) [tK l] :=
   Ai1 (fun o i => mU R L o l (l.length : Int) i) l [] A6U (fun o => rL R L o [o]) []
    (fun o ho => by
     rw [show mU R L o l (l.length : Int) (l.length : Nat) = _ from round (by kernel_rfl) (As7 R L o l (l.length : Int) (l.length : Nat))]
     simp (disch := omega) only [st, dF])
    (fun o i hi ho => by
     rw [show mU R L o l (l.length : Int) (i : Nat) = _ from round (by kernel_rfl) (As7 R L o l (l.length : Int) (i : Nat)), zB (by omega)]
     simp only [List.length_nil] at ho
     simp (disch := omega) only [st, dT, (BI7 i (hs _ (sN hi))).1])
  have e : Ab9 R l = some ([tK l, wT (tK l), wT (wT (tK l)), wT (wT (wT (tK l))), wT (wT (wT (wT (tK l))))], ()) := by
   rw [show Ab9 R l = _ from call (BD6 R L l), e0, A9l (As3 l) (by omega) (by omega) (by omega) (by simp), A9l (bB _) (by omega) (by omega) (by omega) (by simp), A9l (bB _) (by omega) (by omega) (by omega) (by simp), A9l (bB _) (by omega) (by omega) (by omega) (by simp)]
   generalize hV : ([tK l] ++ [wT (tK l)] ++ [wT (wT (tK l))] ++ [wT (wT (wT (tK l)))] ++ [wT (wT (wT (wT (tK l))))]) = V
   rw [show rL R L (wT (wT (wT (wT (tK l))))) V = _ from round (by kernel_rfl) (An8 R L _ _)]
   simp (disch := omega) only [st, dF]
   rw [← hV]; rfl
  rw [show AG8 R l = _ from call (A9j R L l), e]
  show cond (Nat.blt 4 5) (cond (Nat.blt 0 (wT (wT (wT (wT (tK l))))).length) (some (Am7 l, ())) none) none = _
  rw [yP (show 0 < (wT (wT (wT (wT (tK l))))).length by omega)]; rfl
 ·have e : gJ R l = some (tK l, ()) := Eq.trans (call (Au7 R L l) : gJ R l = _)
   (Ai1 (fun o i => rA R L l o i) l [] A6U (fun o => some (o, ())) []
    (fun o ho => by
     rw [show rA R L l o (l.length : Nat) = _ from round (by kernel_rfl) (AC8 R L l o (l.length : Nat))]
     simp (disch := omega) only [st, dF])
    (fun o i hi ho => by
     rw [show rA R L l o (i : Nat) = _ from round (by kernel_rfl) (AC8 R L l o (i : Nat)), zB (by omega)]
     simp only [List.length_nil] at ho
     simp (disch := omega) only [st, dT, (BI7 i (hs _ (sN hi))).2]))
  rw [show aJ R l = _ from call (A2Y R L l), e]
  simp only [st]
  rw [A9r (As3 l) (by omega) (by omega) (by omega), A9r (bB _) (by omega) (by omega) (by omega), A9r (bB _) (by omega) (by omega) (by omega), A9r (bB _) (by omega) (by omega) (by omega)]
  rw [show rO R L (wT (wT (wT (wT (tK l))))) = _ from round (by kernel_rfl) (AN8 R L _)]
  simp (disch := omega) only [st, dF]
  rfl
end Go.Rf.S

end
section
namespace Go.Rf.S
set_option maxRecDepth 100000
theorem aX (R : Run EE) (s0 : Int)  : vJ EE R (.mk 148 .nil) [⟨(.int .i64), s0⟩] = (oY R s0 ).map (·.1) := by kernel_rfl
theorem AN9 (R : Run EE) (s0 : Int) (a0 : FnVal) : vJ EE R (.mk 157 (.fn a0 .nil)) [⟨(.int .i64), s0⟩] = (kX R s0 a0).map (·.1) := by kernel_rfl
theorem aZ (R : Run EE) (s0 : (Int × (Int × (Int × Unit)))) (a0 : FnVal) : vJ EE R (.mk 159 (.fn a0 .nil)) [⟨(.pair (.int .i64) (.pair (.int .i64) (.pair (.int .i64) .unit))), s0⟩] = (oM R s0 a0).map (·.1) := by kernel_rfl
abbrev A5V : FuncId := 117
theorem A27 (R : Run EE) (s0 : Int)  : vJ EE R (.mk 117 .nil) [⟨(.int .i64), s0⟩] = (lD R s0 ).map (·.1) := by kernel_rfl
theorem A0t (R : Run EE) (s0 : (Int × (Int × (Int × Unit)))) (a0 : Int) : vJ EE R (.mk 119 (.int .i64 a0 .nil)) [⟨(.pair (.int .i64) (.pair (.int .i64) (.pair (.int .i64) .unit))), s0⟩] = (AM0 R s0 a0).map (·.1) := by kernel_rfl
theorem AA7 (R : Run EE) (s0 : List UInt8) (a0 : FnVal) : vJ EE R (.mk 81 (.fn a0 .nil)) [⟨.str, s0⟩] = (nR R s0 a0).map (·.1) := by kernel_rfl
theorem AN2 (R : Run EE) (s0 : (Int × (List UInt8 × Unit))) (a0 : FnVal) : vJ EE R (.mk 168 (.fn a0 .nil)) [⟨(.pair (.int .i64) (.pair .str .unit)), s0⟩] = (lS R s0 a0).map (·.1) := by kernel_rfl
theorem Ak3 (R : Run EE) (s0 : List UInt8)  : vJ EE R (.mk 127 .nil) [⟨.str, s0⟩] = (kG R s0 ).map (·.1) := by kernel_rfl
theorem Aj3 (R : Run EE) (s0 : (Int × (List UInt8 × Unit)))  : vJ EE R (.mk 129 .nil) [⟨(.pair (.int .i64) (.pair .str .unit)), s0⟩] = (jY R s0 ).map (·.1) := by kernel_rfl
theorem Ah5 (R : Run EE) (s0 : List UInt8)  : vJ EE R (.mk 45 .nil) [⟨.str, s0⟩] = (dO R s0 ).map (·.1) := by kernel_rfl
theorem bN (R : Run EE) (s0 : (Int × (List (Int) × Unit))) (a0 : FnVal) : vJ EE R (.mk 188 (.fn a0 .nil)) [⟨(.pair (.int .i64) (.pair (.sl (.int .i64)) .unit)), s0⟩] = (pL R s0 a0).map (·.1) := by kernel_rfl
theorem A1U (R : Run EE) (s0 : Int)  : vJ EE R (.mk 165 .nil) [⟨(.int .i64), s0⟩] = (fY R s0 ).map (·.1) := by kernel_rfl
theorem Ax6 (R : Run EE) (s0 : (Int × (List (Int) × Unit)))  : vJ EE R (.mk 150 .nil) [⟨(.pair (.int .i64) (.pair (.sl (.int .i64)) .unit)), s0⟩] = (eL R s0 ).map (·.1) := by kernel_rfl
theorem jK (x : List (Int)) (w : FnVal) (p : Int → Bool) (hl : x.length ≤ 4611686018427387904) (hp : ∀ s ∈ x, vJ EE R w [⟨(.int .i64), s⟩] = some (p s)) : vH R x w = some (A9R p x 0, ()) := by
 have hq : vH R x w = _ := call (iV R L x w)
 have hq0 : uO R L x w 0 x.length 0 = _ := round (by kernel_rfl) (jS R L x w 0 x.length 0)
 have hq1 : zN R L x w 0 0 x.length 0 = _ := round (by kernel_rfl) (uU R L x w 0 0 x.length 0)
 rw [hq, hq0.trans hq1.symm]
 refine AV4 (fun a i => zN R L x w 0 a x.length i) x (0 : Int) p (fun a => ?_) (fun a i hlt => ?_) _ 0 0 rfl (Nat.zero_le _)
 ·have hq : zN R L x w 0 a x.length (x.length : Nat) = _ := round (by kernel_rfl) (uU R L x w 0 a x.length (x.length : Nat))
  show zN R L x w 0 a x.length (x.length : Nat) = _
  rw [hq, A2M (Nat.le_refl _)]; rfl
 ·have hq : zN R L x w 0 a x.length i = _ := round (by kernel_rfl) (uU R L x w 0 a x.length i)
  show zN R L x w 0 a x.length i = _
  rw [hq, A2B hlt, nn, tn, yP hlt, zB (by omega)]
  simp only [cond_true]
  rw [hp _ (sN (d := (0 : Int)) hlt)]
  rfl
theorem oP (x : List ((Int × (Int × (Int × Unit))))) (w : FnVal) (p : (Int × (Int × (Int × Unit))) → Bool) (hl : x.length ≤ 4611686018427387904) (hp : ∀ s ∈ x, vJ EE R w [⟨(.pair (.int .i64) (.pair (.int .i64) (.pair (.int .i64) .unit))), s⟩] = some (p s)) : xH R x w = some (A9R p x 0, ()) := by
 have hq : xH R x w = _ := call (nQ R L x w)
 rw [hq]
 refine AV4 (fun (_ : Int) i => zH R L x w x.length i) x ((0 : Int), ((0 : Int), ((0 : Int), ()))) p (fun a => ?_) (fun a i hlt => ?_) _ 0 0 rfl (Nat.zero_le _)
 ·have hq : zH R L x w x.length (x.length : Nat) = _ := round (by kernel_rfl) (tI R L x w x.length (x.length : Nat))
  show zH R L x w x.length (x.length : Nat) = _
  rw [hq, A2M (Nat.le_refl _)]; rfl
 ·have hq : zH R L x w x.length i = _ := round (by kernel_rfl) (tI R L x w x.length i)
  show zH R L x w x.length i = _
  rw [hq, A2B hlt, nn, tn, yP hlt, zB (by omega)]
  simp only [cond_true]
  rw [hp _ (sN (d := ((0 : Int), ((0 : Int), ((0 : Int), ())))) hlt)]
  rfl
theorem nX (x : List (List UInt8)) (w : FnVal) (p : List UInt8 → Bool) (hl : x.length ≤ 4611686018427387904) (hp : ∀ s ∈ x, vJ EE R w [⟨.str, s⟩] = some (p s)) : xS R x w = some (A9R p x 0, ()) := by
 have hq : xS R x w = _ := call (mT R L x w)
 have hq0 : wR R L x w 0 x.length 0 = _ := round (by kernel_rfl) (nW R L x w 0 x.length 0)
 have hq1 : zG R L x w 0 0 x.length 0 = _ := round (by kernel_rfl) (wU R L x w 0 0 x.length 0)
 rw [hq, hq0.trans hq1.symm]
 refine AV4 (fun a i => zG R L x w 0 a x.length i) x ([] : List UInt8) p (fun a => ?_) (fun a i hlt => ?_) _ 0 0 rfl (Nat.zero_le _)
 ·have hq : zG R L x w 0 a x.length (x.length : Nat) = _ := round (by kernel_rfl) (wU R L x w 0 a x.length (x.length : Nat))
  show zG R L x w 0 a x.length (x.length : Nat) = _
  rw [hq, A2M (Nat.le_refl _)]; rfl
 ·have hq : zG R L x w 0 a x.length i = _ := round (by kernel_rfl) (wU R L x w 0 a x.length i)
  show zG R L x w 0 a x.length i = _
  rw [hq, A2B hlt, nn, tn, yP hlt, zB (by omega)]
  simp only [cond_true]
  rw [hp _ (sN (d := ([] : List UInt8)) hlt)]
  rfl
theorem lM (x : List ((Int × (List UInt8 × Unit)))) (w : FnVal) (p : (Int × (List UInt8 × Unit)) → Bool) (hl : x.length ≤ 4611686018427387904) (hp : ∀ s ∈ x, vJ EE R w [⟨(.pair (.int .i64) (.pair .str .unit)), s⟩] = some (p s)) : wP R x w = some (A9R p x 0, ()) := by
 have hq : wP R x w = _ := call (kY R L x w)
 have hq0 : vU R L x w 0 x.length 0 = _ := round (by kernel_rfl) (lX R L x w 0 x.length 0)
 have hq1 : zK R L x w 0 0 x.length 0 = _ := round (by kernel_rfl) (uD R L x w 0 0 x.length 0)
 rw [hq, hq0.trans hq1.symm]
 refine AV4 (fun a i => zK R L x w 0 a x.length i) x ((0 : Int), (([] : List UInt8), ())) p (fun a => ?_) (fun a i hlt => ?_) _ 0 0 rfl (Nat.zero_le _)
 ·have hq : zK R L x w 0 a x.length (x.length : Nat) = _ := round (by kernel_rfl) (uD R L x w 0 a x.length (x.length : Nat))
  show zK R L x w 0 a x.length (x.length : Nat) = _
  rw [hq, A2M (Nat.le_refl _)]; rfl
 ·have hq : zK R L x w 0 a x.length i = _ := round (by kernel_rfl) (uD R L x w 0 a x.length i)
  show zK R L x w 0 a x.length i = _
  rw [hq, A2B hlt, nn, tn, yP hlt, zB (by omega)]
  simp only [cond_true]
  rw [hp _ (sN (d := ((0 : Int), (([] : List UInt8), ()))) hlt)]
  rfl
theorem pM (x : List ((Int × (List (Int) × Unit)))) (w : FnVal) (p : (Int × (List (Int) × Unit)) → Bool) (hl : x.length ≤ 4611686018427387904) (hp : ∀ s ∈ x, vJ EE R w [⟨(.pair (.int .i64) (.pair (.sl (.int .i64)) .unit)), s⟩] = some (p s)) : xA R x w = some (A9R p x 0, ()) := by
 have hq : xA R x w = _ := call (oX R L x w)
 have hq0 : xW R L x w 0 x.length 0 = _ := round (by kernel_rfl) (pJ R L x w 0 x.length 0)
 have hq1 : zD R L x w 0 0 x.length 0 = _ := round (by kernel_rfl) (wB R L x w 0 0 x.length 0)
 rw [hq, hq0.trans hq1.symm]
 refine AV4 (fun a i => zD R L x w 0 a x.length i) x ((0 : Int), (([] : List (Int)), ())) p (fun a => ?_) (fun a i hlt => ?_) _ 0 0 rfl (Nat.zero_le _)
 ·have hq : zD R L x w 0 a x.length (x.length : Nat) = _ := round (by kernel_rfl) (wB R L x w 0 a x.length (x.length : Nat))
  show zD R L x w 0 a x.length (x.length : Nat) = _
  rw [hq, A2M (Nat.le_refl _)]; rfl
 ·have hq : zD R L x w 0 a x.length i = _ := round (by kernel_rfl) (wB R L x w 0 a x.length i)
  show zD R L x w 0 a x.length i = _
  rw [hq, A2B hlt, nn, tn, yP hlt, zB (by omega)]
  simp only [cond_true]
  rw [hp _ (sN (d := ((0 : Int), (([] : List (Int)), ()))) hlt)]
  rfl
theorem lK (x : List (Int)) (w : FnVal) (p : Int → Bool) (hl : x.length ≤ 4611686018427387904) (hp : ∀ s ∈ x, vJ EE R w [⟨(.int .i64), s⟩] = some (p s)) : wF R x w = some (x.any p, ()) := by
 have hq : wF R x w = _ := call (kR R L x w)
 rw [hq, jK x w p hl hp]
 simp only [Option.bind_some]
 rw [AF9]
theorem pA (x : List ((Int × (Int × (Int × Unit))))) (w : FnVal) (p : (Int × (Int × (Int × Unit))) → Bool) (hl : x.length ≤ 4611686018427387904) (hp : ∀ s ∈ x, vJ EE R w [⟨(.pair (.int .i64) (.pair (.int .i64) (.pair (.int .i64) .unit))), s⟩] = some (p s)) : yV R x w = some (x.any p, ()) := by
 have hq : yV R x w = _ := call (oA R L x w)
 rw [hq, oP x w p hl hp]
 simp only [Option.bind_some]
 rw [AF9]
theorem oB (x : List (List UInt8)) (w : FnVal) (p : List UInt8 → Bool) (hl : x.length ≤ 4611686018427387904) (hp : ∀ s ∈ x, vJ EE R w [⟨.str, s⟩] = some (p s)) : xC R x w = some (x.any p, ()) := by
 have hq : xC R x w = _ := call (nM R L x w)
 rw [hq, nX x w p hl hp]
 simp only [Option.bind_some]
 rw [AF9]
theorem mD (x : List ((Int × (List UInt8 × Unit)))) (w : FnVal) (p : (Int × (List UInt8 × Unit)) → Bool) (hl : x.length ≤ 4611686018427387904) (hp : ∀ s ∈ x, vJ EE R w [⟨(.pair (.int .i64) (.pair .str .unit)), s⟩] = some (p s)) : xY R x w = some (x.any p, ()) := by
 have hq : xY R x w = _ := call (lJ R L x w)
 rw [hq, lM x w p hl hp]
 simp only [Option.bind_some]
 rw [AF9]
theorem qF (x : List ((Int × (List (Int) × Unit)))) (w : FnVal) (p : (Int × (List (Int) × Unit)) → Bool) (hl : x.length ≤ 4611686018427387904) (hp : ∀ s ∈ x, vJ EE R w [⟨(.pair (.int .i64) (.pair (.sl (.int .i64)) .unit)), s⟩] = some (p s)) : yQ R x w = some (x.any p, ()) := by
 have hq : yQ R x w = _ := call (qV R L x w)
 rw [hq, pM x w p hl hp]
 simp only [Option.bind_some]
 rw [AF9]
theorem jN (x : List (Int)) (v : FnVal) (p : Int → Bool) (hl : x.length ≤ 4611686018427387904) (hp : ∀ s ∈ x, vJ EE R v [⟨(.int .i64), s⟩] = some (p s)) : wI R x v = some (x.all p, ()) := by
 have hq : wI R x v = _ := call (Ag1 R L x v)
 rw [hq, lK x (.mk 157 (.fn v .nil)) (fun s => !p s) hl (fun s hs => by
  have h1 : kX R s v = _ := call (AS6 R L s v)
  rw [AN9, h1, hp s hs]; rfl)]
 simp only [Option.bind_some]
 rw [Ad9]
theorem AC9 (x : List ((Int × (Int × (Int × Unit))))) (v : FnVal) (p : (Int × (Int × (Int × Unit))) → Bool) (hl : x.length ≤ 4611686018427387904) (hp : ∀ s ∈ x, vJ EE R v [⟨(.pair (.int .i64) (.pair (.int .i64) (.pair (.int .i64) .unit))), s⟩] = some (p s)) : qN R x v = some (x.all p, ()) := by
 have hq : qN R x v = _ := call (AM8 R L x v)
 rw [hq, pA x (.mk 159 (.fn v .nil)) (fun s => !p s) hl (fun s hs => by
  have h1 : oM R s v = _ := call (AD6 R L s v)
  rw [aZ, h1, hp s hs]; rfl)]
 simp only [Option.bind_some]
 rw [Ad9]
theorem gC (x : List (List UInt8)) (v : FnVal) (p : List UInt8 → Bool) (hl : x.length ≤ 4611686018427387904) (hp : ∀ s ∈ x, vJ EE R v [⟨.str, s⟩] = some (p s)) : tN R x v = some (x.all p, ()) := by
 have hq : tN R x v = _ := call (AP2 R L x v)
 rw [hq, oB x (.mk 81 (.fn v .nil)) (fun s => !p s) hl (fun s hs => by
  have h1 : nR R s v = _ := call (AH4 R L s v)
  rw [AA7, h1, hp s hs]; rfl)]
 simp only [Option.bind_some]
 rw [Ad9]
theorem AQ3 (x : List ((Int × (List UInt8 × Unit)))) (v : FnVal) (p : (Int × (List UInt8 × Unit)) → Bool) (hl : x.length ≤ 4611686018427387904) (hp : ∀ s ∈ x, vJ EE R v [⟨(.pair (.int .i64) (.pair .str .unit)), s⟩] = some (p s)) : mN R x v = some (x.all p, ()) := by
 have hq : mN R x v = _ := call (Ab0 R L x v)
 rw [hq, mD x (.mk 168 (.fn v .nil)) (fun s => !p s) hl (fun s hs => by
  have h1 : lS R s v = _ := call (AO4 R L s v)
  rw [AN2, h1, hp s hs]; rfl)]
 simp only [Option.bind_some]
 rw [Ad9]
theorem aV (x : List ((Int × (List (Int) × Unit)))) (v : FnVal) (p : (Int × (List (Int) × Unit)) → Bool) (hl : x.length ≤ 4611686018427387904) (hp : ∀ s ∈ x, vJ EE R v [⟨(.pair (.int .i64) (.pair (.sl (.int .i64)) .unit)), s⟩] = some (p s)) : rQ R x v = some (x.all p, ()) := by
 have hq : rQ R x v = _ := call (AH5 R L x v)
 rw [hq, qF x (.mk 188 (.fn v .nil)) (fun s => !p s) hl (fun s hs => by
  have h1 : pL R s v = _ := call (AA2 R L s v)
  rw [bN, h1, hp s hs]; rfl)]
 simp only [Option.bind_some]
 rw [Ad9]
abbrev cB : Type := (Int × (Int × (Int × (Int × (List UInt8 × (List UInt8 × (List UInt8 × Unit)))))))
abbrev Be7 : Type := (Int × (List UInt8 × Unit))
abbrev aN : Type := (List (List UInt8) × (List (Be7) × Unit))
abbrev xU : Type := (List UInt8 × (cB × (aN × (Bool × (Bool × Unit)))))
abbrev A6E : Type := (List ((Int × (Int × (Int × Unit)))) × Unit)
abbrev A4Y : Type := (Int × (List (Int) × Unit))
end Go.Rf.S

end
section
namespace Go.Rf.S
set_option maxRecDepth 100000
def inB (n a b : Int) : Bool := decide (a ≤ n) && decide (n ≤ b)
theorem nP {n a b : Int} (h : inB n a b = true) : a ≤ n ∧ n ≤ b := by
 unfold inB at h
 simpa using h
theorem A67 (n a b : Int) : AP1 R n a b = some (inB n a b, ()) := by
 have hq : AP1 R n a b = _ := call (A8s R L n a b)
 rw [hq]
 unfold inB
 cases decide (a ≤ n) <;> rfl
theorem sX (n a b : Int) : tM R n a b = some (inB n a b, ()) := by
 have hq : tM R n a b = _ := call (A54 R L n a b)
 rw [hq]
 unfold inB
 cases decide (a ≤ n) <;> rfl
theorem A18 (n : Int) : eR R n = some (inB n 0 39, ()) := by
 have hq : eR R n = _ := call (A1B R L n)
 rw [hq, sX]; rfl
theorem A63 (n : Int) : Ag5 R n = some (inB n 1 9999, ()) := by
 have hq : Ag5 R n = _ := call (A7O R L n)
 rw [hq, sX]; rfl
theorem Ae9 (n : Int) : fY R n = some (inB n 0 999999, ()) := by
 have hq : fY R n = _ := call (A3m R L n)
 rw [hq, sX]; rfl
def A0P (t : List UInt8) : Bool := decide (t.length = 32)
theorem A80 (t : List UInt8) : eqI (t.length : Int) 32 = A0P t := by
 unfold A0P
 rw [oJ]
 by_cases h : t.length = 32
 ·rw [decide_eq_true h, decide_eq_true (by omega)]
 ·rw [decide_eq_false h, decide_eq_false (by omega)]
theorem AD8 (t : List UInt8) : lE R t = some (A0P t, ()) := by
 have hq : lE R t = _ := call (A1R R L t)
 rw [hq, A80]
theorem A3C (a b : Int) : Av8 a b = min a b := by
 unfold Av8
 by_cases h : b < a
 ·rw [decide_eq_true h]; simp only [cond_true]; omega
 ·rw [decide_eq_false h]; simp only [cond_false]; omega
def Bd3 (x : Be7) : Bool := inB x.1 0 39 && decide (x.2.1.length ≤ 700)
def A91 (s : List UInt8) : Bool := decide (s.length ≤ 700)
def A0e (d : aN) : Bool := decide (d.1.length = 40) && (decide (d.2.1.length ≤ 60) && (d.1.all A91 && d.2.1.all Bd3))
theorem leN (n m : Nat) : decide ((n : Int) ≤ (m : Int)) = decide (n ≤ m) := decide_eq_decide.2 (by omega)
theorem AP3 (s : List UInt8) : kG R s = some (A91 s, ()) := by
 have hq : kG R s = _ := call (Az7 R L s)
 rw [hq, show (700 : Int) = ((700 : Nat) : Int) from rfl, leN]; rfl
theorem Am4 (s : Be7) : jY R s = some (Bd3 s, ()) := by
 have hq : jY R s = _ := call (Al8 R L s)
 rw [hq, A18]
 simp only [Option.bind_some]
 rw [AP3]
 unfold Bd3 A91
 cases inB s.1 0 39 <;> rfl
theorem A1G (d : aN) : eZ R d = some (A0e d, ()) := by
 have hq : eZ R d = _ := call (A1x R L d)
 rw [hq, oJ]
 unfold A0e
 by_cases h : d.1.length = 40
 ·rw [show decide ((d.1.length : Int) = 40) = true from decide_eq_true (by omega), decide_eq_true h]
  simp only [cond_true]
  rw [gC d.1 _ A91 (by omega) (fun s _ => by rw [Ak3, AP3]; rfl)]
  simp only [Option.bind_some]
  by_cases h2 : d.2.1.length ≤ 60
  ·rw [show decide ((d.2.1.length : Int) ≤ (60 : Int)) = true from decide_eq_true (by omega), decide_eq_true h2]
   simp only [cond_true]
   rw [AQ3 d.2.1 _ Bd3 (by omega) (fun s _ => by rw [Aj3, Am4]; rfl)]
   cases d.1.all A91 <;> simp
  ·rw [show decide ((d.2.1.length : Int) ≤ (60 : Int)) = false from decide_eq_false (by omega), decide_eq_false h2]
   cases d.1.all A91 <;> simp
 ·rw [show decide ((d.1.length : Int) = 40) = false from decide_eq_false (by omega), decide_eq_false h]; rfl
def Ay1 (x : cB) : Bool := inB x.1 0 1000000 && (inB x.2.1 0 1 && (inB x.2.2.2.1 0 1000000 && (inB x.2.2.1 x.1 (min (x.1 + 4) 1000000) && (A0P x.2.2.2.2.1 && (A0P x.2.2.2.2.2.1 && (A0P x.2.2.2.2.2.2.1 && (decide (x.1 < x.2.2.1) || decide (x.2.2.2.2.1 = x.2.2.2.2.2.1))))))))
theorem AK8 (x : cB) : mA R x = some (Ay1 x, ()) := by
 have hq : mA R x = _ := call (Ak4 R L x)
 have hq2 : uN R x = _ := call (iY R L x)
 rw [hq, sX]
 unfold Ay1
 simp only [Option.bind_some]
 cases h0 : inB x.1 0 1000000 with
 | false => rfl
 | true =>
  have hb := nP h0
  simp only [cond_true, Bool.true_and]
  rw [sX]
  simp only [Option.bind_some]
  cases inB x.2.1 0 1 with
  | false => rfl
  | true =>
   simp only [cond_true, Bool.true_and]
   rw [sX, A3C, zO (by omega) (by omega)]
   simp only [Option.bind_some]
   cases h2 : inB x.2.2.1 x.1 (min (x.1 + 4) 1000000) with
   | false => cases inB x.2.2.2.1 0 1000000 <;> rfl
   | true =>
    have hc := nP h2
    simp only [cond_true, Bool.true_and]
    rw [sX, AD8, AD8, AD8, hq2, zO (by omega) (by omega)]
    simp only [Option.bind_some, Ai9]
    rw [show decide ((0 : Int) < x.2.2.1 - x.1) = decide (x.1 < x.2.2.1) from decide_eq_decide.2 (by omega)]
    cases inB x.2.2.2.1 0 1000000 <;> cases A0P x.2.2.2.2.1 <;> cases A0P x.2.2.2.2.2.1 <;> cases A0P x.2.2.2.2.2.2.1 <;> cases decide (x.1 < x.2.2.1) <;> rfl
def A2x (d : aN) : Bool := decide (d.2.1.length = 0)
theorem BD1 (d : aN) : eqI (d.2.1.length : Int) 0 = A2x d := by
 unfold A2x
 rw [oJ]
 exact decide_eq_decide.2 (by omega)
def eG (x : xU) : Bool := A0P x.1 && (Ay1 x.2.1 && (A0e x.2.2.1 && (A2x x.2.2.1 && !(x.2.2.2.1 && x.2.2.2.2.1))))
theorem A6j (d : aN) : AG0 R d = some (A0e d && A2x d, ()) := by
 have hq : AG0 R d = _ := call (A6f R L d)
 rw [hq, A1G, BD1]
 simp only [Option.bind_some]
 cases A0e d <;> rfl
theorem bJ (x : xU) : mS R x = some (eG x, ()) := by
 have hq : mS R x = _ := call (A3n R L x)
 rw [hq, AK8, A6j]
 simp only [Option.bind_some, A80]
 unfold eG
 cases A0P x.1 <;> cases Ay1 x.2.1 <;> cases A0e x.2.2.1 <;> cases A2x x.2.2.1 <;> cases x.2.2.2.1 <;> rfl
theorem A77 {i : Nat} (h : i + 1 < 9223372036854775807) : IntKind.wrap .i64 (((i + 1 : Nat) : Int) - 1) = (i : Int) := by
 rw [zO (by omega) (by omega)]; omega
def A93 (r : A4Y) : Bool := inB r.1 0 19 && (decide (r.2.1.length ≤ 32) && ((decide (r.1 = 0) || decide (r.2.1.length = 0)) && r.2.1.all fun n => inB n 0 999999))
def Ao2 (l : List A4Y) : Bool := decide (l.length ≤ 2) && l.all A93
end Go.Rf.S

end
section
namespace Go.Rf.S
set_option maxRecDepth 100000
theorem A8v (l : List Int) (h : l.length ≤ 1099511627776) : vB R l = some (l, ()) := by
 rw [show vB R l = _ from call (dL R L l)]
 cases l with
 | nil => exact cR _
 | cons a l => show cond (yB (0 + (a :: l).length)) (some (a :: l, ())) none = _; rw [uB (by omega)]; rfl
def NN (l : List Int) : Prop := ∀ x ∈ l, 0 ≤ x
theorem NN.app {a b : List Int} (ha : NN a) (hb : NN b) : NN (a ++ b) := fun x hx => (List.mem_append.1 hx).elim (ha x) (hb x)
theorem NN.cl {l : List Int} (h : NN l) : ∃ m : List Nat, l = cl m := ⟨l.map Int.toNat, by
 unfold Go.Rf.cl
 rw [List.map_map]
 have : ∀ x ∈ l, ((fun x : Nat => (x : Int)) ∘ Int.toNat) x = id x := fun x hx => Int.toNat_of_nonneg (h x hx)
 rw [List.map_congr_left this, List.map_id]⟩
theorem NN.rep (n : Nat) : NN (List.replicate n (0 : Int)) := fun x hx => by rw [(List.mem_replicate.1 hx).2]; decide
theorem A8k (x : Int) : (itx x).length = 4 := by unfold itx; rw [AK7, jP _ _ (by decide)]
theorem Ab8 (l : List Int) : (l.flatMap itx).length = 4 * l.length := by
 induction l with
 | nil => rfl
 | cons a l ih => rw [List.flatMap_cons, List.length_append, ih, A8k]; simp only [List.length_cons]; omega
theorem BX2 (a b : List Nat) : ub (a ++ b) = ub a ++ ub b := List.map_append
theorem BX4 (l : List Nat) : (cl l).flatMap itx = ub (l.flatMap fun x => lit x 4) := by
 induction l with
 | nil => rfl
 | cons a l ih =>
  rw [List.flatMap_cons, BX2, ← ih]; rfl
theorem Ba9 (l : List Nat) (hl : l.length ≤ 1000) : fW R (cl l) = some ((cl l).flatMap itx, ()) := by
 have h := AH0 (fun (o : List Nat) i => pH R L (cl l) (cl o) i) l 0 (fun x => lit x 4) (fun o => some (ub o, ())) [] 4 (fun x _ => by rw [jP _ _ (by decide)]; omega)
  (fun o ho => by
   rw [show pH R L (cl l) (cl o) (l.length : Nat) = _ from round (by kernel_rfl) (AR5 R L (cl l) (cl o) (l.length : Nat)), Aa5, mF]
   simp (disch := omega) only [st, dF])
  (fun o i hi ho _ => by
   simp only [List.length_nil] at ho
   rw [show pH R L (cl l) (cl o) (i : Nat) = _ from round (by kernel_rfl) (AR5 R L (cl l) (cl o) (i : Nat)), mF, zB (by omega)]
   simp (disch := omega) only [st, dT, yA, A78 o (by omega)])
 rw [show fW R (cl l) = _ from call (A2j R L (cl l)), BX4]
 exact h
theorem BE6 {l : List Int} (h : NN l) (hl : l.length ≤ 1000) : AA6 R l = some (l.flatMap itx, ()) ∧ fW R l = some (l.flatMap itx, ()) := by
 obtain ⟨m, rfl⟩ := h.cl
 rw [mF] at hl
 exact ⟨A5b m (by omega), Ba9 m hl⟩
def fil (l : List Int) (n : Nat) : List Int := l ++ List.replicate (n - l.length) 0
theorem A65 {l : List Int} {n : Nat} (h : l.length ≤ n) : (fil l n).length = n := by unfold fil; rw [List.length_append, List.length_replicate]; omega
theorem BF9 (n : Nat) (hn : n ≤ 1000) : ∀ (k : Nat) (l : List Int), l.length + k = n → NN l → pF R L l (n : Int) = some ((fil l n).flatMap itx, ())
 | 0, l, h, hl => by
  rw [show pF R L l (n : Int) = _ from round (by kernel_rfl) (AQ7 R L l (n : Int))]
  simp (disch := omega) only [st, dF, (BE6 hl (by omega)).2]
  unfold fil
  rw [show n - l.length = 0 by omega, List.replicate_zero, List.append_nil]
 | k + 1, l, h, hl => by
  rw [show pF R L l (n : Int) = _ from round (by kernel_rfl) (AQ7 R L l (n : Int))]
  simp (disch := omega) only [st, dT]
  rw [BF9 n hn k (l ++ [0]) (by rw [List.length_append]; simp only [List.length_cons, List.length_nil]; omega) (hl.app (NN.rep 1))]
  unfold fil
  rw [List.append_assoc, show n - l.length = (n - (l ++ [0]).length) + 1 by rw [List.length_append]; simp only [List.length_cons, List.length_nil]; omega]
  rfl
theorem BH8 {l : List Int} {n : Nat} (hn : n ≤ 1000) (h : l.length ≤ n) (hl : NN l) : nJ R l (n : Int) = some ((fil l n).flatMap itx, ()) ∧ sK R l (n : Int) = some ((fil l n).flatMap itx, ()) := by
 constructor
 ·rw [show nJ R l (n : Int) = _ from call (A5P R L l (n : Int)), show IntKind.wrap .i64 ((n : Int) - (l.length : Int)) = ((n - l.length : Nat) : Int) by rw [zO (by omega) (by omega)]; omega]
  simp (disch := omega) only [st, List.length_replicate, (BE6 (hl.app (NN.rep (n - l.length))) (by rw [List.length_append, List.length_replicate]; omega)).1]
  rfl
 ·exact Eq.trans (call (A3B R L l (n : Int)) : sK R l (n : Int) = _) (BF9 n hn (n - l.length) l (by omega) hl)
abbrev DB : Type := Int × (Int × (Int × Unit))
abbrev DR : Type := Int × (List Int × Unit)
abbrev DE : Type := List Int × ((List Int × (List DB × (List (List DB) × Unit))) × Unit)
def b3 (b : DB) : List Int := [b.1, b.2.1, b.2.2.1]
def A5E (l : List DB) : List Int := (l.length : Int) :: l.flatMap b3
def BJ0 (r : DR) : List Int := [r.1, (r.2.1.length : Int)] ++ r.2.1
theorem BU9 (l : List DB) : (l.flatMap b3).length = 3 * l.length := by
 induction l with
 | nil => rfl
 | cons a l ih => rw [List.flatMap_cons, List.length_append, ih]; simp only [b3, List.length_cons, List.length_nil]; omega
theorem AF0 (l : List DB) : (A5E l).length = 3 * l.length + 1 := by unfold A5E; rw [List.length_cons, BU9]
theorem BY3 (l : List DB) (hl : l.length ≤ 1000) : mG R l = some (A5E l, ()) := by
 have h := AH0 (fun (o : List Int) i => sD R L o l (l.length : Int) i) l (0, (0, (0, ()))) b3 (fun o => some (o, ())) [(l.length : Int)] 3 (fun x _ => Nat.le_refl _)
  (fun o ho => by
   rw [show sD R L o l (l.length : Int) (l.length : Nat) = _ from round (by kernel_rfl) (aS R L o l (l.length : Int) (l.length : Nat))]
   simp (disch := omega) only [st, dF])
  (fun o i hi ho _ => by
   simp only [List.length_cons, List.length_nil] at ho
   rw [show sD R L o l (l.length : Int) (i : Nat) = _ from round (by kernel_rfl) (aS R L o l (l.length : Int) (i : Nat)), zB (by omega)]
   simp (disch := omega) only [st, dT, List.length_cons, List.length_nil]
   rfl)
 rw [show mG R l = _ from call (Am3 R L l)]
 exact h
def A9M (l : List DB) : List UInt8 := (fil (A5E l) 7).flatMap itx
theorem Ad2 {l : List DB} (hl : l.length ≤ 2) : (A9M l).length = 28 := by unfold A9M; rw [Ab8, A65 (by rw [AF0]; omega)]
theorem BN5 {l : List DB} (h : ∀ b ∈ l, NN (b3 b)) : NN (A5E l) := fun x hx => by
 rcases List.mem_cons.1 hx with rfl | hx
 ·omega
 ·obtain ⟨b, hb, hx⟩ := List.mem_flatMap.1 hx
  exact h b hb x hx
theorem Ba1 {l : List DB} (hl : l.length ≤ 2) (h : ∀ b ∈ l, NN (b3 b)) : mC R l = some (A9M l, ()) ∧ lN R l = some (A9M l, ()) := by
 have hf := BH8 (n := 7) (by decide) (show (A5E l).length ≤ 7 by rw [AF0]; omega) (BN5 h)
 have f1 : nJ R (A5E l) 7 = _ := hf.1
 have f2 : sK R (A5E l) 7 = _ := hf.2
 constructor
 ·rw [show mC R l = _ from call (Am2 R L l), BY3 l (by omega)]
  simp only [st, f1]; rfl
 ·have hh := AH0 (fun (o : List Int) i => sY R L l o i) l (0, (0, (0, ()))) b3 (fun o => (sK R o 7).bind fun r0 => some (r0.1, ())) [(l.length : Int)] 3 (fun x _ => Nat.le_refl _)
   (fun o ho => by
    rw [show sY R L l o (l.length : Nat) = _ from round (by kernel_rfl) (AC4 R L l o (l.length : Nat))]
    simp (disch := omega) only [st, dF])
   (fun o i hi ho _ => by
    simp only [List.length_cons, List.length_nil] at ho
    rw [show sY R L l o (i : Nat) = _ from round (by kernel_rfl) (AC4 R L l o (i : Nat)), zB (by omega)]
    simp (disch := omega) only [st, dT, List.length_cons, List.length_nil]
    rfl)
  rw [show lN R l = _ from call (Az1 R L l)]
  refine hh.trans ?_
  show (sK R (A5E l) 7).bind _ = _
  rw [f2]; rfl
def stI (e : DE) (rs : List DR) : List Int := (((e.2.1.1 ++ A5E e.2.1.2.1) ++ e.1) ++ [(rs.length : Int)]) ++ rs.flatMap BJ0
def A0u (e : DE) (rs : List DR) : List UInt8 := (fil (stI e rs) 140).flatMap itx
theorem A4X {e : DE} {rs : List DR} (h : (stI e rs).length ≤ 140) : (A0u e rs).length = 560 := by unfold A0u; rw [Ab8, A65 h]
theorem A1q {α : Type} {g : α → List Int} {l : List α} {x : α} (h : x ∈ l) : (g x).length ≤ (l.flatMap g).length := by
 obtain ⟨a, b, rfl⟩ := List.append_of_mem h
 rw [List.flatMap_append, List.flatMap_cons, List.length_append, List.length_append]; omega
theorem BC1 {α : Type} {g : α → List Int} (c : Nat) (l : List α) (h : ∀ x ∈ l, c ≤ (g x).length) : c * l.length ≤ (l.flatMap g).length := by
 induction l with
 | nil => simp
 | cons a l ih =>
  have := h a (List.mem_cons_self ..)
  have := ih fun x hx => h x (List.mem_cons_of_mem _ hx)
  rw [List.flatMap_cons, List.length_append, List.length_cons, Nat.mul_add]; omega
theorem Ax0 (r : DR) : (BJ0 r).length = r.2.1.length + 2 := by unfold BJ0; rw [List.length_append]; simp only [List.length_cons, List.length_nil]; omega
theorem BR1 {e : DE} {rs : List DR} (hl : (stI e rs).length ≤ 140) (hN : NN (stI e rs)) : gO R e rs = some (A0u e rs, ()) ∧ dE R e rs = some (A0u e rs, ()) := by
 have hf := BH8 (n := 140) (by decide) hl hN
 have f1 : nJ R (stI e rs) 140 = _ := hf.1
 have f2 : sK R (stI e rs) 140 = _ := hf.2
 have hl' := hl
 unfold stI at hl'
 simp only [List.length_append, AF0, List.length_cons, List.length_nil] at hl'
 have hr2 := BC1 2 rs fun r _ => show 2 ≤ (BJ0 r).length by rw [Ax0]; omega
 have hc : ∀ r ∈ rs, (BJ0 r).length ≤ 140 := fun r hr => by have := A1q (g := BJ0) hr; omega
 constructor
 ·have h := AH0 (fun (o : List Int) i => sW R L o rs (rs.length : Int) i) rs (0, ([], ())) BJ0 (fun o => (nJ R o 140).bind fun r0 => some (r0.1, ())) (((e.2.1.1 ++ A5E e.2.1.2.1) ++ e.1) ++ [(rs.length : Int)]) 140 hc
   (fun o ho => by
    rw [show sW R L o rs (rs.length : Int) (rs.length : Nat) = _ from round (by kernel_rfl) (AB0 R L o rs (rs.length : Int) (rs.length : Nat))]
    simp (disch := omega) only [st, dF])
   (fun o i hi ho hm => by
    have hv := hc _ hm
    rw [Ax0] at hv
    simp only [List.length_append, AF0, List.length_cons, List.length_nil] at ho
    have hb : i * 140 ≤ rs.length * 140 := Nat.mul_le_mul_right _ (by omega)
    rw [show sW R L o rs (rs.length : Int) (i : Nat) = _ from round (by kernel_rfl) (AB0 R L o rs (rs.length : Int) (i : Nat)), zB (by omega)]
    simp (disch := omega) only [st, dT, List.length_cons, List.length_nil]
    rw [List.append_assoc]; rfl)
  rw [show gO R e rs = _ from call (A0F R L e rs), A8v _ (by omega), BY3 _ (by omega)]
  simp (disch := omega) only [st, AF0, List.length_append]
  refine h.trans ?_
  show (nJ R (stI e rs) 140).bind _ = _
  rw [f1]; rfl
 ·have h2 := AH0 (fun (o : List Int) i => sF R L rs o i) rs (0, ([], ())) BJ0 (fun o => (sK R o 140).bind fun r0 => some (r0.1, ())) (((e.2.1.1 ++ A5E e.2.1.2.1) ++ e.1) ++ [(rs.length : Int)]) 140 hc
   (fun o ho => by
    rw [show sF R L rs o (rs.length : Nat) = _ from round (by kernel_rfl) (AK6 R L rs o (rs.length : Nat))]
    simp (disch := omega) only [st, dF])
   (fun o i hi ho hm => by
    have hv := hc _ hm
    rw [Ax0] at hv
    simp only [List.length_append, AF0, List.length_cons, List.length_nil] at ho
    have hb : i * 140 ≤ rs.length * 140 := Nat.mul_le_mul_right _ (by omega)
    rw [show sF R L rs o (i : Nat) = _ from round (by kernel_rfl) (AK6 R L rs o (i : Nat)), zB (by omega)]
    simp (disch := omega) only [st, dT, List.length_cons, List.length_nil]
    rw [List.append_assoc]; rfl)
  have h1 := AH0 (fun (o : List Int) i => rU R L rs e o i) e.2.1.2.1 (0, (0, (0, ()))) b3 (fun o => sF R L rs ((o ++ e.1) ++ [(rs.length : Int)]) 0) (([] ++ e.2.1.1) ++ [(e.2.1.2.1.length : Int)]) 3 (fun x _ => Nat.le_refl _)
   (fun o ho => by
    simp only [List.length_append, List.length_cons, List.length_nil] at ho
    rw [show rU R L rs e o (e.2.1.2.1.length : Nat) = _ from round (by kernel_rfl) (AI9 R L rs e o (e.2.1.2.1.length : Nat))]
    simp (disch := omega) only [st, dF])
   (fun o i hi ho hm => by
    simp only [List.length_append, List.length_cons, List.length_nil] at ho
    rw [show rU R L rs e o (i : Nat) = _ from round (by kernel_rfl) (AI9 R L rs e o (i : Nat)), zB (by omega)]
    simp (disch := omega) only [st, dT, List.length_cons, List.length_nil]
    rfl)
  have e1 : (([] ++ e.2.1.1) ++ [(e.2.1.2.1.length : Int)]) ++ e.2.1.2.1.flatMap b3 = e.2.1.1 ++ A5E e.2.1.2.1 := by rw [List.nil_append, List.append_assoc]; rfl
  rw [e1] at h1
  rw [show dE R e rs = _ from call (A1S R L e rs)]
  simp (disch := omega) only [st, List.length_nil]
  refine h1.trans (h2.trans ?_)
  show (sK R (stI e rs) 140).bind _ = _
  rw [f2]; rfl
end Go.Rf.S

end
section
namespace Go.Rf.S
set_option maxRecDepth 100000
structure EW (e : DE) (rs : List DR) : Prop where
 st : (stI e rs).length ≤ 140
 nn : NN (stI e rs)
 nb : e.2.1.2.2.1.length = 15
 bk : ∀ l ∈ e.2.1.2.2.1, l.length ≤ 2 ∧ ∀ b ∈ l, NN (b3 b)
noncomputable def A1Z (key : List UInt8) (side epoch i : Nat) (l : List DB) : List UInt8 := Ae8 key 2 (16 * side + 1 + i) epoch (A9M l)
noncomputable def A3f (key : List UInt8) (side epoch : Nat) (e : DE) (rs : List DR) : List (List UInt8) := [Ae8 key 1 (16 * side) epoch (A0u e rs)] ++ e.2.1.2.2.1.mapIdx (A1Z key side epoch)
theorem BX7 {key : List UInt8} {e : DE} {rs : List DR} (hk : key.length = 32) (h : EW e rs) {side epoch : Nat} (hs : side ≤ 1) (he : epoch ≤ 4294967296) :
  qB R key (side : Int) e rs (epoch : Int) = some (A3f key side epoch e rs, ()) ∧ fO R key (side : Int) (epoch : Int) e rs = some (A3f key side epoch e rs, ()) ∧
  (A3f key side epoch e rs).length = 16 ∧ ∀ s ∈ A3f key side epoch e rs, s.length ≤ 700 := by
 obtain ⟨s1, s2⟩ := BR1 h.st h.nn
 have sl := A4X h.st
 have e16 : IntKind.wrap .i64 (16 * (side : Int)) = ((16 * side : Nat) : Int) := by rw [zO (by omega) (by omega)]; omega
 obtain ⟨d1, d2, d3⟩ := Aw0 (t := A0u e rs) hk (by omega) 1 (16 * side) epoch
 have d1' : jR R key 1 ((16 * side : Nat) : Int) (epoch : Int) (A0u e rs) = _ := d1
 have d2' : mR R key 1 ((16 * side : Nat) : Int) (epoch : Int) (A0u e rs) = _ := d2
 have hb : ∀ i, i < e.2.1.2.2.1.length → ∃ t, mC R (e.2.1.2.2.1.getD i []) = some (t, ()) ∧ lN R (e.2.1.2.2.1.getD i []) = some (t, ()) ∧
   jR R key 2 ((16 * side + 1 + i : Nat) : Int) (epoch : Int) t = some (A1Z key side epoch i (e.2.1.2.2.1.getD i []), ()) ∧
   mR R key 2 ((16 * side + 1 + i : Nat) : Int) (epoch : Int) t = some (A1Z key side epoch i (e.2.1.2.2.1.getD i []), ()) := fun i hi => by
  obtain ⟨h1, h2⟩ := h.bk _ (sN (d := []) hi)
  obtain ⟨b1, b2⟩ := Ba1 h1 h2
  obtain ⟨c1, c2, _⟩ := Aw0 (t := A9M (e.2.1.2.2.1.getD i [])) hk (by rw [Ad2 h1]; decide) 2 (16 * side + 1 + i) epoch
  exact ⟨_, b1, b2, c1, c2⟩
 have nb := h.nb
 refine ⟨?_, ?_, by unfold A3f; rw [List.length_append, List.length_mapIdx, nb]; rfl, fun s hs => ?_⟩
 ·rw [show qB R key (side : Int) e rs (epoch : Int) = _ from call (Ai0 R L key (side : Int) e rs (epoch : Int)), s1, e16]
  simp only [st, d1']
  exact Ai1 (fun o i => tT R L key (epoch : Int) ((16 * side : Nat) : Int) o e.2.1.2.2.1 (e.2.1.2.2.1.length : Int) i) e.2.1.2.2.1 [] (A1Z key side epoch) (fun o => some (o, ())) [Ae8 key 1 (16 * side) epoch (A0u e rs)]
   (fun o ho => by
    rw [show tT R L key (epoch : Int) ((16 * side : Nat) : Int) o e.2.1.2.2.1 (e.2.1.2.2.1.length : Int) (e.2.1.2.2.1.length : Nat) = _ from round (by kernel_rfl) (cJ R L key (epoch : Int) ((16 * side : Nat) : Int) o e.2.1.2.2.1 (e.2.1.2.2.1.length : Int) (e.2.1.2.2.1.length : Nat))]
    simp (disch := omega) only [st, dF])
   (fun o i hi ho => by
    obtain ⟨t, b1, b2, b3, b4⟩ := hb i hi
    simp only [List.length_cons, List.length_nil] at ho
    have eb : IntKind.wrap .i64 (((16 * side : Nat) : Int) + 1) = ((16 * side + 1 : Nat) : Int) := zB (by omega)
    have ea : IntKind.wrap .i64 (((16 * side + 1 : Nat) : Int) + (i : Int)) = ((16 * side + 1 + i : Nat) : Int) := by rw [zO (by omega) (by omega)]; omega
    rw [show tT R L key (epoch : Int) ((16 * side : Nat) : Int) o e.2.1.2.2.1 (e.2.1.2.2.1.length : Int) (i : Nat) = _ from round (by kernel_rfl) (cJ R L key (epoch : Int) ((16 * side : Nat) : Int) o e.2.1.2.2.1 (e.2.1.2.2.1.length : Int) (i : Nat)), zB (i := i) (by omega), eb, ea]
    simp (disch := omega) only [st, dT, b1, b3])
 ·rw [show fO R key (side : Int) (epoch : Int) e rs = _ from call (A3s R L key (side : Int) (epoch : Int) e rs), s2, e16]
  simp only [st, d2']
  have hh := Ai1 (fun o i => pC R L key (side : Int) (epoch : Int) e o i) e.2.1.2.2.1 [] (A1Z key side epoch) (fun o => some (o, ())) [Ae8 key 1 (16 * side) epoch (A0u e rs)]
   (fun o ho => by
    rw [show pC R L key (side : Int) (epoch : Int) e o (e.2.1.2.2.1.length : Nat) = _ from round (by kernel_rfl) (AP0 R L key (side : Int) (epoch : Int) e o (e.2.1.2.2.1.length : Nat))]
    simp (disch := omega) only [st, dF])
   (fun o i hi ho => by
    obtain ⟨t, b1, b2, b3, b4⟩ := hb i hi
    simp only [List.length_cons, List.length_nil] at ho
    have eb : IntKind.wrap .i64 (((16 * side : Nat) : Int) + 1) = ((16 * side + 1 : Nat) : Int) := zB (by omega)
    have ea : IntKind.wrap .i64 (((16 * side + 1 : Nat) : Int) + (i : Int)) = ((16 * side + 1 + i : Nat) : Int) := by rw [zO (by omega) (by omega)]; omega
    rw [show pC R L key (side : Int) (epoch : Int) e o (i : Nat) = _ from round (by kernel_rfl) (AP0 R L key (side : Int) (epoch : Int) e o (i : Nat)), zB (i := i) (by omega), e16, eb, ea]
    simp (disch := omega) only [st, dT, b2, b4])
  exact hh
 ·rcases List.mem_append.1 hs with hs | hs
  ·rw [List.mem_singleton.1 hs, d3]; omega
  ·obtain ⟨i, hi, rfl⟩ := List.mem_mapIdx.1 hs
   obtain ⟨h1, h2⟩ := h.bk _ (List.getElem_mem hi)
   unfold A1Z
   rw [(Aw0 hk (by rw [Ad2 h1]; decide) _ _ _).2.2, Ad2 h1]; decide
end Go.Rf.S

end
section
namespace Go.Rf.S
set_option maxRecDepth 100000
def jH (n : Int) : Bool := inB n 0 7
theorem BD7 (n : Int) : lD R n = some (jH n, ()) := by
 rw [show lD R n = _ from call (At2 R L n), sX]; rfl
theorem An4 (l : List Int) (hl : l.length ≤ 4096) : wI R l (.mk A5V .nil) = some (l.all jH, ()) :=
 jN l _ jH (by omega) fun s _ => by rw [A27, BD7]; rfl
theorem A4r (l : List Int) (hl : l.length ≤ 4096) : lU R l = some (l.all jH, ()) := by
 have h : ∀ (n i : Nat), l.length - i = n → i ≤ l.length → sV R L l (i : Int) = some ((l.drop i).all jH, ()) := by
  intro n
  induction n with
  | zero =>
   intro i hn hi
   have : i = l.length := by omega
   subst this
   rw [show sV R L l (l.length : Nat) = _ from round (by kernel_rfl) (AD3 R L l (l.length : Nat)), List.drop_length]
   simp (disch := omega) only [st, dF, List.all_nil]
  | succ n ih =>
   intro i hn hi
   rw [show sV R L l (i : Nat) = _ from round (by kernel_rfl) (AD3 R L l (i : Nat)), zB (by omega), ih (i + 1) (by omega) (by omega), qY (d := 0) (show i < l.length by omega), List.all_cons]
   simp (disch := omega) only [st, dT, A67]
   unfold jH
   cases inB (l.getD i 0) 0 7 <;> rfl
 rw [show lU R l = _ from call (Aw9 R L l)]
 exact h l.length 0 rfl (Nat.zero_le _)
abbrev noE : DE := ([], (([], ([], ([], ()))), ()))
def AA3 (l : List Int) : DE := (List.replicate 11 0, ((l, ([], (List.replicate 15 [], ()))), ()))
def bY (l : List Int) : Int := if 4096 < l.length then 2 else if l.length ≠ 12 then 8 else if l.all jH = false then 4 else 0
theorem A5K (l : List Int) (hl : l.length ≤ 1048576) : dC R l = some (bY l, ()) := by
 rw [show dC R l = _ from call (A07 R L l)]
 unfold bY
 by_cases h1 : 4096 < l.length
 ·simp (disch := omega) only [st, dT, if_pos h1]
 ·rw [if_neg h1]
  by_cases h2 : l.length ≠ 12
  ·simp (disch := omega) only [st, dF, if_pos h2, Bool.not_false]
  ·rw [if_neg h2]
   simp (disch := omega) only [st, dF, Bool.not_true]
   rw [show wI R l (FnVal.mk 117 FCaps.nil) = _ from An4 l (by omega)]
   cases l.all jH <;> rfl
theorem A5G (l : List Int) (hl : l.length ≤ 1048576) : dX R l = some (if bY l = 0 then AA3 l else noE, (bY l, ())) := by
 have e : bH R l = some (if bY l = 0 then (l, ([], (List.replicate 15 [], ()))) else ([], ([], ([], ()))), (bY l, ())) := by
  rw [show bH R l = _ from call (A2Z R L l), A5K l hl]
  by_cases h : bY l = 0
  ·rw [if_pos h, h, A8v l (by omega)]; rfl
  ·rw [if_neg h]; simp (disch := omega) only [st, Bool.not_false]
 rw [show dX R l = _ from call (A5r R L l), e]
 by_cases h : bY l = 0
 ·rw [if_pos h, if_pos h, h]; rfl
 ·rw [if_neg h, if_neg h]; simp (disch := omega) only [st, Bool.not_false]
theorem A9p (l : List Int) (h : bY l = 0) : AE2 R l = some (AA3 l, (0, ())) := by
 have hl : l.length = 12 ∧ l.all jH = true := by
  unfold bY at h
  split at h
  ·cases h
  ·split at h
   ·cases h
   ·split at h
    ·cases h
    ·rename_i h1 h2; exact ⟨by omega, by simpa using h2⟩
 have e : AF6 R l = some ((l, ([], (List.replicate 15 [], ()))), ()) := by
  rw [show AF6 R l = _ from call (A5Y R L l)]
  simp (disch := omega) only [st, List.length_nil]; rfl
 have e2 : bF R l = some ((l, ([], (List.replicate 15 [], ()))), (0, ())) := by
  rw [show bF R l = _ from call (A3R R L l), A4r l (by omega), e, hl.2]
  simp (disch := omega) only [st, dF, Bool.not_true]
 rw [show AE2 R l = _ from call (A5Q R L l), e2]
 simp (disch := omega) only [st, dF, Bool.not_true]
 rfl
theorem BL6 {l : List Int} (h : bY l = 0) : EW (AA3 l) [] := by
 have hl : l.length = 12 ∧ l.all jH = true := by
  unfold bY at h
  split at h
  ·cases h
  ·split at h
   ·cases h
   ·split at h
    ·cases h
    ·rename_i h1 h2; exact ⟨by omega, by simpa using h2⟩
 have hN : NN l := fun x hx => by
  have := List.all_eq_true.1 hl.2 x hx
  simp only [jH, inB, Bool.and_eq_true, decide_eq_true_eq] at this
  exact this.1
 have e : stI (AA3 l) [] = ((l ++ [0]) ++ List.replicate 11 0) ++ [0] := by simp [stI, AA3, A5E]
 refine ⟨?_, ?_, rfl, fun b hb => ?_⟩
 ·rw [e]; simp only [List.length_append, List.length_replicate, List.length_cons, List.length_nil]; omega
 ·rw [e]; exact ((hN.app (NN.rep 1)).app (NN.rep 11)).app (NN.rep 1)
 ·have : b = [] := (List.mem_replicate.1 (show b ∈ List.replicate 15 [] from hb)).2
  subst this
  exact ⟨by decide, fun x hx => by cases hx⟩
end Go.Rf.S

end
section
namespace Go.Rf.S
set_option maxRecDepth 100000
abbrev DI : Type := Int × (List UInt8 × Unit)
abbrev DD : Type := List (List UInt8) × (List DI × Unit)
theorem BR7 (l : List (List UInt8)) (h : l.length ≤ 1099511627776) : wQ R l = some (l, ()) := by
 rw [show wQ R l = _ from call (jE R L l)]
 cases l with
 | nil => exact cR _
 | cons a l => show cond (yB (0 + (a :: l).length)) (some (a :: l, ())) none = _; rw [uB (by omega)]; rfl
theorem BN6 (l : List DI) (h : l.length ≤ 1099511627776) : uL R l = some (l, ()) := by
 rw [show uL R l = _ from call (fU R L l)]
 cases l with
 | nil => exact cR _
 | cons a l => show cond (yB (0 + (a :: l).length)) (some (a :: l, ())) none = _; rw [uB (by omega)]; rfl
theorem BS2 (d : DD) (h1 : d.1.length ≤ 1048576) (h2 : d.2.1.length ≤ 1048576) : iG R d = some (d, ()) ∧ True := by
 refine ⟨?_, trivial⟩
 rw [show iG R d = _ from call (Al6 R L d), BR7 _ (by omega), BN6 _ (by omega)]; rfl
def A5T (s : List (List UInt8)) : Nat → List (List UInt8) → List (List UInt8)
 | _, [] => s
 | j, t :: r => A5T (s.set j t) (j + 1) r
theorem A4W : ∀ (l s : List (List UInt8)) (j : Nat), j + l.length ≤ s.length → A5T s j l = s.take j ++ l ++ s.drop (j + l.length)
 | [], s, j, h => by simp [A5T]
 | t :: r, s, j, h => by
  simp only [List.length_cons] at h
  rw [A5T, A4W r (s.set j t) (j + 1) (by rw [List.length_set]; omega), List.take_add_one, List.take_set_of_le (Nat.le_refl _), List.getElem?_set_self (by omega), List.drop_set_of_lt (by omega)]
  simp only [List.length_cons, Option.toList_some, List.append_assoc, List.singleton_append, List.cons_append, List.nil_append]
  rw [show j + 1 + r.length = j + (r.length + 1) by omega]
def A8D (a : Nat) (l : List (List UInt8)) : List DI := l.mapIdx fun i t => (((a + i : Nat) : Int), (t, ()))
def Bc6 (s : List (List UInt8)) (u : List DI) : List (List UInt8) := u.foldl (fun s x => s.set x.1.toNat x.2.1) s
theorem A4R : ∀ (l s : List (List UInt8)) (a : Nat), Bc6 s (A8D a l) = A5T s a l
 | [], s, a => rfl
 | t :: r, s, a => by
  have e : A8D a (t :: r) = ((a : Int), (t, ())) :: A8D (a + 1) r := by
   unfold A8D
   rw [List.mapIdx_cons]
   congr 1
   apply List.mapIdx_eq_mapIdx_iff.2
   intro i hi
   rw [show a + (i + 1) = a + 1 + i by omega]
  rw [e, A5T, ← A4R r (s.set a t) (a + 1)]
  rfl
def Bh3 (n : Nat) (u : List DI) : Prop := ∀ x ∈ u, 0 ≤ x.1 ∧ x.1.toNat < n
theorem BW8 (d : DD) (h1 : d.1.length ≤ 1048576) (h2 : d.2.1.length ≤ 1048576) (ha : Bh3 d.1.length d.2.1) : cW R d = some ((Bc6 d.1 d.2.1, ([], ())), ()) := by
 have h : ∀ (n i : Nat) (s : List (List UInt8)), d.2.1.length - i = n → i ≤ d.2.1.length → s.length = d.1.length → pD R L d ([], ([], ())) (s, ([], ())) (i : Int) = some ((Bc6 s (d.2.1.drop i), ([], ())), ()) := by
  intro n
  induction n with
  | zero =>
   intro i s hn hi hs
   have : i = d.2.1.length := by omega
   subst this
   rw [show pD R L d ([], ([], ())) (s, ([], ())) (d.2.1.length : Nat) = _ from round (by kernel_rfl) (AQ8 R L d _ _ (d.2.1.length : Nat)), List.drop_length]
   simp (disch := omega) only [st, dF]
   rfl
  | succ n ih =>
   intro i s hn hi hs
   obtain ⟨a1, a2⟩ := ha _ (sN (d := (0, ([], ()))) (show i < d.2.1.length by omega))
   rw [show pD R L d ([], ([], ())) (s, ([], ())) (i : Nat) = _ from round (by kernel_rfl) (AQ8 R L d _ _ (i : Nat)), zB (by omega)]
   simp (disch := omega) only [st, dT]
   rw [ih (i + 1) _ (by omega) (by omega) (by rw [List.length_set]; exact hs), qY (d := (0, ([], ()))) (show i < d.2.1.length by omega)]
   rfl
 rw [show cW R d = _ from call (A3x R L d)]
 simp (disch := omega) only [st, List.length_nil]
 exact h d.2.1.length 0 d.1 rfl (Nat.zero_le _) rfl
theorem BJ7 (d : DD) (a : Nat) (t : List UInt8) (h2 : d.2.1.length ≤ 1048576) : lG R d (a : Int) t = some ((d.1, (d.2.1 ++ [((a : Int), (t, ()))], ())), ()) := by
 rw [show lG R d (a : Int) t = _ from call (A17 R L d (a : Int) t)]
 simp (disch := omega) only [st, List.length_nil]
 rfl
theorem Be1 (d : DD) (side : Nat) (l : List (List UInt8)) (hs : side ≤ 1) (hl : l.length ≤ 1000) (h2 : d.2.1.length ≤ 1000) : dW R d (side : Int) l = some ((d.1, (d.2.1 ++ A8D (16 * side) l, ())), ()) := by
 have e16 : IntKind.wrap .i64 (16 * (side : Int)) = ((16 * side : Nat) : Int) := by rw [zO (by omega) (by omega)]; omega
 have hq : ∀ (F : DD → Int → Option (DD × Unit)), (∀ v i, F v i = cond (decide (i < (l.length : Int))) (cond (zA i) (cond (Nat.blt i.toNat l.length) ((lG R v (IntKind.wrap .i64 ((IntKind.wrap .i64 (16 * (side : Int))) + i)) (l.getD i.toNat [])).bind fun r0 => F r0.1 (IntKind.wrap .i64 (i + 1))) none) none) (some (v, ()))) →
   F d 0 = some ((d.1, (d.2.1 ++ A8D (16 * side) l, ())), ()) := by
  intro F hF
  exact Ai1 (fun o i => F (d.1, (o, ())) i) l [] (fun i t => (((16 * side + i : Nat) : Int), (t, ()))) (fun o => some ((d.1, (o, ())), ())) d.2.1
   (fun o ho => by
    rw [hF]; simp (disch := omega) only [st, dF])
   (fun o i hi ho => by
    rw [hF, e16, show IntKind.wrap .i64 (((16 * side : Nat) : Int) + (i : Int)) = ((16 * side + i : Nat) : Int) by rw [zO (by omega) (by omega)]; omega, zB (by omega), BJ7 _ _ _ (by show o.length ≤ _; omega)]
    simp (disch := omega) only [st, dT])
 have q1 : ∀ v i, gP R L (side : Int) l v ([], ([], ())) i = _ := fun v i => round (by kernel_rfl) (A1o R L (side : Int) l v ([], ([], ())) i)
 have q0 : ∀ v i, aD R L (side : Int) l v ([], ([], ())) i = _ := fun v i => round (by kernel_rfl) (A0s R L (side : Int) l v ([], ([], ())) i)
 rw [show dW R d (side : Int) l = _ from call (A6C R L d (side : Int) l), q0, ← q1]
 exact hq _ q1
end Go.Rf.S

end
section
namespace Go.Rf.S
set_option maxRecDepth 100000
def Bl2 (t : A6E) : List Int := (t.1.length : Int) :: t.1.flatMap b3
def Bl1 (l : List A6E) (ds : List Int) : List Int := (ds ++ [(l.length : Int)]) ++ l.flatMap Bl2
def Bk9 (l : List A6E) (ds : List Int) : List UInt8 := (fil (Bl1 l ds) 68).flatMap itx
def Ba4 (a b : List UInt8) : List UInt8 := dig (([2] ++ a) ++ b)
structure DW (d : DD) : Prop where
 l1 : d.1.length ≤ 1048576
 l2 : d.2.1.length ≤ 1048576
 at_ : Bh3 d.1.length d.2.1
 sh : Sh d.1
 un : ∀ x ∈ d.2.1, x.2.1.length ≤ 1048576
end Go.Rf.S

end
section
namespace Go.Rf.S
set_option maxRecDepth 100000
theorem A5x (l : List (List UInt8)) (hl : l.length ≤ 100) (hs : ∀ s ∈ l, s.length ≤ 1099511627776) : eK R l = some (l.all fun s => decide (s.length ≤ 65536), ()) := by
 rw [show eK R l = _ from call (A0q R L l), show tN R l (FnVal.mk 45 FCaps.nil) = _ from gC l _ (fun s => decide (s.length ≤ 65536)) (by omega) fun s _ => by
  rw [Ah5, show dO R s = _ from call (Al4 R L s)]
  show some (decide ((s.length : Int) ≤ 65536)) = _
  congr 1
  rw [decide_eq_decide]; omega]
 rfl
abbrev noS : xU := ([], ((0, (0, (0, (0, ([], ([], ([], ()))))))), (([], ([], ())), (false, (false, ())))))
def A9K : List UInt8 := [98, 101, 103, 105, 110]
noncomputable def A0R (key : List UInt8) (l : List Int) : List (List UInt8) := A3f key 0 0 (AA3 l) []
noncomputable def newS (key : List UInt8) (l : List Int) : xU := (key, ((0, (0, (0, (0, (dig A9K, (dig A9K, (Am7 (A0R key l), ()))))))), ((A0R key l ++ List.replicate 24 [], ([], ())), (true, (false, ())))))
def jW (key : List UInt8) (l : List Int) : Int := if 65536 < key.length then 2 else if 4096 < l.length then 2 else if key.length ≠ 32 then 8 else bY l
theorem Ae4 {key : List UInt8} {l : List Int} (h : jW key l = 0) : key.length = 32 ∧ l.length = 12 ∧ l.all jH = true ∧ bY l = 0 := by
 unfold jW at h
 split at h
 ·cases h
 ·split at h
  ·cases h
  ·split at h
   ·cases h
   ·rename_i h1 h2 h3
    have hh := h
    unfold bY at h
    split at h
    ·cases h
    ·split at h
     ·cases h
     ·split at h
      ·cases h
      ·rename_i h4 h5 h6; exact ⟨by omega, by omega, by simpa using h6, hh⟩
theorem A1C {key : List UInt8} {l : List Int} (h : jW key l = 0) : qB R key 0 (AA3 l) [] 0 = some (A0R key l, ()) ∧ fO R key 0 0 (AA3 l) [] = some (A0R key l, ()) ∧ (A0R key l).length = 16 ∧ ∀ s ∈ A0R key l, s.length ≤ 700 := by
 obtain ⟨h1, h2, h3, h4⟩ := Ae4 h
 exact BX7 (side := 0) (epoch := 0) h1 (BL6 h4) (by decide) (by decide)
theorem BU4 (key : List UInt8) (l : List Int) (hk : key.length ≤ 1048576) (hl : l.length ≤ 1048576) : Ac3 R key l = some (if jW key l = 0 then newS key l else noS, (jW key l, ())) := by
 have hq : Ac3 R key l = _ := call (A9s R L key l)
 rw [hq, A5x [key] (by simp) (fun s hs => by rw [List.mem_singleton.1 hs]; omega), A5G l hl, show [key].all (fun s => decide (s.length ≤ 65536)) = decide (key.length ≤ 65536) by simp]
 by_cases h1 : 65536 < key.length
 ·have e : jW key l = 2 := if_pos h1
  rw [e, if_neg (show ¬ (2 : Int) = 0 by decide)]
  simp (disch := omega) only [st, dF, Bool.not_false]
 ·by_cases h2 : 4096 < l.length
  ·have e : jW key l = 2 := by unfold jW; rw [if_neg h1, if_pos h2]
   rw [e, if_neg (show ¬ (2 : Int) = 0 by decide)]
   simp (disch := omega) only [st, dT, Bool.not_true]
  ·by_cases h3 : key.length ≠ 32
   ·have e : jW key l = 8 := by unfold jW; rw [if_neg h1, if_neg h2, if_pos h3]
    rw [e, if_neg (show ¬ (8 : Int) = 0 by decide)]
    simp (disch := omega) only [st, dT, dF, Bool.not_true, Bool.not_false]
   ·have e : jW key l = bY l := by unfold jW; rw [if_neg h1, if_neg h2, if_neg h3]
    by_cases h4 : bY l = 0
    ·have h0 : jW key l = 0 := by rw [e, h4]
     obtain ⟨s1, s2, s3, s4⟩ := A1C h0
     have hr := (A7s s3 (fun s hs => Nat.le_trans (s4 s hs) (by decide))).1
     have hd : bG R = some ((List.replicate 40 [], ([], ())), ()) := call (Av7 R L)
     have hf : iS R = some (dig A9K, ()) := by
      rw [show iS R = _ from call (A04 R L)]
      show (jF R A9K).bind _ = _
      rw [Az8 A9K (by decide)]; rfl
     rw [h0, h4, hd, hf]
     simp (disch := omega) only [st, dT, dF, Bool.not_true, if_true, s1, s3, hr, List.length_replicate]
     rfl
    ·rw [e, if_neg h4, if_neg h4]
     simp (disch := omega) only [st, dT, dF, Bool.not_true, Bool.not_false]
theorem Bf2 (l : List (List UInt8)) (hl : l.length = 16) : Bc6 (List.replicate 40 []) (A8D 0 l) = l ++ List.replicate 24 [] := by
 rw [A4R, A4W _ _ _ (by rw [List.length_replicate]; omega), hl]
 simp
theorem Ba3 (key : List UInt8) (l : List Int) (h : jW key l = 0) : cT R key l = some (newS key l, ()) := by
 obtain ⟨h1, h2, h3, h4⟩ := Ae4 h
 obtain ⟨s1, s2, s3, s4⟩ := A1C h
 unfold newS
 generalize A0R key l = S at s1 s2 s3 s4
 have hr := (A7s s3 (fun s hs => Nat.le_trans (s4 s hs) (by decide))).2
 have hd : aM R = some ((List.replicate 40 [], ([], ())), ()) := call (Av9 R L)
 have hly := Be1 (List.replicate 40 [], ([], ())) 0 S (by decide) (by omega) (Nat.zero_le _)
 rw [Nat.mul_zero, List.nil_append] at hly
 have ll : (A8D 0 S).length = 16 := by unfold A8D; rw [List.length_mapIdx, s3]
 have hsy := BW8 (List.replicate 40 [], (A8D 0 S, ())) (by rw [List.length_replicate]; decide) (by show (A8D 0 S).length ≤ _; omega) (fun x hx => by
  obtain ⟨i, hi, rfl⟩ := List.mem_mapIdx.1 hx
  rw [s3] at hi
  rw [List.length_replicate]
  show 0 ≤ ((0 + i : Nat) : Int) ∧ ((0 + i : Nat) : Int).toNat < 40
  omega)
 rw [Bf2 _ s3] at hsy
 have hb : eC R [98, 101, 103, 105, 110] = some (dig A9K, ()) := A3c A9K (by decide)
 rw [show cT R key l = _ from call (A3G R L key l), A9p l h4]
 simp only [st, s2, hb, hr, hd]
 rw [show dW R (List.replicate 40 [], ([], ())) 0 S = _ from hly]
 simp only [st, hsy]
end Go.Rf.S

end
section
namespace Go.Rf.S
set_option maxRecDepth 100000
theorem A4O : ∀ (l : List (List UInt8)), ∀ s ∈ wT l, s.length = 32
 | [], s, h => by cases h
 | [_], s, h => by cases h
 | a :: b :: r, s, h => by
  rcases List.mem_cons.1 h with rfl | h
  ·unfold A7e; rw [A0I]
  ·exact A4O r s h
end Go.Rf.S

end
section
namespace Go.Rf.S
set_option maxRecDepth 100000
structure SO (x : xU) : Prop where
 k : x.1.length = 32
 c0 : 0 ≤ x.2.1.1
 c1 : x.2.1.1 ≤ 1000000
 sd : x.2.1.2.1 = 0 ∨ x.2.1.2.1 = 1
 n0 : x.2.1.1 ≤ x.2.1.2.2.1
 n1 : x.2.1.2.2.1 ≤ x.2.1.1 + 4
 n2 : x.2.1.2.2.1 ≤ 1000000
 b0 : 0 ≤ x.2.1.2.2.2.1
 b1 : x.2.1.2.2.2.1 ≤ 1000000
 t1 : x.2.1.2.2.2.2.1.length = 32
 t2 : x.2.1.2.2.2.2.2.1.length = 32
 t3 : x.2.1.2.2.2.2.2.2.1.length = 32
 dl : x.2.2.1.1.length = 40
 ds : ∀ s ∈ x.2.2.1.1, s.length ≤ 700
 u : x.2.2.1.2.1 = []
theorem A4Z {s : List UInt8} (h : A0P s = true) : s.length = 32 := by simpa [A0P] using h
theorem SO.of {x : xU} (h : eG x = true) : SO x := by
 unfold eG Ay1 A0e A2x at h
 simp only [Bool.and_eq_true, decide_eq_true_eq] at h
 obtain ⟨h1, ⟨r1, r2, r3, r4, r5, r6, r7, r8⟩, ⟨d1, d2, d3, d4⟩, h4, h5⟩ := h
 have a1 := nP r1
 have a2 := nP r2
 have a3 := nP r3
 have a4 := nP r4
 exact ⟨A4Z h1, a1.1, a1.2, by omega, a4.1, by omega, by omega, a3.1, a3.2, A4Z r5, A4Z r6, A4Z r7, d1, fun s hs => by simpa [A91] using List.all_eq_true.1 d3 s hs, List.length_eq_zero_iff.1 h4⟩
theorem SO.dw {x : xU} (h : SO x) : DW x.2.2.1 :=
 ⟨by rw [h.dl]; decide, by rw [h.u]; decide, by rw [h.u]; exact (fun _ h => nomatch h), fun s hs => Nat.le_trans (h.ds s hs) (by decide), by rw [h.u]; exact (fun _ h => nomatch h)⟩
theorem A9f {x : xU} (h : SO x) : uJ R x = some (x, ()) := by
 rw [show uJ R x = _ from call (Av1 R L x), (BS2 x.2.2.1 h.dw.l1 h.dw.l2).1]; rfl
def upc (x : xU) : Int := cond x.2.2.2.2.1 18 (cond (!x.2.2.2.1) 16 0)
theorem Bh6 (x : xU) : qW R x = some (upc x, ()) := by
 rw [show qW R x = _ from call (Aa9 R L x)]
 unfold upc
 cases x.2.2.2.2.1 <;> cases x.2.2.2.1 <;> rfl
noncomputable def Bj6 (key : List UInt8) (C B : Nat) (l : List A6E) (ds : List Int) : List UInt8 := ub (lit B 4) ++ Ae8 key 3 (32 + (C + 1) % 8) (C + 1 + 1048576 * B) (Bk9 l ds)
noncomputable def nT (x : xU) (l : List A6E) (ds : List Int) : List UInt8 := Bj6 x.1 x.2.1.2.2.1.toNat x.2.1.2.2.2.1.toNat l ds
def nA (x : xU) : Nat := 32 + (x.2.1.2.2.1.toNat + 1) % 8
noncomputable def nS (x : xU) (l : List A6E) (ds : List Int) : List (List UInt8) := x.2.2.1.1.set (nA x) (nT x l ds)
end Go.Rf.S

end
section
namespace Go.Rf.S
set_option maxRecDepth 100000
end Go.Rf.S

end
section
namespace Go.Rf.S
set_option maxRecDepth 100000
def A5Z (t : List UInt8) : Nat → Nat → List Int
 | 0, _ => []
 | c + 1, k => ((wLE t (4 * k) : Nat) : Int) :: A5Z t c (k + 1)
theorem A0g (t : List UInt8) : ∀ c k, (A5Z t c k).length = c
 | 0, _ => rfl
 | c + 1, k => by show (_ :: _ : List Int).length = _; rw [List.length_cons, A0g t c]
def wds (t : List UInt8) : List Int := A5Z t (t.length / 4) 0
theorem BJ9 (t : List UInt8) : (wds t).length = t.length / 4 := A0g t _ _
theorem BG6 (t : List UInt8) (n : Nat) (ht : t.length = 4 * n) (hn : n ≤ 262144) : ∀ (c k : Nat) (acc : List Int), k + c = n → acc.length = k → qA R L t acc ((4 * k : Nat) : Int) = some (acc ++ A5Z t c k, ())
 | 0, k, acc, hk, ha => by
  rw [show qA R L t acc ((4 * k : Nat) : Int) = _ from round (by kernel_rfl) (AH7 R L t acc ((4 * k : Nat) : Int)), A2M (by omega)]
  show some (acc, ()) = some (acc ++ [], ()); rw [List.append_nil]
 | c + 1, k, acc, hk, ha => by
  have hb := BG5 t (4 * k)
  have e := AX7 (t.drop (4 * k)) (by rw [List.length_drop]; omega)
  rw [Av0] at e
  rw [show qA R L t acc ((4 * k : Nat) : Int) = _ from round (by kernel_rfl) (AH7 R L t acc ((4 * k : Nat) : Int)), A2B (by omega), List.take_length, show IntKind.wrap .i64 (((4 * k : Nat) : Int) + 4) = ((4 * (k + 1) : Nat) : Int) by rw [zO (by omega) (by omega)]; omega]
  simp (disch := omega) only [st, e]
  rw [BG6 t n ht hn c (k + 1) _ (by omega) (by rw [List.length_append, ha]; rfl), List.append_assoc]
  rfl
abbrev PR : Type := List Int × (Int × (Bool × Unit))
def RP (x : PR) (o : LO) : Prop := x.1.length ≤ 1048576 ∧ ((o = none ∧ x.2.2.1 = true) ∨ (x.2.2.1 = false ∧ ∃ k : Nat, x.2.1 = (k : Int) ∧ k ≤ x.1.length ∧ o = some (x.1.drop k)))
def po (t : List UInt8) (n : Nat) : LO := if t.length = 4 * n then some (wds t) else none
theorem A4g (t : List UInt8) (n : Nat) (hn : n ≤ 1000) : ∃ x, RP x (po t n) ∧ oU R t (n : Int) = some (x, ()) := by
 rw [show oU R t (n : Int) = _ from call (A08 R L t (n : Int)), show IntKind.wrap .i64 (4 * (n : Int)) = ((4 * n : Nat) : Int) by rw [zO (by omega) (by omega)]; omega]
 unfold po
 by_cases h : t.length = 4 * n
 ·have e : eX R t = some (wds t, ()) := by
   have := BG6 t n h (by omega) n 0 [] (by omega) rfl
   rw [show eX R t = _ from call (A1u R L t)]
   unfold wds
   rw [show t.length / 4 = n by omega]
   exact this
  rw [if_pos h]
  simp (disch := omega) only [st, e, Bool.not_true]
  refine ⟨_, ⟨?_, .inr ⟨rfl, 0, rfl, Nat.zero_le _, rfl⟩⟩, rfl⟩
  show (wds t).length ≤ _
  rw [BJ9]; omega
 ·rw [if_neg h]
  simp (disch := omega) only [st, Bool.not_false]
  exact ⟨_, ⟨Nat.zero_le _, .inl ⟨rfl, rfl⟩⟩, rfl⟩
theorem A9J (b : Int) (hb : 0 ≤ b) (o : LO) : 0 ≤ (pN b o).1 ∧ (pN b o).1 ≤ b := by
 unfold pN
 split
 ·split
  ·rename_i h; exact nP h
  ·exact ⟨Int.le_refl _, hb⟩
 ·exact ⟨Int.le_refl _, hb⟩
theorem AZ1 {x : PR} {o : LO} (h : RP x o) (b : Int) : ∃ y, RP y (pN b o).2 ∧ yL R x 0 b = some ((pN b o).1, (y, ())) := by
 obtain ⟨l, a, bad, u⟩ := x
 obtain ⟨hl, h⟩ := h
 have hl : l.length ≤ 1048576 := hl
 rw [show yL R (l, (a, (bad, u))) 0 b = _ from call (AL2 R L _ 0 b)]
 rcases h with ⟨rfl, h⟩ | ⟨h, k, hk, hkl, rfl⟩
 ·have h : bad = true := h
  subst h
  exact ⟨_, ⟨hl, .inl ⟨rfl, rfl⟩⟩, rfl⟩
 ·have h : bad = false := h
  subst h
  have hk : a = (k : Int) := hk
  subst hk
  have hkl : k ≤ l.length := hkl
  show ∃ y, RP y (pN b (some (l.drop k))).2 ∧ _ = some ((pN b (some (l.drop k))).1, (y, ()))
  by_cases he : k = l.length
  ·subst he
   rw [List.drop_length]
   simp (disch := omega) only [st]
   refine ⟨_, ?_, rfl⟩
   exact ⟨hl, .inl ⟨rfl, rfl⟩⟩
  ·have hlt : k < l.length := by omega
   rw [qY (d := 0) hlt, show IntKind.wrap .i64 (IntKind.wrap .i64 ((k : Int) + 1) - 1) = (k : Int) by rw [zB (by omega), A77 (by omega)], zB (by omega), sX]
   simp (disch := omega) only [st]
   cases hx : inB (l.getD k 0) 0 b with
   | true =>
    have e : pN b (some (l.getD k 0 :: l.drop (k + 1))) = (l.getD k 0, some (l.drop (k + 1))) := by
     show (if inR (l.getD k 0) 0 b = true then _ else _) = _
     rw [if_pos (show inR (l.getD k 0) 0 b = true from hx)]
    rw [e]
    refine ⟨_, ?_, rfl⟩
    exact ⟨hl, .inr ⟨rfl, k + 1, rfl, hlt, rfl⟩⟩
   | false =>
    have e : pN b (some (l.getD k 0 :: l.drop (k + 1))) = (0, none) := by
     show (if inR (l.getD k 0) 0 b = true then _ else _) = _
     rw [show inR (l.getD k 0) 0 b = false from hx]; rfl
    rw [e]
    refine ⟨_, ?_, rfl⟩
    exact ⟨hl, .inl ⟨rfl, rfl⟩⟩
theorem A1d {b : Int} {n : Nat} (hn : n ≤ 1000) : ∀ (c i : Nat) {x : PR} {o : LO} (acc : List Int), i + c = n → RP x o → acc.length = i → ∃ y, RP y (pS b c o).2 ∧ wA R L x 0 b acc (n : Int) (i : Int) = some (acc ++ (pS b c o).1, (y, ()))
 | 0, i, x, o, acc, hi, h, ha => by
  rw [show wA R L x 0 b acc (n : Int) (i : Int) = _ from round (by kernel_rfl) (mZ R L x 0 b acc (n : Int) (i : Int)), A2M (by omega)]
  refine ⟨x, h, ?_⟩
  show some (acc, _) = some (acc ++ [], _); rw [List.append_nil]
 | c + 1, i, x, o, acc, hi, h, ha => by
  obtain ⟨y, hy, e⟩ := AZ1 h b
  obtain ⟨z, hz, e2⟩ := A1d hn c (i + 1) (acc ++ [(pN b o).1]) (by omega) hy (by rw [List.length_append, ha]; rfl)
  refine ⟨z, hz, ?_⟩
  rw [show wA R L x 0 b acc (n : Int) (i : Int) = _ from round (by kernel_rfl) (mZ R L x 0 b acc (n : Int) (i : Int)), A2B (by omega), e, zB (by omega)]
  simp (disch := omega) only [st, e2]
  rw [List.append_assoc]; rfl
theorem BJ5 {b : Int} {n : Nat} (hn : n ≤ 1000) {x : PR} {o : LO} (h : RP x o) : ∃ y, RP y (pS b n o).2 ∧ xG R x (n : Int) 0 b = some ((pS b n o).1, (y, ())) := by
 obtain ⟨y, hy, e⟩ := A1d (b := b) hn n 0 [] (by omega) h rfl
 exact ⟨y, hy, Eq.trans (call (aW R L x (n : Int) 0 b) : xG R x (n : Int) 0 b = _) e⟩
theorem BF0 {n : Nat} (hn : n ≤ 1000) : ∀ (c i : Nat) {x : PR} {o : LO} (acc : List TB), i + c = n → RP x o → acc.length = i → ∃ y, RP y (pB c o).2 ∧ wD R L x acc (n : Int) (i : Int) = some (acc ++ (pB c o).1, (y, ()))
 | 0, i, x, o, acc, hi, h, ha => by
  rw [show wD R L x acc (n : Int) (i : Int) = _ from round (by kernel_rfl) (lP R L x acc (n : Int) (i : Int)), A2M (by omega)]
  refine ⟨x, h, ?_⟩
  show some (acc, _) = some (acc ++ [], _); rw [List.append_nil]
 | c + 1, i, x, o, acc, hi, h, ha => by
  obtain ⟨y1, h1, e1⟩ := AZ1 h 11
  obtain ⟨y2, h2, e2⟩ := AZ1 h1 7
  obtain ⟨y3, h3, e3⟩ := AZ1 h2 999999
  obtain ⟨z, hz, e4⟩ := BF0 hn c (i + 1) (acc ++ [(pB1 o).1]) (by omega) h3 (by rw [List.length_append, ha]; rfl)
  refine ⟨z, hz, ?_⟩
  rw [show wD R L x acc (n : Int) (i : Int) = _ from round (by kernel_rfl) (lP R L x acc (n : Int) (i : Int)), A2B (by omega), e1, zB (by omega)]
  simp (disch := omega) only [st, e2, e3]
  refine Eq.trans e4 ?_
  rw [List.append_assoc]; rfl
theorem BF6 (b : Nat) (hb : b ≤ 1000) {x : PR} {o : LO} (h : RP x o) : ∃ y, RP y (pB (pN (b : Int) o).1.toNat (pN (b : Int) o).2).2 ∧ wM R x (b : Int) = some ((pB (pN (b : Int) o).1.toNat (pN (b : Int) o).2).1, (y, ())) := by
 obtain ⟨y1, h1, e1⟩ := AZ1 h (b : Int)
 obtain ⟨n, hn⟩ := Int.eq_ofNat_of_zero_le (A9J (b : Int) (by omega) o).1
 have hb2 := (A9J (b : Int) (by omega) o).2
 obtain ⟨z, hz, e2⟩ := BF0 (n := n) (by omega) n 0 [] (by omega) h1 rfl
 rw [show wM R x (b : Int) = _ from call (AE0 R L x (b : Int)), e1]
 simp only [Option.bind_some]
 rw [hn, Int.toNat_natCast]
 exact ⟨z, hz, e2⟩
theorem BG1 {x : PR} {o : LO} (h : RP x o) : sM R x = some (pE o, (x, ())) := by
 obtain ⟨l, a, bad, u⟩ := x
 obtain ⟨hl, h⟩ := h
 have hl : l.length ≤ 1048576 := hl
 rw [show sM R (l, (a, (bad, u))) = _ from call (AM7 R L _)]
 rcases h with ⟨rfl, h⟩ | ⟨h, k, hk, hkl, rfl⟩
 ·have h : bad = true := h
  subst h; rfl
 ·have h : bad = false := h
  subst h
  have hk : a = (k : Int) := hk
  subst hk
  have hkl : k ≤ l.length := hkl
  show cond (!false) (cond (zA (k : Int)) (cond (Nat.ble l.length l.length) (cond (Nat.ble (k : Int).toNat l.length) ((wI R (List.drop (k : Int).toNat (List.take l.length l)) _).bind fun r0 => _) none) none) none) _ = _
  rw [List.take_length, jN (l.drop (k : Int).toNat) _ (fun n => decide (n = 0)) (by rw [List.length_drop]; omega) (fun s _ => by
   rw [aX, show oY R s = _ from call (AB4 R L s)]; rfl)]
  simp (disch := omega) only [st, Bool.not_false]
  rfl
end Go.Rf.S

end
section
namespace Go.Rf.S
set_option maxRecDepth 100000
theorem A2H : ∀ f a, (A6K f a).length ≤ f
 | 0, _ => Nat.le_refl _
 | f + 1, a => by
  unfold A6K
  split
  ·simp
  ·have := A2H f ((a - 1) / 2)
   rw [List.length_append]; simp only [List.length_cons, List.length_nil]; omega
abbrev DO : Type := List Int × (List DB × (List (List DB) × Unit))
theorem Be8 (r : DR) : eL R r = some (A93 r, ()) := by
 rw [show eL R r = _ from call (A0p R L r), show AE7 R r.1 = some (inB r.1 0 19, ()) by rw [show AE7 R r.1 = _ from call (A6B R L r.1), sX]; rfl]
 unfold A93
 simp only [Option.bind_some, oJ]
 cases inB r.1 0 19 with
 | false => rfl
 | true =>
  by_cases a : r.2.1.length ≤ 32
  ·rw [dT a, dT (show (r.2.1.length : Int) ≤ 32 by omega), jN r.2.1 _ (fun n => inB n 0 999999) (by omega) (fun s _ => by rw [A1U, Ae9]; rfl), show decide ((r.2.1.length : Int) = 0) = decide (r.2.1.length = 0) from decide_eq_decide.2 (by omega)]
   simp only [Option.bind_some, cond_true]
   cases (r.2.1.all fun n => inB n 0 999999) <;> cases decide (r.1 = 0) <;> cases decide (r.2.1.length = 0) <;> rfl
  ·rw [dF a, dF (show ¬ (r.2.1.length : Int) ≤ 32 by omega)]; rfl
theorem BZ6 (l : List DR) : iA R l = some (Ao2 l, ()) := by
 rw [show iA R l = _ from call (Am0 R L l)]
 unfold Ao2
 by_cases a : l.length ≤ 2
 ·rw [dT a, dT (show (l.length : Int) ≤ 2 by omega), aV l _ A93 (by omega) (fun s _ => by rw [Ax6, Be8]; rfl)]
  rfl
 ·rw [dF a, dF (show ¬ (l.length : Int) ≤ 2 by omega)]; rfl
end Go.Rf.S

end
section
namespace Go.Rf.S
set_option maxRecDepth 100000
theorem Bf9 (l : List Int) (hl : l.length ≤ 1048576) : oS R l = some (l.reverse, ()) :=
 (A53 (f := 201) rfl _).trans (A1A (E := EE) (f := 201) (x := (l.reverse, ())) rfl (Ba8 (E := EE) rfl l hl))
theorem A9v (l : List (List DB)) (hl : l.length ≤ 1048576) (hf : l.flatten.length ≤ 1048576) : sS R l = some (l.flatten, ()) :=
 (A53 (f := 163) rfl _).trans (A1A (E := EE) (f := 163) (x := (l.flatten, ())) rfl (A7c (E := EE) rfl l hl hf))
theorem A7D : ∀ (f a : Nat) (acc : List Int), a + 2 ≤ 2 ^ f → acc.length + f ≤ 60 → lO R L acc (a : Int) = some (A6K f a ++ acc.reverse, ())
 | 0, a, acc, h, _ => by rw [Nat.pow_zero] at h; omega
 | f + 1, a, acc, h, hl => by
  rw [Nat.pow_succ] at h
  rw [show lO R L acc (a : Int) = _ from round (by kernel_rfl) (A1F R L acc (a : Int))]
  unfold A6K
  by_cases h0 : a = 0
  ·subst h0
   simp (disch := omega) only [st, Bf9 (acc ++ [((0 : Nat) : Int)]) (by rw [List.length_append]; simp only [List.length_cons, List.length_nil]; omega)]
   rw [List.reverse_append]; rfl
  ·have ha : a ≤ 4611686018427387904 := by
    have : (2 : Nat) ^ f ≤ 2 ^ 61 := Nat.pow_le_pow_right (by decide) (by omega)
    omega
   have e : IntKind.wrap .i64 (Int.tdiv (IntKind.wrap .i64 ((a : Int) - 1)) 2) = (((a - 1) / 2 : Nat) : Int) := by
    rw [zO (n := (a : Int) - 1) (by omega) (by omega), show (a : Int) - 1 = ((a - 1 : Nat) : Int) by omega]
    show IntKind.wrap .i64 (((a - 1) / 2 : Nat) : Int) = _
    rw [zO (by omega) (by omega)]
   rw [if_neg h0, e]
   simp (disch := omega) only [st]
   rw [A7D f ((a - 1) / 2) _ (by omega) (by simp only [List.length_append, List.length_cons, List.length_nil]; omega), List.reverse_append, List.append_assoc]
   rfl
theorem Ba2 {l : Int} (h : inB l 0 7 = true) : AF1 R l = some (A87 l, ()) := by
 have hb := nP h
 have := A7D 4 (7 + l.toNat) [] (by omega) (by simp)
 rw [List.reverse_nil, List.append_nil] at this
 rw [show AF1 R l = _ from call (A5h R L l), show IntKind.wrap .i64 (7 + l) = ((7 + l.toNat : Nat) : Int) by rw [zO (by omega) (by omega)]; omega]
 exact this
theorem BN7 (l : List Int) (n : Int) (hl : l.length ≤ 1000) : ∃ k : Int, tF R l n = some (k, ()) ∧ decide ((0 : Int) ≤ k) = l.any fun x => decide (x = n) := by
 have h : ∀ (m i : Nat), l.length - i = m → i ≤ l.length → ∃ k : Int, xD R L l n (l.length : Int) (i : Int) = some (k, ()) ∧ decide ((0 : Int) ≤ k) = (l.drop i).any fun x => decide (x = n) := by
  intro m
  induction m with
  | zero =>
   intro i hm hi
   rw [show xD R L l n (l.length : Int) (i : Int) = _ from round (by kernel_rfl) (oN R L l n (l.length : Int) (i : Int)), A2M (by omega), List.drop_eq_nil_of_le (by omega)]
   exact ⟨-1, rfl, rfl⟩
  | succ m ih =>
   intro i hm hi
   have hlt : i < l.length := by omega
   obtain ⟨k, e1, e2⟩ := ih (i + 1) (by omega) (by omega)
   rw [show xD R L l n (l.length : Int) (i : Int) = _ from round (by kernel_rfl) (oN R L l n (l.length : Int) (i : Int)), A2B hlt, qY (d := 0) hlt, List.any_cons, zB (by omega)]
   simp (disch := omega) only [st, e1, oJ]
   by_cases hx : l.getD i 0 = n
   ·rw [dT hx.symm, dT hx]
    exact ⟨(i : Int), rfl, by rw [Bool.true_or]; exact dT (by omega)⟩
   ·rw [dF (fun h => hx h.symm), dF hx]
    exact ⟨k, rfl, by rw [Bool.false_or]; exact e2⟩
 obtain ⟨k, e1, e2⟩ := h _ 0 rfl (Nat.zero_le _)
 exact ⟨k, Eq.trans (call (dJ R L l n) : tF R l n = _) e1, e2⟩
theorem Bj4 (i : Nat) {l : Int} (h : inB l 0 7 = true) : iJ R (i : Int) l = some (onB i l, ()) := by
 obtain ⟨k, e1, e2⟩ := BN7 (A87 l) (i : Int) (Nat.le_trans (A2H _ _) (by decide))
 rw [show iJ R (i : Int) l = _ from call (A0r R L (i : Int) l), Ba2 h]
 simp only [Option.bind_some]
 rw [show tZ R (A87 l) (i : Int) = _ from call (gF R L (A87 l) (i : Int)), e1]
 simp only [Option.bind_some]
 rw [e2]; rfl
theorem A5F (n : Int) : lD R n = some (iX n, ()) := by
 rw [show lD R n = _ from call (At2 R L n), sX]; rfl
theorem A8b (b : DB) : bU R b = some (A6n b, ()) := by
 rw [show bU R b = _ from call (A3u R L b), show Ac9 R b.1 = some (inB b.1 0 11, ()) by rw [show Ac9 R b.1 = _ from call (A9x R L b.1), sX]; rfl, A5F, Ae9]
 unfold A6n iX
 rw [show inR b.1 0 11 = inB b.1 0 11 from rfl, show inR b.2.2.1 0 999999 = inB b.2.2.1 0 999999 from rfl]
 cases inB b.1 0 11 <;> cases inR b.2.1 0 7 <;> cases inB b.2.2.1 0 999999 <;> rfl
theorem BN0 (l : List DB) (h : l.length ≤ 1099511627776) : wC R l = some (l, ()) := by
 rw [show wC R l = _ from call (lV R L l)]
 cases l with
 | nil => exact cR _
 | cons a l => show cond (yB (0 + (a :: l).length)) (some (a :: l, ())) none = _; rw [uB (by omega)]; rfl
theorem A8G (o : DO) (ho : o.1.length = 12) (all : List DB) (hal : all.length ≤ 1048576) : ∀ (n i : Nat) (arr : List Bool), all.length - i = n → i ≤ all.length → arr.length = 12 →
  nG R L o arr all (all.length : Int) (i : Int) = some (A9P o.1 arr (all.drop i), ())
 | 0, i, arr, hn, hi, ha => by
  rw [show nG R L o arr all (all.length : Int) (i : Int) = _ from round (by kernel_rfl) (AY7 R L o arr all (all.length : Int) (i : Int)), A2M (by omega), List.drop_eq_nil_of_le (by omega)]; rfl
 | n + 1, i, arr, hn, hi, ha => by
  have hlt : i < all.length := by omega
  rw [show nG R L o arr all (all.length : Int) (i : Int) = _ from round (by kernel_rfl) (AY7 R L o arr all (all.length : Int) (i : Int)), A2B hlt, qY (d := (0, (0, (0, ())))) hlt, zB (i := i) (by omega), tn]
  generalize all.getD i (0, (0, (0, ()))) = b
  simp (disch := omega) only [st, A8b b]
  have hc : A9P o.1 arr (b :: all.drop (i + 1)) = ((A6n b && (decide (b.2.1 = o.1.getD b.1.toNat 0) && !arr.getD b.1.toNat false)) && A9P o.1 (arr.set b.1.toNat true) (all.drop (i + 1))) := rfl
  rw [hc]
  cases h1 : A6n b with
  | false => rfl
  | true =>
   have hb : 0 ≤ b.1 ∧ b.1 ≤ 11 := by
    unfold A6n at h1
    simp only [Bool.and_eq_true] at h1
    exact nP h1.1
   have ih := A8G o ho all hal n (i + 1) (arr.set b.1.toNat true) (by omega) (by omega) (by rw [List.length_set]; exact ha)
   simp (disch := omega) only [st, Bool.not_true, oJ, ih]
   cases decide (b.2.1 = o.1.getD b.1.toNat 0) with
   | false => rfl
   | true => cases arr.getD b.1.toNat false <;> rfl
theorem A8r (o : DO) (ho : o.1.length = 12) (hbl : o.2.2.1.length = 15) (hf : o.2.1.length + o.2.2.1.flatten.length ≤ 1048576) : ∀ (n i : Nat), 15 - i = n → i ≤ 15 →
  qL R L o o.2.2.1 (o.2.2.1.length : Int) (i : Int) = some (BP5 i (o.2.2.1.drop i) && A9P o.1 (List.replicate 12 false) (o.2.1 ++ o.2.2.1.flatten), ())
 | 0, i, hn, hi => by
  rw [show qL R L o o.2.2.1 (o.2.2.1.length : Int) (i : Int) = _ from round (by kernel_rfl) (AW8 R L o o.2.2.1 (o.2.2.1.length : Int) (i : Int)), A2M (by omega), List.drop_eq_nil_of_le (by omega)]
  have ea : eT R o = some (o.2.1 ++ o.2.2.1.flatten, ()) := by
   rw [show eT R o = _ from call (A03 R L o), BN0 _ (by omega), A9v _ (by omega) (by omega)]
   simp (disch := omega) only [st]
  have := A8G o ho (o.2.1 ++ o.2.2.1.flatten) (by rw [List.length_append]; exact hf) _ 0 (List.replicate 12 false) rfl (Nat.zero_le _) rfl
  simp only [cond_false, ea, Option.bind_some]
  exact this
 | n + 1, i, hn, hi => by
  have hlt : i < o.2.2.1.length := by omega
  have ih := A8r o ho hbl hf n (i + 1) (by omega) (by omega)
  have hm : o.2.2.1.getD i [] ∈ o.2.2.1 := sN hlt
  rw [show qL R L o o.2.2.1 (o.2.2.1.length : Int) (i : Int) = _ from round (by kernel_rfl) (AW8 R L o o.2.2.1 (o.2.2.1.length : Int) (i : Int)), A2B hlt, qY (d := []) hlt, zB (i := i) (by omega), tn, ih]
  generalize o.2.2.1.getD i [] = k
  have hc : BP5 i (k :: o.2.2.1.drop (i + 1)) = ((decide (k.length ≤ 2) && k.all fun b => iX b.2.1 && onB i b.2.1) && BP5 (i + 1) (o.2.2.1.drop (i + 1))) := rfl
  rw [hc]
  simp (disch := omega) only [st]
  by_cases hk : k.length ≤ 2
  ·rw [dT hk, dF (show ¬ (2 : Int) < (k.length : Int) by omega), AC9 k _ (fun b => iX b.2.1 && onB i b.2.1) (by omega) (fun b _ => by
    rw [A0t, show AM0 R b (i : Int) = _ from call (A2h R L b (i : Int)), A5F]
    cases hb : iX b.2.1 with
    | false => rfl
    | true =>
     rw [show iJ R (i : Int) b.2.1 = _ from Bj4 i hb]; rfl)]
   simp only [cond_false, Option.bind_some, Bool.true_and]
   cases (k.all fun b => iX b.2.1 && onB i b.2.1) <;> rfl
  ·rw [dF hk, dT (show (2 : Int) < (k.length : Int) by omega)]; rfl
theorem BY1 (o : DO) (h1 : o.1.length ≤ 4096) (hf : o.2.1.length + o.2.2.1.flatten.length ≤ 1048576) : AV1 R o = some (A3k o, ()) := by
 rw [show AV1 R o = _ from call (A5k R L o), ← BD5, show wI R o.1 (FnVal.mk 117 FCaps.nil) = _ from An4 o.1 h1]
 unfold BM9
 rw [show o.1.all jH = o.1.all iX from rfl]
 by_cases a1 : o.1.length = 12
 ·rw [dT a1]
  simp (disch := omega) only [st, Bool.not_true]
  cases o.1.all iX with
  | false => rfl
  | true =>
   by_cases a3 : o.2.2.1.length = 15
   ·have e0 : qL R L o o.2.2.1 (o.2.2.1.length : Int) 0 = _ := A8r o a1 a3 hf 15 0 rfl (by omega)
    rw [dT a3]
    simp (disch := omega) only [st, Bool.not_true, e0]
    rfl
   ·rw [dF a3]
    simp (disch := omega) only [st, Bool.not_true, Bool.not_false]
    rfl
 ·rw [dF a1]
  simp (disch := omega) only [st, Bool.not_false]
  rfl
theorem BP7 (e : DE) (hk : e.1.length ≤ 1048576) (h1 : e.2.1.1.length ≤ 4096) (hf : e.2.1.2.1.length + e.2.1.2.2.1.flatten.length ≤ 1048576) : AO3 R e = some (Ac0 e, ()) :=
 (A53 (f := 34) rfl _).trans (A1A (E := EE) (f := 34) (x := (Ac0 e, ())) rfl
  (BV7 (E := EE) rfl e hk (fun x _ => A2m _ _ _ (A63 x)) (A2m _ _ _ (BY1 e.2.1 h1 hf))))
end Go.Rf.S

end
section
namespace Go.Rf.S
set_option maxRecDepth 100000
noncomputable def A2w (key nonce ad t : List UInt8) : List UInt8 × Bool :=
 if t.length < 16 then ([], false) else if btF key nonce ad (t.take (t.length - 16)) = t.drop (t.length - 16) then (chX key nonce ((t.take (t.length - 16)).length / 64 + 1) 1 (t.take (t.length - 16)), true) else ([], false)
theorem BV5 {key nonce ad t : List UInt8} (hk : key.length = 32) (hn : nonce.length = 12) (ha : ad.length ≤ 1048576) (ht : t.length ≤ 1048576) :
  AG6 R key nonce ad t = some ((A2w key nonce ad t).1, ((A2w key nonce ad t).2, ())) ∧ True ∧ (A2w key nonce ad t).1.length ≤ t.length := by
 unfold A2w
 by_cases h16 : t.length < 16
 ·rw [if_pos h16]
  refine ⟨?_, ?_, Nat.zero_le _⟩
  ·rw [show AG6 R key nonce ad t = _ from call (A4c R L key nonce ad t), dT (show (t.length : Int) < 16 by omega)]; rfl
  ·trivial
 ·rw [if_neg h16]
  obtain ⟨m, hm⟩ : ∃ m, t.length = m + 16 := ⟨t.length - 16, by omega⟩
  have hw : IntKind.wrap .i64 ((t.length : Int) - 16) = (m : Int) := by rw [zO (by omega) (by omega)]; omega
  have hml : (t.take m).length = m := by rw [List.length_take]; omega
  obtain ⟨b1, b2, b3⟩ := Av6 (key := key) (nonce := nonce) (ad := ad) (t := t.take m) hk hn (by omega) (by omega)
  have c1 : cM R key nonce 1 (t.take m) = some (chX key nonce ((t.take m).length / 64 + 1) 1 (t.take m), ()) := A4Q key nonce hk hn 1 (t.take m) (by omega) (by decide)
  have c2 : fA R key nonce 1 (t.take m) = some (chX key nonce ((t.take m).length / 64 + 1) 1 (t.take m), ()) := A0f key nonce hk hn 1 (t.take m) (by omega) (by decide)
  have hd : (t.drop m).length = 16 := by rw [List.length_drop]; omega
  rw [show t.length - 16 = m by omega]
  refine ⟨?_, ?_, ?_⟩
  ·rw [show AG6 R key nonce ad t = _ from call (A4c R L key nonce ad t), dF (show ¬ (t.length : Int) < 16 by omega), hw, List.take_length]
   simp (disch := omega) only [st, List.drop_zero, b1, Ai9]
   by_cases h : btF key nonce ad (t.take m) = t.drop m
   ·rw [dT h, if_pos h]
    simp (disch := omega) only [st, Bool.not_true, c1]
   ·rw [dF h, if_neg h]; rfl
  ·trivial
  ·split
   ·have := A2t hk hn (t.take m) (by omega)
    show (chX key nonce ((t.take m).length / 64 + 1) 1 (t.take m)).length ≤ _
    omega
   ·exact Nat.zero_le _
noncomputable def opD (key : List UInt8) (a b c : Nat) (t : List UInt8) : List UInt8 × Bool := A2w key (BB8 a b c) blk t
theorem A4G {key t : List UInt8} (hk : key.length = 32) (ht : t.length ≤ 1048576) (a b c : Nat) :
  jA R key (a : Int) (b : Int) (c : Int) t = some ((opD key a b c t).1, ((opD key a b c t).2, ())) ∧ True ∧ (opD key a b c t).1.length ≤ t.length := by
 obtain ⟨h1, h2, h3⟩ := BV5 (ad := blk) (t := t) hk (Ay5 a b c) (by decide) ht
 refine ⟨?_, ?_, h3⟩
 ·rw [show jA R key (a : Int) (b : Int) (c : Int) t = _ from call (A6O R L key (a : Int) (b : Int) (c : Int) t), (A2V a b c).1]
  show (AG6 R key (BB8 a b c) blk t).bind _ = _
  rw [h1]; rfl
 ·trivial
def bOK (t : List UInt8) : Bool := pE (pV (po t 7)).2
def bV (t : List UInt8) : List DB := (pV (po t 7)).1
theorem BC9 (t : List UInt8) : iC R t = some (bV t, (bOK t, ())) := by
 obtain ⟨x, h1, e1⟩ := A4g t 7 (by decide)
 obtain ⟨y, h2, e2⟩ := BF6 2 (by decide) h1
 have e1 : oU R t 7 = _ := e1
 have e2 : wM R x 2 = _ := e2
 rw [show iC R t = _ from call (Am6 R L t), e1]
 simp only [Option.bind_some]
 rw [e2]
 simp only [Option.bind_some]
 rw [BG1 h2]; rfl
theorem Bc1 (t : List UInt8) : (bV t).length ≤ 2 := by
 unfold bV pV
 rw [A5B]
 have := (A9J 2 (by decide) (po t 7)).2
 have := (A9J 2 (by decide) (po t 7)).1
 omega
end Go.Rf.S

end
section
namespace Go.Rf.S
set_option maxRecDepth 100000
def sOK (t : List UInt8) : Bool := pE (pZ (po t 140)).2 && (Ac0 (BZ4 (po t 140)) && Ao2 (pZ (po t 140)).1)
def sE1 (t : List UInt8) : DE := BZ4 (po t 140)
def sRs (t : List UInt8) : List DR := (pZ (po t 140)).1
theorem Ar1 (b : Int) : ∀ (n : Nat) (o : LO), (pS b n o).1.length = n
 | 0, _ => rfl
 | n + 1, o => by show (_ :: _ : List Int).length = _; rw [List.length_cons, Ar1 b n]
theorem BA7 : nob.flatten.length = 0 := rfl
theorem AX2 (v2 : DE) (E : DE) (hk : E.1.length ≤ 1048576) (h1 : E.2.1.1.length ≤ 4096) (hf : E.2.1.2.1.length + E.2.1.2.2.1.flatten.length ≤ 1048576) {n : Nat} (hn : n ≤ 1000) : ∀ (c i : Nat) {x : PR} {o : LO} (acc : List DR), i + c = n → RP x o → acc.length = i → (∀ r ∈ acc, r.2.1.length ≤ 1048576) →
  sZ R L v2 x E acc (n : Int) (i : Int) = some (if (pE (pR c o).2 && (Ac0 E && Ao2 (acc ++ (pR c o).1))) = true then (E, (acc ++ (pR c o).1, (true, ()))) else (([], (([], ([], ([], ()))), ())), ([], (false, ()))))
 | 0, i, x, o, acc, hi, h, ha, hr => by
  rw [show sZ R L v2 x E acc (n : Int) (i : Int) = _ from round (by kernel_rfl) (AD9 R L v2 x E acc (n : Int) (i : Int)), A2M (by omega), BG1 h]
  show _ = some (if (pE o && (Ac0 E && Ao2 (acc ++ []))) = true then (E, (acc ++ [], (true, ()))) else _)
  rw [List.append_nil]
  cases he : pE o with
  | false => rfl
  | true =>
   simp only [cond_false, Option.bind_some, Bool.not_true]
   rw [BP7 E hk h1 hf]
   cases Ac0 E with
   | false => rfl
   | true =>
    simp only [cond_false, Option.bind_some, Bool.not_true]
    rw [BZ6]
    cases Ao2 acc <;> rfl
 | c + 1, i, x, o, acc, hi, h, ha, hr => by
  obtain ⟨y1, k1, e1⟩ := AZ1 h 19
  obtain ⟨y2, k2, e2⟩ := AZ1 k1 32
  obtain ⟨m, hm⟩ := Int.eq_ofNat_of_zero_le (A9J 32 (by decide) (pN 19 o).2).1
  have hm2 := (A9J 32 (by decide) (pN 19 o).2).2
  obtain ⟨y3, k3, e3⟩ := BJ5 (b := 999999) (n := m) (by omega) k2
  have e1' : pR1 o = (((pN 19 o).1, ((pS 999999 m (pN 32 (pN 19 o).2).2).1, ())), (pS 999999 m (pN 32 (pN 19 o).2).2).2) := by unfold pR1; rw [hm]; rfl
  have hl1 : (pR1 o).1.2.1.length ≤ 1048576 := by rw [e1']; show (pS 999999 m _).1.length ≤ _; rw [Ar1]; omega
  have k3 : RP y3 (pR1 o).2 := by rw [e1']; exact k3
  have ih := AX2 v2 E hk h1 hf hn c (i + 1) (acc ++ [(pR1 o).1]) (by omega) k3 (by rw [List.length_append, ha]; rfl) (fun r hr' => by
   rcases List.mem_append.1 hr' with h | h
   ·exact hr r h
   ·rw [List.mem_singleton.1 h]; exact hl1)
  rw [show sZ R L v2 x E acc (n : Int) (i : Int) = _ from round (by kernel_rfl) (AD9 R L v2 x E acc (n : Int) (i : Int)), A2B (by omega), e1, zB (by omega)]
  simp only [cond_true, Option.bind_some]
  rw [e2]
  simp only [Option.bind_some]
  rw [hm, e3]
  simp (disch := omega) only [st]
  have hrec : ((pN 19 o).1, ((pS 999999 m (pN 32 (pN 19 o).2).2).1, ())) = (pR1 o).1 := by rw [e1']
  rw [hrec, ih, List.append_assoc]
  rfl
theorem BO6 (t : List UInt8) : gE R t = some (if sOK t = true then (sE1 t, (sRs t, (true, ()))) else (([], (([], ([], ([], ()))), ())), ([], (false, ())))) := by
 obtain ⟨x0, h0, e0⟩ := A4g t 140 (by decide)
 obtain ⟨x1, h1, e1⟩ := BJ5 (b := 7) (n := 12) (by decide) h0
 obtain ⟨x2, h2, e2⟩ := BF6 12 (by decide) h1
 obtain ⟨x3, h3, e3⟩ := BJ5 (b := 9999) (n := 11) (by decide) h2
 obtain ⟨x4, h4, e4⟩ := AZ1 h3 2
 obtain ⟨n, hn⟩ := Int.eq_ofNat_of_zero_le (A9J 2 (by decide) (pY (po t 140)).2).1
 have hn2 := (A9J 2 (by decide) (pY (po t 140)).2).2
 have e0 : oU R t 140 = _ := e0
 have e1 : xG R x0 12 0 7 = some ((pK (po t 140)).1, (x1, ())) := e1
 have e2 : wM R x1 12 = some ((pT (po t 140)).1, (x2, ())) := e2
 have e3 : xG R x2 11 0 9999 = some ((pY (po t 140)).1, (x3, ())) := e3
 have e4 : yL R x3 0 2 = some ((pN 2 (pY (po t 140)).2).1, (x4, ())) := e4
 have h4 : RP x4 (pN 2 (pY (po t 140)).2).2 := h4
 have hb2 := (A9J 12 (by decide) (pK (po t 140)).2)
 have hTl : (pT (po t 140)).1.length ≤ 12 := by unfold pT; rw [A5B]; omega
 rw [show gE R t = _ from call (Aw2 R L t), e0]
 simp only [Option.bind_some]
 rw [e1]
 simp only [Option.bind_some]
 rw [e2]
 simp only [Option.bind_some]
 rw [e3]
 simp only [Option.bind_some]
 rw [e4]
 simp only [Option.bind_some]
 rw [hn]
 have hl := AX2 ([], (([], ([], ([], ()))), ())) (BZ4 (po t 140)) (by show (pS 9999 11 _).1.length ≤ _; rw [Ar1]; decide) (by show (pS 7 12 _).1.length ≤ _; rw [Ar1]; decide) (by
   show (pT (po t 140)).1.length + nob.flatten.length ≤ _
   rw [BA7]; omega) (n := n) (by omega) n 0 [] (by omega) h4 rfl (fun _ h => by cases h)
 have hz : pZ (po t 140) = pR n (pN 2 (pY (po t 140)).2).2 := by unfold pZ; rw [hn]; rfl
 rw [← hz, List.nil_append] at hl
 exact hl
end Go.Rf.S

end
section
namespace Go.Rf.S
set_option maxRecDepth 100000
def Ac6 (x : xU) : List (List UInt8) := (x.2.2.1.1.drop (16 * x.2.1.2.1.toNat)).take 16
theorem Ay3 {x : xU} (h : SO x) : (Ac6 x).length = 16 := by
 unfold Ac6
 have := h.dl; have := h.sd
 rw [List.length_take, List.length_drop]; omega
theorem Au9 {x : xU} {s : List UInt8} (hs : s ∈ Ac6 x) : s ∈ x.2.2.1.1 := List.mem_of_mem_drop (List.mem_of_mem_take hs)
theorem BY5 {x : xU} (h : SO x) : nN R x = some (Ac6 x, ()) := by
 have h1 := h.dl; have h2 := h.sd
 obtain ⟨s, hs⟩ := Int.eq_ofNat_of_zero_le (show 0 ≤ x.2.1.2.1 by omega)
 rw [show nN R x = _ from call (AV5 R L x), hs, zB (by omega), show IntKind.wrap .i64 (16 * ((s + 1 : Nat) : Int)) = ((16 * (s + 1) : Nat) : Int) by rw [zO (by omega) (by omega)]; omega, show IntKind.wrap .i64 (16 * (s : Int)) = ((16 * s : Nat) : Int) by rw [zO (by omega) (by omega)]; omega]
 simp (disch := omega) only [st]
 unfold Ac6
 rw [hs, Int.toNat_natCast, List.drop_take]
 congr 2
 rw [show 16 * (s + 1) - 16 * s = 16 by omega]
noncomputable def bk (x : xU) (i : Nat) : List UInt8 × Bool := opD x.1 2 (16 * x.2.1.2.1.toNat + 1 + i) x.2.1.1.toNat ((Ac6 x).getD (i + 1) [])
noncomputable def ldB (x : xU) : Nat → Nat → List (List DB) → Option (List (List DB))
 | 0, _, bs => some bs
 | c + 1, i, bs => if (bk x i).2 = true then (if bOK (bk x i).1 = true then ldB x c (i + 1) (bs.set i (bV (bk x i).1)) else none) else none
noncomputable def hd (x : xU) : List UInt8 × Bool := opD x.1 1 (16 * x.2.1.2.1.toNat) x.2.1.1.toNat ((Ac6 x).getD 0 [])
abbrev DL : Type := DE × (List DR × (Bool × Unit))
def no3 : DL := (([], (([], ([], ([], ()))), ())), ([], (false, ())))
def Aa0 (e : DE) (bs : List (List DB)) : DE := (e.1, ((e.2.1.1, (e.2.1.2.1, (bs, e.2.1.2.2.2))), e.2.2))
noncomputable def ldF (x : xU) : DL :=
 if Am7 (Ac6 x) = x.2.1.2.2.2.2.2.2.1 then (if (hd x).2 = true then (if sOK (hd x).1 = true then (match ldB x 15 0 nob with
  | none => no3
  | some bs => (Aa0 (sE1 (hd x).1) bs, (sRs (hd x).1, (Ac0 (Aa0 (sE1 (hd x).1) bs), ())))) else no3) else no3) else no3
theorem A9y (l : List (List DB)) (i : Nat) (b : List DB) (hi : i < l.length) : (l.set i b).flatten.length + (l.getD i []).length = l.flatten.length + b.length := by
 induction l generalizing i with
 | nil => exact absurd hi (Nat.not_lt_zero _)
 | cons a l ih =>
  cases i with
  | zero =>
   show (b :: l).flatten.length + a.length = (a :: l).flatten.length + b.length
   simp only [List.flatten_cons, List.length_append]; omega
  | succ i =>
   have := ih i (by simpa using hi)
   show (a :: l.set i b).flatten.length + (l.getD i []).length = (a :: l).flatten.length + b.length
   simp only [List.flatten_cons, List.length_append]; omega
theorem Bh1 {x : xU} (h : SO x) (t : List UInt8) (hh : (sE1 t).2.1.2.1.length ≤ 12) (rs : List DR) (v2 : DE) : ∀ (c i : Nat) (bs : List (List DB)), i + c = 15 → bs.length = 15 → bs.flatten.length ≤ 2 * i →
  tQ R L x v2 (Ac6 x) (16 * x.2.1.2.1) (Aa0 (sE1 t) bs) rs 15 (i : Int) = some (match ldB x c i bs with | none => no3 | some bs => (Aa0 (sE1 t) bs, (rs, (Ac0 (Aa0 (sE1 t) bs), ()))))
 | 0, i, bs, hi, hb, hf => by
  have : i = 15 := by omega
  subst this
  rw [show tQ R L x v2 (Ac6 x) (16 * x.2.1.2.1) (Aa0 (sE1 t) bs) rs 15 ((15 : Nat) : Int) = _ from round (by kernel_rfl) (dS R L x v2 (Ac6 x) _ (Aa0 (sE1 t) bs) rs 15 ((15 : Nat) : Int)), dF (show ¬ ((15 : Nat) : Int) < 15 by omega), BP7 (Aa0 (sE1 t) bs) (by show (pS 9999 11 _).1.length ≤ _; rw [Ar1]; decide) (by show (pS 7 12 _).1.length ≤ _; rw [Ar1]; decide) (by
   show (sE1 t).2.1.2.1.length + bs.flatten.length ≤ _; omega)]
  rfl
 | c + 1, i, bs, hi, hb, hf => by
  have h1 := h.dl; have h2 := h.sd; have h3 := h.c0; have h4 := h.c1
  obtain ⟨s, hs⟩ := Int.eq_ofNat_of_zero_le (show 0 ≤ x.2.1.2.1 by omega)
  obtain ⟨C, hC⟩ := Int.eq_ofNat_of_zero_le h3
  have hsl := Ay3 h
  have hm : (Ac6 x).getD (i + 1) [] ∈ x.2.2.1.1 := Au9 (sN (by omega))
  have hml := h.ds _ hm
  obtain ⟨o1, o2, o3⟩ := A4G (key := x.1) (t := (Ac6 x).getD (i + 1) []) h.k (by omega) 2 (16 * s + 1 + i) C
  have hbk : bk x i = opD x.1 2 (16 * s + 1 + i) C ((Ac6 x).getD (i + 1) []) := by unfold bk; rw [hs, hC]; rfl
  rw [← hbk] at o1 o3
  have o1 : jA R x.1 2 ((16 * s + 1 + i : Nat) : Int) (C : Int) ((Ac6 x).getD (i + 1) []) = _ := o1
  have e1 : IntKind.wrap .i64 (1 + (i : Int)) = ((i + 1 : Nat) : Int) := by rw [zO (by omega) (by omega)]; omega
  have e2 : IntKind.wrap .i64 (IntKind.wrap .i64 (16 * x.2.1.2.1 + 1) + (i : Int)) = ((16 * s + 1 + i : Nat) : Int) := by
   rw [hs, zO (n := 16 * ((s : Nat) : Int) + 1) (by omega) (by omega), zO (by omega) (by omega)]; omega
  have ih := Bh1 h t hh rs v2 c (i + 1) (bs.set i (bV (bk x i).1)) (by omega) (by rw [List.length_set]; exact hb) (by
   have := A9y bs i (bV (bk x i).1) (by omega)
   have := Bc1 (bk x i).1
   omega)
  rw [show tQ R L x v2 (Ac6 x) (16 * x.2.1.2.1) (Aa0 (sE1 t) bs) rs 15 (i : Int) = _ from round (by kernel_rfl) (dS R L x v2 (Ac6 x) _ (Aa0 (sE1 t) bs) rs 15 (i : Int)), dT (show (i : Int) < 15 by omega), e1, e2, hC, zB (by omega)]
  simp (disch := omega) only [st, o1, BC9]
  unfold ldB
  cases hb1 : (bk x i).2 with
  | false => rfl
  | true =>
   rw [if_pos rfl]
   cases hb2 : bOK (bk x i).1 with
   | false => rfl
   | true =>
    rw [if_pos rfl]
    have hlt : i < (Aa0 (sE1 t) bs).2.1.2.2.1.length := by show i < bs.length; omega
    simp (disch := omega) only [st, Bool.not_true]
    exact ih
theorem BO7 {x : xU} (h : SO x) : Sh (Ac6 x) := fun s hs => Nat.le_trans (h.ds s (Au9 hs)) (by decide)
theorem A72 (t : List UInt8) : (sE1 t).2.1.2.1.length ≤ 12 := by
 show (pT (po t 140)).1.length ≤ 12
 have hb2 := (A9J 12 (by decide) (pK (po t 140)).2)
 unfold pT; rw [A5B]; omega
theorem Bj3 {x : xU} (h : SO x) : jA R x.1 1 (16 * x.2.1.2.1) x.2.1.1 ((Ac6 x).getD 0 []) = some ((hd x).1, ((hd x).2, ())) ∧ True ∧ (hd x).1.length ≤ 1048576 := by
 have h2 := h.sd; have h3 := h.c0
 obtain ⟨s, hs⟩ := Int.eq_ofNat_of_zero_le (show 0 ≤ x.2.1.2.1 by omega)
 obtain ⟨C, hC⟩ := Int.eq_ofNat_of_zero_le h3
 have hsl := Ay3 h
 have hml := h.ds _ (Au9 (sN (d := []) (show 0 < (Ac6 x).length by omega)))
 obtain ⟨o1, o2, o3⟩ := A4G (key := x.1) (t := (Ac6 x).getD 0 []) h.k (by omega) 1 (16 * s) C
 have hbk : hd x = opD x.1 1 (16 * s) C ((Ac6 x).getD 0 []) := by unfold hd; rw [hs, hC]; rfl
 rw [← hbk] at o1 o3
 rw [hs, hC, show 16 * ((s : Nat) : Int) = ((16 * s : Nat) : Int) by omega]
 exact ⟨o1, o2, by omega⟩
theorem BX5 {x : xU} (h : SO x) : rS R x = some (ldF x) := by
 have hsl := Ay3 h
 have h2 := h.sd
 obtain ⟨o1, _, _⟩ := Bj3 h
 rw [show rS R x = _ from call (Ah9 R L x), BY5 h, zO (n := 16 * x.2.1.2.1) (by omega) (by omega)]
 simp only [Option.bind_some]
 rw [(A7s hsl (BO7 h)).1]
 simp only [Option.bind_some, Ai9]
 unfold ldF
 by_cases hr : Am7 (Ac6 x) = x.2.1.2.2.2.2.2.2.1
 ·rw [dT hr, if_pos hr]
  simp (disch := omega) only [st, Bool.not_true]
  rw [show (0 : Int).toNat = 0 from rfl, o1]
  simp only [Option.bind_some]
  rw [BO6]
  simp only [Option.bind_some]
  cases h1 : (hd x).2 with
  | false => rfl
  | true =>
   rw [if_pos rfl]
   cases h2 : sOK (hd x).1 with
   | false => rfl
   | true =>
    simp only [cond_false, Bool.not_true, if_true]
    exact Bh1 h (hd x).1 (A72 _) (sRs (hd x).1) _ 15 0 nob rfl rfl (by decide)
 ·rw [dF hr, if_neg hr]; rfl
def Bi9 (S : List (List UInt8)) : Nat → Nat → List UInt8 → List UInt8
 | 0, _, t => t
 | c + 1, n, t => Bi9 S c (n + 1) (Ba4 t (S.getD (32 + n % 8) []))
def whole (x : xU) : Bool := decide (Bi9 x.2.2.1.1 (x.2.1.2.2.1.toNat - x.2.1.1.toNat) (x.2.1.1.toNat + 1) x.2.1.2.2.2.2.1 = x.2.1.2.2.2.2.2.1)
end Go.Rf.S

end
section
namespace Go.Rf.S
set_option maxRecDepth 100000
def Bb9 (x : xU) : xU := (x.1, (x.2.1, (x.2.2.1, (false, (true, x.2.2.2.2.2)))))
def upR (x : xU) : xU := (x.1, ((x.2.1.1, (x.2.1.2.1, (x.2.1.2.2.1, (x.2.1.2.2.2.1 + 1, x.2.1.2.2.2.2)))), (x.2.2.1, (true, x.2.2.2.2))))
theorem A90 {x : xU} (h : SO x) : tU R x = some (Bb9 x, ()) := by
 rw [show tU R x = _ from call (AZ9 R L x), A9f h]; rfl
end Go.Rf.S

end
section
namespace Go.Rf.S
set_option maxRecDepth 100000
noncomputable def okL (x : xU) : Bool := (ldF x).2.2.1
noncomputable def Bd0 (x : xU) : xU := if eG x = false then noS else if upc x = 0 then (if okL x = true then x else Bb9 x) else x
noncomputable def Bc3 (x : xU) : List DR := if eG x = false then [] else if upc x = 0 then (if okL x = true then (ldF x).2.1 else []) else []
noncomputable def Bc9 (x : xU) : Int := if eG x = false then 1 else if upc x = 0 then (if okL x = true then 0 else 10) else upc x
theorem Bh0 (x : xU) : rY R x = some (Bd0 x, (Bc3 x, (Bc9 x, ()))) := by
 rw [show rY R x = _ from call (Ad8 R L x), bJ]
 unfold Bd0 Bc3 Bc9
 cases hs : eG x with
 | false => rfl
 | true =>
  have h := SO.of hs
  simp only [Option.bind_some, Bool.not_true, cond_false]
  rw [A9f h, Bh6, if_neg (show ¬ true = false by decide), if_neg (show ¬ true = false by decide), if_neg (show ¬ true = false by decide)]
  simp only [Option.bind_some, oJ]
  by_cases hu : upc x = 0
  ·rw [dT hu, if_pos hu, if_pos hu, if_pos hu, BX5 h]
   simp only [Option.bind_some, Bool.not_true, cond_false]
   unfold okL
   cases h4 : (ldF x).2.2.1 with
   | false =>
    simp only [Bool.not_false, cond_true, Bool.false_eq_true, if_false]
    rw [A90 h]; rfl
   | true => rfl
  ·rw [dF hu, if_neg hu, if_neg hu, if_neg hu]; rfl
end Go.Rf.S

end
section
namespace Go.Rf.S
set_option maxRecDepth 100000
theorem As2 : ∀ (a b : List UInt8), a.length ≤ b.length → Am8 (Am8 a b) b = a
 | [], b, _ => by cases b <;> rfl
 | x :: a, [], h => by simp at h
 | x :: a, y :: b, h => by
  show (x ^^^ y ^^^ y) :: Am8 (Am8 a b) b = _
  rw [UInt8.xor_assoc, UInt8.xor_self, UInt8.xor_zero, As2 a b (by simpa using h)]
theorem A3H (key nonce : List UInt8) : ∀ n c, chX key nonce n c [] = []
 | 0, _ => rfl
 | n + 1, _ => if_pos rfl
theorem A1v {key nonce : List UInt8} (hk : key.length = 32) (hn : nonce.length = 12) : ∀ (n c : Nat) (t : List UInt8), t.length ≤ 64 * n → c + n < 4294967296 → chX key nonce n c (chX key nonce n c t) = t
 | 0, c, t, ht, _ => by
  have : t = [] := List.length_eq_zero_iff.1 (by omega)
  rw [this]; rfl
 | n + 1, c, t, ht, hc => by
  by_cases h : t = []
  ·rw [h, A3H, A3H]
  ·have hb := AB5 hk hn (count := c) (by omega)
   have hu : (Am8 (t.take 64) (chB key nonce c)).length = min 64 t.length := by
    rw [AG2 _ _ (by rw [hb, List.length_take]; omega), List.length_take]
   have ih := A1v hk hn n (c + 1) (t.drop 64) (by rw [List.length_drop]; omega) (by omega)
   have e : chX key nonce (n + 1) c t = Am8 (t.take 64) (chB key nonce c) ++ chX key nonce n (c + 1) (t.drop 64) := if_neg h
   have hp : 0 < t.length := by cases t with
    | nil => exact absurd rfl h
    | cons a t => simp
   have hv : 64 ≤ t.length ∨ chX key nonce n (c + 1) (t.drop 64) = [] := by
    rcases Nat.lt_or_ge t.length 64 with h1 | h1
    ·right; rw [List.drop_eq_nil_of_le (by omega), A3H]
    ·left; exact h1
   have e1 : (chX key nonce (n + 1) c t).take 64 = Am8 (t.take 64) (chB key nonce c) := by
    rw [e]
    rcases hv with h1 | h1
    ·rw [List.take_left' (by rw [hu]; omega)]
    ·rw [h1, List.append_nil, List.take_of_length_le (by rw [hu]; omega)]
   have e2 : (chX key nonce (n + 1) c t).drop 64 = chX key nonce n (c + 1) (t.drop 64) := by
    rw [e]
    rcases hv with h1 | h1
    ·rw [List.drop_left' (by rw [hu]; omega)]
    ·rw [h1, List.append_nil, List.drop_eq_nil_of_le (by rw [hu]; omega)]
   have hne : chX key nonce (n + 1) c t ≠ [] := fun h0 => by
    have := congrArg List.length h0
    rw [e, List.length_append, hu] at this
    simp only [List.length_nil] at this
    omega
   rw [show chX key nonce (n + 1) c (chX key nonce (n + 1) c t) = Am8 ((chX key nonce (n + 1) c t).take 64) (chB key nonce c) ++ chX key nonce n (c + 1) ((chX key nonce (n + 1) c t).drop 64) from if_neg hne, e1, e2, ih,
    As2 _ _ (by rw [hb, List.length_take]; omega), List.take_append_drop]
theorem A7R {key nonce ad t : List UInt8} (hk : key.length = 32) (hn : nonce.length = 12) (ha : ad.length ≤ 1048576) (ht : t.length ≤ 1048576) : A2w key nonce ad (A3O key nonce ad t) = (t, true) := by
 have hc := A2t hk hn t ht
 have hd := A1v hk hn (t.length / 64 + 1) 1 t (by omega) (by omega)
 unfold A2w A3O
 generalize chX key nonce (t.length / 64 + 1) 1 t = c at hc hd ⊢
 have hb := (Av6 (key := key) (nonce := nonce) (ad := ad) (t := c) hk hn (by omega) (by omega)).2.2
 have hl : (c ++ btF key nonce ad c).length = t.length + 16 := by rw [List.length_append, hb, hc]
 rw [if_neg (by rw [hl]; omega), hl, Nat.add_sub_cancel, List.take_left' hc, List.drop_left' hc, if_pos rfl, hc, hd]
theorem A4d {key t : List UInt8} (hk : key.length = 32) (ht : t.length ≤ 1048576) (a b c : Nat) : opD key a b c (Ae8 key a b c t) = (t, true) :=
 A7R hk (Ay5 a b c) (by decide) ht
theorem BK7 (x : Int) (h0 : 0 ≤ x) (h1 : x < 4294967296) (r : List UInt8) : ((wLE (itx x ++ r) 0 : Nat) : Int) = x := by
 obtain ⟨n, rfl⟩ := Int.eq_ofNat_of_zero_le h0
 have e : itx (n : Int) = [UInt8.ofNat (n / 2 ^ (8 * 0) % 256), UInt8.ofNat (n / 2 ^ (8 * 1) % 256), UInt8.ofNat (n / 2 ^ (8 * 2) % 256), UInt8.ofNat (n / 2 ^ (8 * 3) % 256)] := rfl
 rw [e]
 unfold wLE
 simp only [bt, List.cons_append, List.getD_cons_zero, List.getD_cons_succ, UInt8.toNat_ofNat']
 have a0 : n / 2 ^ (8 * 0) % 256 % 2 ^ 8 < 2 ^ 8 := Nat.mod_lt _ (by decide)
 have a1 : n / 2 ^ (8 * 1) % 256 % 2 ^ 8 < 2 ^ 8 := Nat.mod_lt _ (by decide)
 have a2 : n / 2 ^ (8 * 2) % 256 % 2 ^ 8 < 2 ^ 8 := Nat.mod_lt _ (by decide)
 rw [An5 a0, An5 (n := 16) (by omega), An5 (n := 24) (by omega)]
 omega
theorem A1X : ∀ (l : List Int) (k : Nat), (l.flatMap itx).drop (4 * k) = (l.drop k).flatMap itx
 | [], k => by simp
 | x :: l, 0 => by simp
 | x :: l, k + 1 => by
  rw [List.flatMap_cons, show 4 * (k + 1) = (itx x).length + 4 * k by rw [A8k]; omega, List.drop_append, List.drop_eq_nil_of_le (by omega), List.nil_append, Nat.add_sub_cancel_left, List.drop_succ_cons, A1X l k]
def IR (l : List Int) : Prop := ∀ x ∈ l, 0 ≤ x ∧ x < 4294967296
theorem As1 (l : List Int) (h : IR l) : ∀ (c k : Nat), k + c = l.length → A5Z (l.flatMap itx) c k = l.drop k
 | 0, k, hk => by rw [List.drop_eq_nil_of_le (by omega)]; rfl
 | c + 1, k, hk => by
  have hlt : k < l.length := by omega
  rw [qY (d := 0) hlt]
  have hm : l.getD k 0 ∈ l := by rw [List.getD_eq_getElem?_getD, List.getElem?_eq_getElem hlt]; exact List.getElem_mem hlt
  obtain ⟨h1, h2⟩ := h _ hm
  have e : ((wLE (l.flatMap itx) (4 * k) : Nat) : Int) = l.getD k 0 := by
   rw [← Av0, A1X, qY (d := 0) hlt, List.flatMap_cons]
   exact BK7 _ h1 h2 _
  show ((wLE (l.flatMap itx) (4 * k) : Nat) : Int) :: A5Z (l.flatMap itx) c (k + 1) = _
  rw [e, As1 l h c (k + 1) (by omega)]
theorem BL4 {l : List Int} (h : IR l) {n : Nat} (hl : l.length = n) : po (l.flatMap itx) n = some l := by
 unfold po
 rw [if_pos (by rw [Ab8, hl])]
 unfold wds
 rw [Ab8, Nat.mul_div_cancel_left _ (by decide), As1 l h _ _ (Nat.zero_add _), List.drop_zero]
theorem A8Z (b : Int) : ∀ (l r : List Int), (∀ x ∈ l, inR x 0 b = true) → pS b l.length (some (l ++ r)) = (l, some r)
 | [], r, _ => rfl
 | x :: l, r, h => by
  have e : pN b (some (x :: (l ++ r))) = (x, some (l ++ r)) := by show (if inR x 0 b = true then _ else _) = _; rw [if_pos (h x (by simp))]
  show ((pN b (some (x :: (l ++ r)))).1 :: (pS b l.length (pN b (some (x :: (l ++ r)))).2).1, (pS b l.length (pN b (some (x :: (l ++ r)))).2).2) = _
  rw [e]
  show (x :: (pS b l.length (some (l ++ r))).1, (pS b l.length (some (l ++ r))).2) = _
  rw [A8Z b l r fun y hy => h y (by simp [hy])]
end Go.Rf.S

end
section
namespace Go.Rf.S
set_option maxRecDepth 100000
def zz (n : Nat) : List Int := List.replicate n 0
theorem BO8 (l : List Int) (hl : l.length = 12) : fil (stI (AA3 l) []) 140 = l ++ zz 128 := by
 have e : stI (AA3 l) [] = l ++ zz 13 := by
  show (((l ++ [0]) ++ List.replicate 11 0) ++ [0]) ++ [] = l ++ zz 13
  rw [List.append_nil, List.append_assoc, List.append_assoc]; rfl
 rw [e]
 unfold fil
 rw [List.length_append, hl, List.append_assoc]; rfl
theorem A7r {l : List Int} (h : l.all jH = true) : ∀ x ∈ l, inR x 0 7 = true := fun x hx => List.all_eq_true.1 h x hx
theorem Bd8 {x a b : Int} (h : inR x a b = true) : a ≤ x ∧ x ≤ b := by
 unfold inR at h
 simpa using h
theorem BW9 {l : List Int} (h : l.all jH = true) (n : Nat) : IR (l ++ zz n) := fun x hx => by
 rcases List.mem_append.1 hx with hx | hx
 ·have := Bd8 (A7r h x hx); omega
 ·rw [(List.mem_replicate.1 hx).2]; decide
theorem A7C {l : List Int} (hl : l.length = 12) (h : l.all jH = true) : po (A0u (AA3 l) []) 140 = some (l ++ zz 128) := by
 unfold A0u
 rw [BO8 l hl]
 exact BL4 (BW9 h 128) (by rw [List.length_append, hl]; rfl)
theorem BA1 {l : List Int} (hl : l.length = 12) (h : l.all jH = true) : sE1 (A0u (AA3 l) []) = AA3 l ∧ sRs (A0u (AA3 l) []) = [] ∧ sOK (A0u (AA3 l) []) = true := by
 have hK : pK (some (l ++ zz 128)) = (l, some (zz 128)) := by
  have := A8Z 7 l (zz 128) (A7r h)
  rw [hl] at this; exact this
 have hT : pT (some (l ++ zz 128)) = ([], some (zz 127)) := by unfold pT; rw [hK]; rfl
 have hY : pY (some (l ++ zz 128)) = (zz 11, some (zz 116)) := by unfold pY; rw [hT]; rfl
 have hZ : pZ (some (l ++ zz 128)) = ([], some (zz 115)) := by unfold pZ; rw [hY]; rfl
 have hE : BZ4 (some (l ++ zz 128)) = AA3 l := by unfold BZ4; rw [hK, hT, hY]; rfl
 have hO : Ac0 (AA3 l) = true := by
  have e : Ac0 (AA3 l) = (decide (l.length = 12) && (l.all iX && true)) := rfl
  rw [e, hl, show l.all iX = l.all jH from rfl, h]; rfl
 refine ⟨?_, ?_, ?_⟩
 ·unfold sE1; rw [A7C hl h, hE]
 ·unfold sRs; rw [A7C hl h, hZ]
 ·unfold sOK; rw [A7C hl h, hE, hZ, hO]; rfl
theorem A0H {key : List UInt8} {l : List Int} (h : jW key l = 0) : Ac6 (newS key l) = A0R key l := by
 have s3 := (A1C h).2.2.1
 show ((A0R key l ++ List.replicate 24 []).drop (16 * 0)).take 16 = A0R key l
 rw [Nat.mul_zero, List.drop_zero, List.take_left' s3]
theorem A0c (key : List UInt8) (l : List Int) : A0R key l = Ae8 key 1 (16 * 0) 0 (A0u (AA3 l) []) :: (List.replicate 15 ([] : List DB)).mapIdx (A1Z key 0 0) := by
 unfold A0R A3f; rfl
theorem Bb1 {key : List UInt8} {l : List Int} (h : jW key l = 0) {i : Nat} (hi : i < 15) : bk (newS key l) i = (A9M [], true) := by
 obtain ⟨h1, _⟩ := Ae4 h
 unfold bk
 rw [A0H h, show (newS key l).1 = key from rfl, show (newS key l).2.1.2.1 = 0 from rfl, show (newS key l).2.1.1 = 0 from rfl]
 have e : (A0R key l).getD (i + 1) [] = Ae8 key 2 (16 * 0 + 1 + i) 0 (A9M []) := by
  rw [A0c, List.getD_cons_succ, List.getD_eq_getElem?_getD, List.getElem?_mapIdx, List.getElem?_replicate, if_pos hi, Option.map_some]
  exact Eq.refl (A1Z key 0 0 i [])
 rw [e]
 exact A4d h1 (by rw [Ad2 (by simp)]; decide) 2 (16 * 0 + 1 + i) 0
theorem BJ4 (i : Nat) (_ : i < 15) : nob.set i [] = nob := by
 unfold nob
 apply List.ext_getElem?
 intro j
 rw [List.getElem?_set, List.length_replicate, List.getElem?_replicate]
 by_cases h : i = j
 ·subst h; simp
 ·rw [if_neg h]
theorem Bj0 : bOK (A9M []) = true ∧ bV (A9M []) = [] := by decide +kernel
theorem A8X {key : List UInt8} {l : List Int} (h : jW key l = 0) : ∀ (c i : Nat), i + c = 15 → ldB (newS key l) c i nob = some nob
 | 0, i, _ => rfl
 | c + 1, i, hi => by
  unfold ldB
  rw [Bb1 h (by omega), if_pos rfl, if_pos Bj0.1, Bj0.2, BJ4 i (by omega), A8X h c (i + 1) (by omega)]
theorem BY4 {key : List UInt8} {l : List Int} (h : jW key l = 0) : hd (newS key l) = (A0u (AA3 l) [], true) := by
 obtain ⟨h1, h2, h3, h4⟩ := Ae4 h
 unfold hd
 rw [A0H h, A0c, List.getD_cons_zero, show (newS key l).1 = key from rfl, show (newS key l).2.1.2.1 = 0 from rfl, show (newS key l).2.1.1 = 0 from rfl]
 have hl : (stI (AA3 l) []).length ≤ 140 := by
  show ((((l ++ [0]) ++ List.replicate 11 0) ++ [0]) ++ []).length ≤ 140
  simp [h2]
 exact A4d h1 (by rw [A4X hl]; decide) 1 (16 * 0) 0
theorem BJ3 {key : List UInt8} {l : List Int} (h : jW key l = 0) : ldF (newS key l) = (AA3 l, ([], (true, ()))) := by
 obtain ⟨h1, h2, h3, h4⟩ := Ae4 h
 obtain ⟨r1, r2, r3⟩ := BA1 h2 h3
 unfold ldF
 have hr : (newS key l).2.1.2.2.2.2.2.2.1 = Am7 (A0R key l) := by unfold newS; with_reducible rfl
 rw [A0H h, hr, if_pos rfl, BY4 h, if_pos rfl, if_pos r3, A8X h 15 0 rfl]
 simp only
 rw [r1, r2]
 have e : Aa0 (AA3 l) nob = AA3 l := rfl
 have hO : Ac0 (AA3 l) = true := by
  have e : Ac0 (AA3 l) = (decide (l.length = 12) && (l.all iX && true)) := rfl
  rw [e, h2, show l.all iX = l.all jH from rfl, h3]; rfl
 rw [e, hO]
theorem BD9 {l : List (List UInt8)} (h : l.length = 16) : (Am7 l).length = 32 := by
 unfold Am7
 have e : (wT (wT (wT (wT (tK l))))).length = 1 := by
  rw [kK, kK, kK, kK, Ag8, h]
 obtain ⟨s, hs⟩ : ∃ s, (wT (wT (wT (wT (tK l)))))[0]? = some s := ⟨_, List.getElem?_eq_getElem (by omega)⟩
 rw [List.getD_eq_getElem?_getD, hs]
 exact A4O _ s (List.mem_of_getElem? hs)
theorem Bj2 (b r : List UInt8) : Ay1 (0, (0, (0, (0, (b, (b, (r, ()))))))) = (A0P b && (A0P b && A0P r)) := by
 unfold Ay1
 simp [inB]
 intros; decide
theorem Ax7 {key : List UInt8} {l : List Int} (h : jW key l = 0) : eG (newS key l) = true ∧ Ay1 (newS key l).2.1 = true := by
 obtain ⟨h1, h2, h3, h4⟩ := Ae4 h
 obtain ⟨s1, s2, s3, s4⟩ := A1C h
 have hd := A0I A9K
 have hr := BD9 s3
 have r : Ay1 (newS key l).2.1 = true := by
  rw [show (newS key l).2.1 = (0, (0, (0, (0, (dig A9K, (dig A9K, (Am7 (A0R key l), ()))))))) by unfold newS; with_reducible rfl, Bj2]
  unfold A0P
  rw [hd, hr]; rfl
 refine ⟨?_, r⟩
 unfold eG
 rw [r, show (newS key l).1 = key from rfl, show (newS key l).2.2.1 = (A0R key l ++ List.replicate 24 [], ([], ())) by unfold newS; with_reducible rfl, show (newS key l).2.2.2.1 = true by unfold newS; with_reducible rfl, show (newS key l).2.2.2.2.1 = false by unfold newS; with_reducible rfl]
 unfold A0P A0e A2x
 rw [h1]
 simp only
 rw [List.length_append, s3, List.length_replicate]
 have a : (A0R key l ++ List.replicate 24 []).all A91 = true := List.all_eq_true.2 fun s hs => by
  have : s.length ≤ 700 := by
   rcases List.mem_append.1 hs with hs | hs
   ·exact s4 s hs
   ·rw [(List.mem_replicate.1 hs).2]; decide
  unfold A91
  exact decide_eq_true (by omega)
 rw [a]; rfl
theorem BK9 {x : xU} (h1 : eG x = true) (hu : upc x = 0) {e : DE} {rs : List DR} (hl : ldF x = (e, (rs, (true, ())))) : rY R x = some (x, (rs, (0, ()))) := by
 have ho : okL x = true := by unfold okL; rw [hl]
 have e1 : Bd0 x = x := by unfold Bd0; rw [h1, hu, ho]; rfl
 have e2 : Bc3 x = rs := by unfold Bc3; rw [h1, hu, ho, hl]; rfl
 have e3 : Bc9 x = 0 := by unfold Bc9; rw [h1, hu, ho]; rfl
 rw [Bh0, e1, e2, e3]
theorem A7F (k : List UInt8) (r : cB) (d : aN) : upc (k, (r, (d, (true, (false, ()))))) = 0 := rfl
theorem BR3 {key : List UInt8} {l : List Int} (h : jW key l = 0) : rY R (newS key l) = some (newS key l, ([], (0, ()))) :=
 BK9 (Ax7 h).1 (A7F ..) (BJ3 h)
end Go.Rf.S

end
