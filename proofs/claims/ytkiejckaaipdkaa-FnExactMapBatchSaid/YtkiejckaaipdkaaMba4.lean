import Derived.Test.YtkiejckaaipdkaaProg
import Derived.KernelRfl
import Derived.Test.YtkiejckaaipdkaaRfD
set_option linter.unusedVariables false
set_option linter.unusedSimpArgs false
open Go Go.Rf
set_option maxRecDepth 100000
namespace Go.Rf.S
abbrev t0 : Ty := (.pair (.int .i64) (.pair (.int .i64) .unit))
abbrev t1 : Ty := (.pair (.int .i64) (.pair (.int .i64) (.pair (.int .i64) .unit)))
abbrev t2 : Ty := (.pair (.pair (.sl t1) .unit) .unit)
abbrev t3 : Ty := (.pair (.sl (.pair (.sl t1) .unit)) .unit)
abbrev t4 : Ty := (.pair (.sl t0) (.pair (.sl (.int .i64)) (.pair (.int .i64) .unit)))
abbrev t5 : Ty := (.pair (.int .i64) (.pair (.sl (.int .i64)) .unit))
abbrev t6 : Ty := (.pair (.sl t0) (.pair (.sl t5) .unit))
abbrev t7 : Ty := (.pair (.sl t0) (.pair (.sl t5) (.pair (.int .i64) .unit)))
abbrev t8 : Ty := (.pair (.int .i64) (.pair .bool .unit))
abbrev t9 : Ty := (.pair (.sl t0) (.pair .bool .unit))
abbrev t10 : Ty := (.pair (.int .i64) (.pair (.sl t0) .unit))
abbrev t11 : Ty := (.pair (.int .i64) (.pair (.sl t1) .unit))
abbrev t12 : Ty := (.pair (.int .i64) (.pair (.sl (.pair (.sl t1) .unit)) .unit))
abbrev t13 : Ty := (.pair (.int .i64) (.pair (.sl t5) .unit))
abbrev d14 : Type := (Int × (Int × (Int × Unit)))
abbrev d15 : Type := ((Int × (Int × Unit)) × Unit)
abbrev d16 : Type := (List ((Int × (Int × Unit))) × Unit)
abbrev d17 : Type := ((List (d14) × Unit) × Unit)
abbrev d18 : Type := (List ((List (d14) × Unit)) × Unit)
abbrev d19 : Type := (List ((Int × (Int × Unit))) × (List (Int) × (Int × Unit)))
abbrev d20 : Type := (Int × (List (Int) × Unit))
abbrev d21 : Type := (List ((Int × (Int × Unit))) × (d20 × Unit))
abbrev d22 : Type := (List ((Int × (Int × Unit))) × (List (d20) × Unit))
abbrev d23 : Type := (List ((Int × (Int × Unit))) × (List (d20) × (Int × Unit)))
abbrev d24 : Type := (List ((Int × (Int × Unit))) × (Bool × Unit))
abbrev d25 : Type := (Int × (List ((Int × (Int × Unit))) × Unit))
abbrev d26 : Type := (Int × (List (d14) × Unit))
abbrev d27 : Type := (Int × (List ((List (d14) × Unit)) × Unit))
abbrev d28 : Type := (Int × (List (d20) × Unit))
noncomputable def cfgs : List (Nat × FCfg) := [
  (4, ⟨[.ro (.sl t0), .ro (.int .i64)], 1, (.pair (.int .i64) .unit), .sh, [0, 1, 4, 10], [(4, 1), (3, 0)]⟩),
  (34, ⟨[.ro (.sl t1), .ro (.int .i64)], 1, (.pair (.int .i64) .unit), .sh, [0, 1, 4, 10], [(4, 1), (3, 0)]⟩),
  (18, ⟨[.ro (.pair (.sl t1) .unit), .ro (.int .i64)], 1, (.pair (.int .i64) .unit), .sh, [0, 1, 2, 4, 10], [(4, 1), (3, 0)]⟩),
  (5, ⟨[.ro (.sl (.pair (.sl t1) .unit)), .ro (.int .i64)], 1, (.pair (.int .i64) .unit), .sh, [0, 1, 4, 5, 11, 15, 25], [(3, 0), (10, 1), (9, 0)]⟩),
  (22, ⟨[.ro t0], 1, (.pair t0 .unit), .sh, [0, 1, 2, 3], [(4, 1)]⟩),
  (7, ⟨[.ro (.sl t0)], 1, (.pair (.sl t0) .unit), (.pr (.own .sh) .sh), [0, 2, 3, 4, 11], [(1, 2), (6, 1)]⟩),
  (49, ⟨[.ro t1], 1, (.pair t1 .unit), .sh, [0, 1, 2, 3], [(5, 1)]⟩),
  (38, ⟨[.ro (.sl t1)], 1, (.pair (.sl t1) .unit), (.pr (.own .sh) .sh), [0, 2, 3, 4, 11], [(1, 2), (6, 1)]⟩),
  (23, ⟨[.ro (.pair (.sl t1) .unit)], 1, t2, (.pr (.pr (.own .sh) .sh) .sh), [0, 1, 2, 3], [(3, 1)]⟩),
  (8, ⟨[.ro (.sl (.pair (.sl t1) .unit))], 1, t3, (.pr (.own (.pr (.own .sh) .sh)) .sh), [0, 2, 3, 4, 11], [(1, 2), (6, 1)]⟩),
  (35, ⟨[.ro (.int .i64), .ro (.int .i64), .ro (.int .i64)], 1, (.pair .bool .unit), .sh, [0, 1, 2, 6], [(1, 8)]⟩),
  (19, ⟨[.ro (.sl t0)], 1, (.pair .bool .unit), .sh, [0, 2, 3, 6, 10, 46], [(2, 0), (8, 3), (7, 0)]⟩),
  (47, ⟨[.ro t1], 1, (.pair .bool .unit), .sh, [1000015, 0, 1, 2, 12, 14, 15, 21], [(2, 0), (9, 3), (6, 3), (8, 3)]⟩),
  (36, ⟨[.ro (.pair (.sl t1) .unit)], 1, (.pair .bool .unit), .sh, [0, 1, 2, 3, 8, 17], [(6, 4), (5, 0)]⟩),
  (20, ⟨[.ro (.sl (.pair (.sl t1) .unit))], 1, (.pair .bool .unit), .sh, [0, 2, 3, 6, 10, 14, 22], [(2, 0), (4, 0), (10, 0), (9, 0)]⟩),
  (56, ⟨[.ro (.sl t0), .ro (.int .i64)], 1, (.pair (.int .i64) .unit), .sh, [0, 1, 4, 5, 9, 18], [(6, 0), (5, 1)]⟩),
  (57, ⟨[.ro .bool], 1, (.pair (.int .i64) .unit), .sh, [0, 2, 3], [(3, 0), (2, 0)]⟩),
  (58, ⟨[.ro (.sl t0), .ro (.int .i64), .ro (.int .i64)], 1, (.pair (.sl t0) .unit), (.pr (.own .sh) .sh), [0, 1, 2, 6, 7, 8, 21, 39], [(7, 12)]⟩),
  (48, ⟨[.ro (.sl t0), .ro t1], 3, t4, (.pr .sh (.pr (.own .sh) .sh)), [0, 1, 3, 4, 5, 6, 7, 8, 9, 10, 16, 23, 24, 32, 35, 51, 60, 65, 79, 89, 108, 120, 125, 137], [(7, 6), (7, 7), (7, 8), (11, 5), (11, 6), (11, 7), (15, 2), (15, 3), (15, 4), (14, 2), (14, 3), (14, 4), (25, 2), (25, 3), (25, 4), (27, 2), (27, 3), (27, 4), (29, 7), (29, 8), (29, 9), (32, 13), (32, 14), (32, 15), (31, 2), (31, 3), (31, 4)]⟩),
  (37, ⟨[.ro (.sl t0), .ro (.pair (.sl t1) .unit)], 2, (.pair (.sl t0) (.pair t5 .unit)), (.pr .sh (.pr (.pr .sh (.pr (.own .sh) .sh)) .sh)), [0, 1, 3, 4, 5, 6, 7, 8, 9, 10, 11, 19, 34], [(11, 2), (11, 3), (8, 4), (8, 5)]⟩),
  (21, ⟨[.ro (.sl t0), .ro (.sl (.pair (.sl t1) .unit))], 2, t6, (.pr .sh (.pr (.own (.pr .sh (.pr (.own .sh) .sh))) .sh)), [0, 1, 4, 5, 6, 7, 8, 9, 14], [(5, 11), (7, 2), (8, 2), (8, 3)]⟩),
  (6, ⟨[.ro (.sl t0), .ro (.sl (.pair (.sl t1) .unit))], 3, t7, (.pr (.own .sh) (.pr (.own (.pr .sh (.pr (.own .sh) .sh))) .sh)), [0, 1, 4, 5, 6, 7, 8, 16, 26], [(2, 2), (2, 3), (2, 4), (4, 2), (4, 3), (4, 4), (6, 4), (6, 5), (6, 6)]⟩),
  (41, ⟨[.ro (.int .i64), .ro (.int .i64), .ro (.int .i64)], 1, (.pair .bool .unit), .sh, [0, 1, 2, 6], [(1, 8)]⟩),
  (39, ⟨[.ro (.int .i64)], 1, (.pair .bool .unit), .sh, [0, 2], [(1, 2)]⟩),
  (40, ⟨[.ro (.int .i64)], 1, (.pair .bool .unit), .sh, [0, 2], [(1, 2)]⟩),
  (24, ⟨[.ro (.sl t0)], 1, (.pair .bool .unit), .sh, [0, 2, 3, 4, 5, 6, 7, 8, 36], [(7, 3), (5, 0)]⟩),
  (51, ⟨[.ro (.pair (.sl t1) .unit), .ro (.ptr .fn)], 1, (.pair .bool .unit), .sh, [0, 1, 2, 3], [(1, 4)]⟩),
  (59, ⟨[.ro (.sl (.pair (.sl t1) .unit)), .ro .fn], 1, (.pair (.int .i64) .unit), .sh, [0, 1, 4, 5, 7, 8, 9, 16], [(7, 0), (5, 1)]⟩),
  (50, ⟨[.ro (.sl (.pair (.sl t1) .unit)), .ro .fn], 1, (.pair .bool .unit), .sh, [0, 1, 4], [(1, 4)]⟩),
  (42, ⟨[.ro (.sl (.pair (.sl t1) .unit)), .ro .fn], 1, (.pair .bool .unit), .sh, [0, 1, 3, 4], [(1, 4)]⟩),
  (61, ⟨[.ro t1, .ro (.ptr .fn)], 1, (.pair .bool .unit), .sh, [0, 1, 2, 3], [(1, 4)]⟩),
  (67, ⟨[.ro (.sl t1), .ro .fn], 1, (.pair (.int .i64) .unit), .sh, [0, 1, 4, 5, 7, 8, 9, 16], [(7, 0), (5, 1)]⟩),
  (60, ⟨[.ro (.sl t1), .ro .fn], 1, (.pair .bool .unit), .sh, [0, 1, 4], [(1, 4)]⟩),
  (52, ⟨[.ro (.sl t1), .ro .fn], 1, (.pair .bool .unit), .sh, [0, 1, 3, 4], [(1, 4)]⟩),
  (62, ⟨[.ro (.int .i64)], 1, (.pair .bool .unit), .sh, [0, 2], [(1, 6)]⟩),
  (53, ⟨[.ro t1], 1, (.pair .bool .unit), .sh, [0, 1, 2, 12, 13, 20], [(2, 0), (7, 3), (4, 3), (6, 3)]⟩),
  (43, ⟨[.ro (.pair (.sl t1) .unit)], 1, (.pair .bool .unit), .sh, [0, 1, 2], [(1, 9)]⟩),
  (25, ⟨[.ro (.sl (.pair (.sl t1) .unit))], 1, (.pair .bool .unit), .sh, [0, 2], [(1, 7)]⟩),
  (68, ⟨[.ro (.sl t0), .ro (.int .i64), .ro .fn], 2, t8, .sh, [0, 1, 2, 6, 7, 8, 9, 10, 11, 17, 31], [(8, 14), (8, 15)]⟩),
  (69, ⟨[.ro t0, .ro (.int .i64)], 1, (.pair (.int .i64) .unit), .sh, [0, 1, 2, 4], [(1, 4)]⟩),
  (63, ⟨[.ro (.sl t0), .ro (.int .i64)], 2, t8, .sh, [0, 1, 4, 5], [(1, 5), (1, 6)]⟩),
  (27, ⟨[.ro (.sl t0)], 1, (.pair (.sl t0) .unit), (.pr (.own .sh) .sh), [900000, 0, 2, 4], [(3, 3), (2, 0)]⟩),
  (64, ⟨[.mv (.sl t0) (.own .sh), .ro (.int .i64), .ro (.int .i64)], 1, (.pair (.sl t0) .unit), (.pr (.own .sh) .sh), [], []⟩),
  (65, ⟨[.ro (.sl t0), .ro (.int .i64), .ro (.int .i64)], 1, (.pair (.sl (.int .i64)) .unit), (.pr (.own .sh) .sh), [0, 1, 2, 6, 7, 9, 17, 23], [(9, 1)]⟩),
  (71, ⟨[.mv (.sl t0) (.own .sh), .ro (.int .i64), .ro (.sl t0)], 1, (.pair (.sl t0) .unit), (.pr (.own .sh) .sh), [], []⟩),
  (70, ⟨[.ro (.sl t0), .ro (.int .i64), .ro (.int .i64)], 2, t9, .sh, [0, 1, 2, 6, 7, 8, 9, 10, 26, 33], [(8, 1), (8, 2), (7, 1), (7, 2)]⟩),
  (66, ⟨[.ro (.sl t0), .ro t1, .ro (.int .i64)], 3, t4, (.pr .sh (.pr (.own .sh) .sh)), [0, 1, 2, 4, 6, 7, 8, 9, 10, 11, 12, 17, 31, 35], [(11, 2), (11, 3), (11, 4), (8, 1), (8, 2), (8, 3), (10, 1), (10, 2), (10, 3)]⟩),
  (54, ⟨[.ro (.sl t0), .ro t1], 3, t4, (.pr .sh (.pr (.own .sh) .sh)), [0, 1, 3, 4, 5, 6, 7, 8, 9, 17, 24, 25, 27, 33, 35, 45, 54, 57], [(20, 7), (20, 8), (20, 9), (9, 2), (9, 3), (9, 4), (8, 3), (8, 4), (8, 5), (13, 2), (13, 3), (13, 4), (12, 7), (12, 8), (12, 9), (17, 1), (17, 2), (17, 3), (16, 1), (16, 2), (16, 3), (19, 7), (19, 8), (19, 9)]⟩),
  (44, ⟨[.ro (.sl t0), .ro (.pair (.sl t1) .unit)], 2, (.pair (.sl t0) (.pair t5 .unit)), (.pr .sh (.pr (.pr .sh (.pr (.own .sh) .sh)) .sh)), [0, 1, 3, 4, 5, 6, 7, 9, 10, 11, 12, 15, 16, 17, 18, 29], [(12, 2), (12, 3), (8, 3), (8, 4)]⟩),
  (26, ⟨[.ro (.sl t0), .ro (.sl (.pair (.sl t1) .unit))], 2, t6, (.pr .sh (.pr (.own (.pr .sh (.pr (.own .sh) .sh))) .sh)), [0, 1, 4, 5, 6, 8, 9, 10, 11, 12, 13, 14], [(5, 8), (7, 2), (9, 2), (9, 3)]⟩),
  (9, ⟨[.ro (.sl t0), .ro (.sl (.pair (.sl t1) .unit))], 3, t7, (.pr (.own .sh) (.pr (.own (.pr .sh (.pr (.own .sh) .sh))) .sh)), [0, 1, 4, 5, 6, 7, 8, 9, 18], [(2, 0), (2, 1), (2, 2), (4, 0), (4, 1), (4, 2), (6, 3), (6, 4), (6, 5)]⟩),
  (28, ⟨[.ro t0, .ro t0], 1, (.pair .bool .unit), .sh, [0, 1, 2, 3, 4, 9, 14], [(2, 0), (5, 0), (4, 0)]⟩),
  (10, ⟨[.ro (.sl t0), .ro (.sl t0)], 1, (.pair .bool .unit), .sh, [0, 1, 4, 5, 10, 14, 26], [(2, 0), (8, 0), (7, 0)]⟩),
  (45, ⟨[.ro (.sl (.int .i64)), .ro (.sl (.int .i64))], 1, (.pair .bool .unit), .sh, [0, 1, 4, 5, 10, 14, 25], [(2, 0), (8, 0), (7, 0)]⟩),
  (29, ⟨[.ro t5, .ro t5], 1, (.pair .bool .unit), .sh, [0, 1, 2, 3, 4, 9, 15], [(2, 0), (5, 0), (4, 0)]⟩),
  (11, ⟨[.ro (.sl t5), .ro (.sl t5)], 1, (.pair .bool .unit), .sh, [0, 1, 4, 5, 10, 14, 26], [(2, 0), (8, 0), (7, 0)]⟩),
  (55, ⟨[.ro t1, .ro t1], 1, (.pair .bool .unit), .sh, [0, 1, 2, 3, 4, 9, 14, 19], [(2, 0), (4, 0), (7, 0), (6, 0)]⟩),
  (46, ⟨[.ro (.sl t1), .ro (.sl t1)], 1, (.pair .bool .unit), .sh, [0, 1, 4, 5, 10, 14, 26], [(2, 0), (8, 0), (7, 0)]⟩),
  (30, ⟨[.ro (.pair (.sl t1) .unit), .ro (.pair (.sl t1) .unit)], 1, (.pair .bool .unit), .sh, [0, 1, 2, 3, 4, 10], [(3, 0), (2, 0)]⟩),
  (12, ⟨[.ro (.sl (.pair (.sl t1) .unit)), .ro (.sl (.pair (.sl t1) .unit))], 1, (.pair .bool .unit), .sh, [0, 1, 4, 5, 10, 14, 26], [(2, 0), (8, 0), (7, 0)]⟩),
  (13, ⟨[.io (.sl t0) (.own .sh) (.own .sh) 0 [], .ro (.int .i64)], 1, t10, (.pr .sh (.pr (.own .sh) .sh)), [0, 1, 4, 5, 9], [(8, 1)]⟩),
  (31, ⟨[.io (.sl t1) (.own .sh) (.own .sh) 0 [], .ro (.int .i64)], 1, t11, (.pr .sh (.pr (.own .sh) .sh)), [0, 1, 4, 5, 9], [(10, 1)]⟩),
  (14, ⟨[.io (.sl (.pair (.sl t1) .unit)) (.own (.pr (.own .sh) .sh)) (.own (.pr (.own .sh) .sh)) 0 [], .ro (.int .i64)], 1, t12, (.pr .sh (.pr (.own (.pr (.own .sh) .sh)) .sh)), [0, 1, 4, 5, 9], [(5, 1)]⟩),
  (32, ⟨[.io (.sl (.int .i64)) (.own .sh) (.own .sh) 0 [], .ro (.int .i64)], 1, t5, (.pr .sh (.pr (.own .sh) .sh)), [0, 1, 4, 5, 9], [(6, 1)]⟩),
  (15, ⟨[.io (.sl t5) (.own (.pr .sh (.pr (.own .sh) .sh))) (.own (.pr .sh (.pr (.own .sh) .sh))) 0 [], .ro (.int .i64)], 1, t13, (.pr .sh (.pr (.own (.pr .sh (.pr (.own .sh) .sh))) .sh)), [0, 1, 4, 5, 9], [(7, 1)]⟩),
  (16, ⟨[.ro (.sl t0), .ro (.int .i64)], 1, (.pair (.int .i64) .unit), .sh, [0, 1, 4, 5, 9, 18, 27], [(10, 1), (5, 0), (8, 0)]⟩),
  (33, ⟨[.ro (.sl (.int .i64)), .ro (.int .i64)], 1, (.pair (.int .i64) .unit), .sh, [0, 1, 4, 5, 9, 17], [(7, 1), (5, 0)]⟩),
  (17, ⟨[.ro (.sl t5), .ro (.int .i64)], 1, (.pair (.int .i64) .unit), .sh, [0, 1, 4, 5, 9, 18, 29], [(10, 1), (5, 0), (9, 0)]⟩),
  (3, ⟨[.ro (.sl t0), .ro (.sl (.pair (.sl t1) .unit))], 1, (.pair .bool .unit), .sh, [0, 1, 4, 5, 6, 7, 8, 9, 10, 11, 12, 13, 14, 15, 16, 17, 18, 19, 24, 29, 64, 69, 74, 99, 110, 115, 118, 142, 147, 152, 155], [(4, 0), (7, 0), (13, 0), (15, 0), (17, 0), (22, 0), (29, 0), (32, 0), (34, 0), (37, 0), (41, 0), (44, 0), (47, 0), (46, 0)]⟩)]
noncomputable def EE : Env := ⟨Go.Proofs.Try.prog, lookC cfgs⟩
/-- loop.example/g00548/laws.szEntryS -/
noncomputable def c_laws_szEntryS (R : Run EE) (x0 : List ((Int × (Int × Unit)))) (x1 : Int) : Option ((Int × Unit)) := R 4 [⟨(.sl t0), x0⟩, ⟨(.int .i64), x1⟩]
/-- loop.example/g00548/laws.szOpS -/
noncomputable def c_laws_szOpS (R : Run EE) (x0 : List (d14)) (x1 : Int) : Option ((Int × Unit)) := R 34 [⟨(.sl t1), x0⟩, ⟨(.int .i64), x1⟩]
/-- loop.example/g00548/laws.szTxn -/
noncomputable def c_laws_szTxn (R : Run EE) (x0 : (List (d14) × Unit)) (x1 : Int) : Option ((Int × Unit)) := R 18 [⟨(.pair (.sl t1) .unit), x0⟩, ⟨(.int .i64), x1⟩]
/-- loop.example/g00548/laws.szTxnS -/
noncomputable def c_laws_szTxnS (R : Run EE) (x0 : List ((List (d14) × Unit))) (x1 : Int) : Option ((Int × Unit)) := R 5 [⟨(.sl (.pair (.sl t1) .unit)), x0⟩, ⟨(.int .i64), x1⟩]
/-- loop.example/g00548/laws.toEntry -/
noncomputable def c_laws_toEntry (R : Run EE) (x0 : (Int × (Int × Unit))) : Option (d15) := R 22 [⟨t0, x0⟩]
/-- loop.example/g00548/laws.toEntryS -/
noncomputable def c_laws_toEntryS (R : Run EE) (x0 : List ((Int × (Int × Unit)))) : Option (d16) := R 7 [⟨(.sl t0), x0⟩]
/-- loop.example/g00548/laws.toOp -/
noncomputable def c_laws_toOp (R : Run EE) (x0 : d14) : Option ((d14 × Unit)) := R 49 [⟨t1, x0⟩]
/-- loop.example/g00548/laws.toOpS -/
noncomputable def c_laws_toOpS (R : Run EE) (x0 : List (d14)) : Option ((List (d14) × Unit)) := R 38 [⟨(.sl t1), x0⟩]
/-- loop.example/g00548/laws.toTxn -/
noncomputable def c_laws_toTxn (R : Run EE) (x0 : (List (d14) × Unit)) : Option (d17) := R 23 [⟨(.pair (.sl t1) .unit), x0⟩]
/-- loop.example/g00548/laws.toTxnS -/
noncomputable def c_laws_toTxnS (R : Run EE) (x0 : List ((List (d14) × Unit))) : Option (d18) := R 8 [⟨(.sl (.pair (.sl t1) .unit)), x0⟩]
/-- loop.example/g00548/spec.l01In -/
noncomputable def c_spec_l01In (R : Run EE) (x0 : Int) (x1 : Int) (x2 : Int) : Option ((Bool × Unit)) := R 35 [⟨(.int .i64), x0⟩, ⟨(.int .i64), x1⟩, ⟨(.int .i64), x2⟩]
/-- loop.example/g00548/spec.MapOK -/
noncomputable def c_spec_MapOK (R : Run EE) (x0 : List ((Int × (Int × Unit)))) : Option ((Bool × Unit)) := R 19 [⟨(.sl t0), x0⟩]
/-- loop.example/g00548/spec.OpOK -/
noncomputable def c_spec_OpOK (R : Run EE) (x0 : d14) : Option ((Bool × Unit)) := R 47 [⟨t1, x0⟩]
/-- loop.example/g00548/spec.l09Txn -/
noncomputable def c_spec_l09Txn (R : Run EE) (x0 : (List (d14) × Unit)) : Option ((Bool × Unit)) := R 36 [⟨(.pair (.sl t1) .unit), x0⟩]
/-- loop.example/g00548/spec.BatchOK -/
noncomputable def c_spec_BatchOK (R : Run EE) (x0 : List ((List (d14) × Unit))) : Option ((Bool × Unit)) := R 20 [⟨(.sl (.pair (.sl t1) .unit)), x0⟩]
/-- loop.example/g00548/spec.l10Find -/
noncomputable def c_spec_l10Find (R : Run EE) (x0 : List ((Int × (Int × Unit)))) (x1 : Int) : Option ((Int × Unit)) := R 56 [⟨(.sl t0), x0⟩, ⟨(.int .i64), x1⟩]
/-- loop.example/g00548/spec.l01Bit -/
noncomputable def c_spec_l01Bit (R : Run EE) (x0 : Bool) : Option ((Int × Unit)) := R 57 [⟨.bool, x0⟩]
/-- loop.example/g00548/spec.l10Put -/
noncomputable def c_spec_l10Put (R : Run EE) (x0 : List ((Int × (Int × Unit)))) (x1 : Int) (x2 : Int) : Option (d16) := R 58 [⟨(.sl t0), x0⟩, ⟨(.int .i64), x1⟩, ⟨(.int .i64), x2⟩]
/-- loop.example/g00548/spec.l10Do -/
noncomputable def c_spec_l10Do (R : Run EE) (x0 : List ((Int × (Int × Unit)))) (x1 : d14) : Option (d19) := R 48 [⟨(.sl t0), x0⟩, ⟨t1, x1⟩]
/-- loop.example/g00548/spec.l10Txn -/
noncomputable def c_spec_l10Txn (R : Run EE) (x0 : List ((Int × (Int × Unit)))) (x1 : (List (d14) × Unit)) : Option (d21) := R 37 [⟨(.sl t0), x0⟩, ⟨(.pair (.sl t1) .unit), x1⟩]
/-- loop.example/g00548/spec.l10Batch -/
noncomputable def c_spec_l10Batch (R : Run EE) (x0 : List ((Int × (Int × Unit)))) (x1 : List ((List (d14) × Unit))) : Option (d22) := R 21 [⟨(.sl t0), x0⟩, ⟨(.sl (.pair (.sl t1) .unit)), x1⟩]
/-- loop.example/g00548/spec.MapBatch -/
noncomputable def c_spec_MapBatch (R : Run EE) (x0 : List ((Int × (Int × Unit)))) (x1 : List ((List (d14) × Unit))) : Option (d23) := R 6 [⟨(.sl t0), x0⟩, ⟨(.sl (.pair (.sl t1) .unit)), x1⟩]
/-- loop.example/g00548/impl.within -/
noncomputable def c_impl_within (R : Run EE) (x0 : Int) (x1 : Int) (x2 : Int) : Option ((Bool × Unit)) := R 41 [⟨(.int .i64), x0⟩, ⟨(.int .i64), x1⟩, ⟨(.int .i64), x2⟩]
/-- loop.example/g00548/impl.isKey -/
noncomputable def c_impl_isKey (R : Run EE) (x0 : Int) : Option ((Bool × Unit)) := R 39 [⟨(.int .i64), x0⟩]
/-- loop.example/g00548/impl.isValue -/
noncomputable def c_impl_isValue (R : Run EE) (x0 : Int) : Option ((Bool × Unit)) := R 40 [⟨(.int .i64), x0⟩]
/-- loop.example/g00548/impl.MapOK -/
noncomputable def c_impl_MapOK (R : Run EE) (x0 : List ((Int × (Int × Unit)))) : Option ((Bool × Unit)) := R 24 [⟨(.sl t0), x0⟩]
/-- loop.example/g00548/impl.areAll[loop.example/g00548/impl.Txn]$1 -/
noncomputable def c_impl_areAll_impl_Txn__1 (R : Run EE) (x0 : (List (d14) × Unit)) (x1 : FnVal) : Option ((Bool × Unit)) := R 51 [⟨(.pair (.sl t1) .unit), x0⟩, ⟨(.ptr .fn), x1⟩]
/-- slices.IndexFunc[[]loop.example/g00548/impl.Txn,loop.example/g00548/impl.Txn] -/
noncomputable def c_slices_IndexFunc___impl_Txn_impl_Txn_ (R : Run EE) (x0 : List ((List (d14) × Unit))) (x1 : FnVal) : Option ((Int × Unit)) := R 59 [⟨(.sl (.pair (.sl t1) .unit)), x0⟩, ⟨.fn, x1⟩]
/-- slices.ContainsFunc[[]loop.example/g00548/impl.Txn,loop.example/g00548/impl.Txn] -/
noncomputable def c_slices_ContainsFunc___impl_Txn_impl_Txn_ (R : Run EE) (x0 : List ((List (d14) × Unit))) (x1 : FnVal) : Option ((Bool × Unit)) := R 50 [⟨(.sl (.pair (.sl t1) .unit)), x0⟩, ⟨.fn, x1⟩]
/-- loop.example/g00548/impl.areAll[loop.example/g00548/impl.Txn] -/
noncomputable def c_impl_areAll_impl_Txn_ (R : Run EE) (x0 : List ((List (d14) × Unit))) (x1 : FnVal) : Option ((Bool × Unit)) := R 42 [⟨(.sl (.pair (.sl t1) .unit)), x0⟩, ⟨.fn, x1⟩]
/-- loop.example/g00548/impl.areAll[loop.example/g00548/impl.Op]$1 -/
noncomputable def c_impl_areAll_impl_Op__1 (R : Run EE) (x0 : d14) (x1 : FnVal) : Option ((Bool × Unit)) := R 61 [⟨t1, x0⟩, ⟨(.ptr .fn), x1⟩]
/-- slices.IndexFunc[[]loop.example/g00548/impl.Op,loop.example/g00548/impl.Op] -/
noncomputable def c_slices_IndexFunc___impl_Op_impl_Op_ (R : Run EE) (x0 : List (d14)) (x1 : FnVal) : Option ((Int × Unit)) := R 67 [⟨(.sl t1), x0⟩, ⟨.fn, x1⟩]
/-- slices.ContainsFunc[[]loop.example/g00548/impl.Op,loop.example/g00548/impl.Op] -/
noncomputable def c_slices_ContainsFunc___impl_Op_impl_Op_ (R : Run EE) (x0 : List (d14)) (x1 : FnVal) : Option ((Bool × Unit)) := R 60 [⟨(.sl t1), x0⟩, ⟨.fn, x1⟩]
/-- loop.example/g00548/impl.areAll[loop.example/g00548/impl.Op] -/
noncomputable def c_impl_areAll_impl_Op_ (R : Run EE) (x0 : List (d14)) (x1 : FnVal) : Option ((Bool × Unit)) := R 52 [⟨(.sl t1), x0⟩, ⟨.fn, x1⟩]
/-- loop.example/g00548/impl.isBare -/
noncomputable def c_impl_isBare (R : Run EE) (x0 : Int) : Option ((Bool × Unit)) := R 62 [⟨(.int .i64), x0⟩]
/-- loop.example/g00548/impl.OpOK -/
noncomputable def c_impl_OpOK (R : Run EE) (x0 : d14) : Option ((Bool × Unit)) := R 53 [⟨t1, x0⟩]
/-- loop.example/g00548/impl.isTxn -/
noncomputable def c_impl_isTxn (R : Run EE) (x0 : (List (d14) × Unit)) : Option ((Bool × Unit)) := R 43 [⟨(.pair (.sl t1) .unit), x0⟩]
/-- loop.example/g00548/impl.BatchOK -/
noncomputable def c_impl_BatchOK (R : Run EE) (x0 : List ((List (d14) × Unit))) : Option ((Bool × Unit)) := R 25 [⟨(.sl (.pair (.sl t1) .unit)), x0⟩]
/-- slices.BinarySearchFunc[[]loop.example/g00548/impl.Entry,loop.example/g00548/impl.Entry,int] -/
noncomputable def c_slices_BinarySearchFunc___impl_Entry_impl_Entry_int_ (R : Run EE) (x0 : List ((Int × (Int × Unit)))) (x1 : Int) (x2 : FnVal) : Option ((Int × (Bool × Unit))) := R 68 [⟨(.sl t0), x0⟩, ⟨(.int .i64), x1⟩, ⟨.fn, x2⟩]
/-- loop.example/g00548/impl.find$1 -/
noncomputable def c_impl_find_1 (R : Run EE) (x0 : (Int × (Int × Unit))) (x1 : Int) : Option ((Int × Unit)) := R 69 [⟨t0, x0⟩, ⟨(.int .i64), x1⟩]
/-- loop.example/g00548/impl.find -/
noncomputable def c_impl_find (R : Run EE) (x0 : List ((Int × (Int × Unit)))) (x1 : Int) : Option ((Int × (Bool × Unit))) := R 63 [⟨(.sl t0), x0⟩, ⟨(.int .i64), x1⟩]
/-- slices.Clone[[]loop.example/g00548/impl.Entry,loop.example/g00548/impl.Entry] -/
noncomputable def c_slices_Clone___impl_Entry_impl_Entry_ (R : Run EE) (x0 : List ((Int × (Int × Unit)))) : Option (d16) := R 27 [⟨(.sl t0), x0⟩]
/-- slices.Delete[[]loop.example/g00548/impl.Entry,loop.example/g00548/impl.Entry] -/
noncomputable def c_slices_Delete___impl_Entry_impl_Entry_ (R : Run EE) (x0 : List ((Int × (Int × Unit)))) (x1 : Int) (x2 : Int) : Option (d16) := R 64 [⟨(.sl t0), x0⟩, ⟨(.int .i64), x1⟩, ⟨(.int .i64), x2⟩]
/-- loop.example/g00548/impl.scan -/
noncomputable def c_impl_scan (R : Run EE) (x0 : List ((Int × (Int × Unit)))) (x1 : Int) (x2 : Int) : Option ((List (Int) × Unit)) := R 65 [⟨(.sl t0), x0⟩, ⟨(.int .i64), x1⟩, ⟨(.int .i64), x2⟩]
/-- slices.Insert[[]loop.example/g00548/impl.Entry,loop.example/g00548/impl.Entry] -/
noncomputable def c_slices_Insert___impl_Entry_impl_Entry_ (R : Run EE) (x0 : List ((Int × (Int × Unit)))) (x1 : Int) (x2 : List ((Int × (Int × Unit)))) : Option (d16) := R 71 [⟨(.sl t0), x0⟩, ⟨(.int .i64), x1⟩, ⟨(.sl t0), x2⟩]
/-- loop.example/g00548/impl.put -/
noncomputable def c_impl_put (R : Run EE) (x0 : List ((Int × (Int × Unit)))) (x1 : Int) (x2 : Int) : Option (d24) := R 70 [⟨(.sl t0), x0⟩, ⟨(.int .i64), x1⟩, ⟨(.int .i64), x2⟩]
/-- loop.example/g00548/impl.do2 -/
noncomputable def c_impl_do2 (R : Run EE) (x0 : List ((Int × (Int × Unit)))) (x1 : d14) (x2 : Int) : Option (d19) := R 66 [⟨(.sl t0), x0⟩, ⟨t1, x1⟩, ⟨(.int .i64), x2⟩]
/-- loop.example/g00548/impl.do -/
noncomputable def c_impl_do (R : Run EE) (x0 : List ((Int × (Int × Unit)))) (x1 : d14) : Option (d19) := R 54 [⟨(.sl t0), x0⟩, ⟨t1, x1⟩]
/-- loop.example/g00548/impl.doTxn -/
noncomputable def c_impl_doTxn (R : Run EE) (x0 : List ((Int × (Int × Unit)))) (x1 : (List (d14) × Unit)) : Option (d21) := R 44 [⟨(.sl t0), x0⟩, ⟨(.pair (.sl t1) .unit), x1⟩]
/-- loop.example/g00548/impl.doBatch -/
noncomputable def c_impl_doBatch (R : Run EE) (x0 : List ((Int × (Int × Unit)))) (x1 : List ((List (d14) × Unit))) : Option (d22) := R 26 [⟨(.sl t0), x0⟩, ⟨(.sl (.pair (.sl t1) .unit)), x1⟩]
/-- loop.example/g00548/impl.MapBatch -/
noncomputable def c_impl_MapBatch (R : Run EE) (x0 : List ((Int × (Int × Unit)))) (x1 : List ((List (d14) × Unit))) : Option (d23) := R 9 [⟨(.sl t0), x0⟩, ⟨(.sl (.pair (.sl t1) .unit)), x1⟩]
/-- loop.example/g00548/laws.eqEntry -/
noncomputable def c_laws_eqEntry (R : Run EE) (x0 : (Int × (Int × Unit))) (x1 : (Int × (Int × Unit))) : Option ((Bool × Unit)) := R 28 [⟨t0, x0⟩, ⟨t0, x1⟩]
/-- loop.example/g00548/laws.eqEntryS -/
noncomputable def c_laws_eqEntryS (R : Run EE) (x0 : List ((Int × (Int × Unit)))) (x1 : List ((Int × (Int × Unit)))) : Option ((Bool × Unit)) := R 10 [⟨(.sl t0), x0⟩, ⟨(.sl t0), x1⟩]
/-- loop.example/g00548/laws.eqIntS -/
noncomputable def c_laws_eqIntS (R : Run EE) (x0 : List (Int)) (x1 : List (Int)) : Option ((Bool × Unit)) := R 45 [⟨(.sl (.int .i64)), x0⟩, ⟨(.sl (.int .i64)), x1⟩]
/-- loop.example/g00548/laws.eqResult -/
noncomputable def c_laws_eqResult (R : Run EE) (x0 : d20) (x1 : d20) : Option ((Bool × Unit)) := R 29 [⟨t5, x0⟩, ⟨t5, x1⟩]
/-- loop.example/g00548/laws.eqResultS -/
noncomputable def c_laws_eqResultS (R : Run EE) (x0 : List (d20)) (x1 : List (d20)) : Option ((Bool × Unit)) := R 11 [⟨(.sl t5), x0⟩, ⟨(.sl t5), x1⟩]
/-- loop.example/g00548/laws.eqOp -/
noncomputable def c_laws_eqOp (R : Run EE) (x0 : d14) (x1 : d14) : Option ((Bool × Unit)) := R 55 [⟨t1, x0⟩, ⟨t1, x1⟩]
/-- loop.example/g00548/laws.eqOpS -/
noncomputable def c_laws_eqOpS (R : Run EE) (x0 : List (d14)) (x1 : List (d14)) : Option ((Bool × Unit)) := R 46 [⟨(.sl t1), x0⟩, ⟨(.sl t1), x1⟩]
/-- loop.example/g00548/laws.eqTxn -/
noncomputable def c_laws_eqTxn (R : Run EE) (x0 : (List (d14) × Unit)) (x1 : (List (d14) × Unit)) : Option ((Bool × Unit)) := R 30 [⟨(.pair (.sl t1) .unit), x0⟩, ⟨(.pair (.sl t1) .unit), x1⟩]
/-- loop.example/g00548/laws.eqTxnS -/
noncomputable def c_laws_eqTxnS (R : Run EE) (x0 : List ((List (d14) × Unit))) (x1 : List ((List (d14) × Unit))) : Option ((Bool × Unit)) := R 12 [⟨(.sl (.pair (.sl t1) .unit)), x0⟩, ⟨(.sl (.pair (.sl t1) .unit)), x1⟩]
/-- loop.example/g00548/laws.markEntryS -/
noncomputable def c_laws_markEntryS (R : Run EE) (x0 : List ((Int × (Int × Unit)))) (x1 : Int) : Option (d25) := R 13 [⟨(.sl t0), x0⟩, ⟨(.int .i64), x1⟩]
/-- loop.example/g00548/laws.markOpS -/
noncomputable def c_laws_markOpS (R : Run EE) (x0 : List (d14)) (x1 : Int) : Option (d26) := R 31 [⟨(.sl t1), x0⟩, ⟨(.int .i64), x1⟩]
/-- loop.example/g00548/laws.markTxnS -/
noncomputable def c_laws_markTxnS (R : Run EE) (x0 : List ((List (d14) × Unit))) (x1 : Int) : Option (d27) := R 14 [⟨(.sl (.pair (.sl t1) .unit)), x0⟩, ⟨(.int .i64), x1⟩]
/-- loop.example/g00548/laws.markIntS -/
noncomputable def c_laws_markIntS (R : Run EE) (x0 : List (Int)) (x1 : Int) : Option (d20) := R 32 [⟨(.sl (.int .i64)), x0⟩, ⟨(.int .i64), x1⟩]
/-- loop.example/g00548/laws.markResultS -/
noncomputable def c_laws_markResultS (R : Run EE) (x0 : List (d20)) (x1 : Int) : Option (d28) := R 15 [⟨(.sl t5), x0⟩, ⟨(.int .i64), x1⟩]
/-- loop.example/g00548/laws.heldEntryS -/
noncomputable def c_laws_heldEntryS (R : Run EE) (x0 : List ((Int × (Int × Unit)))) (x1 : Int) : Option ((Int × Unit)) := R 16 [⟨(.sl t0), x0⟩, ⟨(.int .i64), x1⟩]
/-- loop.example/g00548/laws.heldIntS -/
noncomputable def c_laws_heldIntS (R : Run EE) (x0 : List (Int)) (x1 : Int) : Option ((Int × Unit)) := R 33 [⟨(.sl (.int .i64)), x0⟩, ⟨(.int .i64), x1⟩]
/-- loop.example/g00548/laws.heldResultS -/
noncomputable def c_laws_heldResultS (R : Run EE) (x0 : List (d20)) (x1 : Int) : Option ((Int × Unit)) := R 17 [⟨(.sl t5), x0⟩, ⟨(.int .i64), x1⟩]
/-- loop.example/g00548/laws.FnExactMapBatch -/
noncomputable def c_laws_FnExactMapBatch (R : Run EE) (x0 : List ((Int × (Int × Unit)))) (x1 : List ((List (d14) × Unit))) : Option ((Bool × Unit)) := R 3 [⟨(.sl t0), x0⟩, ⟨(.sl (.pair (.sl t1) .unit)), x1⟩]

noncomputable def lp_laws_szTxnS_0 (R : Run EE) (L : Loops) (v0 : List ((List (d14) × Unit))) (v1 : Int) (v4 : Int) (v5 : Int) : Option ((Int × Unit)) := from_ EE R L 5 Go.Proofs.Try.f5 [1, 1, 1, 0, 1, 0] (mk 27 [(0, .dat ⟨(.sl (.pair (.sl t1) .unit)), v0, .sh⟩), (1, .dat ⟨(.int .i64), v1, .sh⟩), (4, .dat ⟨(.int .i64), v4, .sh⟩), (5, .dat ⟨(.int .i64), v5, .sh⟩)])
noncomputable def lp_laws_toEntryS_0 (R : Run EE) (L : Loops) (v0 : List ((Int × (Int × Unit)))) (v2 : List ((Int × (Int × Unit)))) (v3 : List ((Int × (Int × Unit)))) (v4 : Int) : Option (d16) := from_ EE R L 7 Go.Proofs.Try.f7 [1, 1, 0, 1, 0] (mk 23 [(0, .dat ⟨(.sl t0), v0, .sh⟩), (2, .dat ⟨(.sl t0), v2, (.own .sh)⟩), (3, .dat ⟨(.sl t0), v3, (.own .sh)⟩), (4, .dat ⟨(.int .i64), v4, .sh⟩)])
noncomputable def lp_laws_toOpS_0 (R : Run EE) (L : Loops) (v0 : List (d14)) (v2 : List (d14)) (v3 : List (d14)) (v4 : Int) : Option ((List (d14) × Unit)) := from_ EE R L 38 Go.Proofs.Try.f38 [1, 1, 0, 1, 0] (mk 23 [(0, .dat ⟨(.sl t1), v0, .sh⟩), (2, .dat ⟨(.sl t1), v2, (.own .sh)⟩), (3, .dat ⟨(.sl t1), v3, (.own .sh)⟩), (4, .dat ⟨(.int .i64), v4, .sh⟩)])
noncomputable def lp_laws_toTxnS_0 (R : Run EE) (L : Loops) (v0 : List ((List (d14) × Unit))) (v2 : List ((List (d14) × Unit))) (v3 : List ((List (d14) × Unit))) (v4 : Int) : Option (d18) := from_ EE R L 8 Go.Proofs.Try.f8 [1, 1, 0, 1, 0] (mk 23 [(0, .dat ⟨(.sl (.pair (.sl t1) .unit)), v0, .sh⟩), (2, .dat ⟨(.sl (.pair (.sl t1) .unit)), v2, (.own (.pr (.own .sh) .sh))⟩), (3, .dat ⟨(.sl (.pair (.sl t1) .unit)), v3, (.own (.pr (.own .sh) .sh))⟩), (4, .dat ⟨(.int .i64), v4, .sh⟩)])
noncomputable def lp_spec_MapOK_0 (R : Run EE) (L : Loops) (v0 : List ((Int × (Int × Unit)))) (v2 : Bool) (v3 : Int) : Option ((Bool × Unit)) := from_ EE R L 19 Go.Proofs.Try.f19 [1, 1, 0, 1, 0] (mk 50 [(0, .dat ⟨(.sl t0), v0, .sh⟩), (2, .dat ⟨.bool, v2, .sh⟩), (3, .dat ⟨(.int .i64), v3, .sh⟩)])
noncomputable def lp_spec_l09Txn_0 (R : Run EE) (L : Loops) (v0 : (List (d14) × Unit)) (v1 : (List (d14) × Unit)) (v2 : Bool) (v3 : Int) : Option ((Bool × Unit)) := from_ EE R L 36 Go.Proofs.Try.f36 [1, 0, 1, 0] (mk 22 [(0, .dat ⟨(.pair (.sl t1) .unit), v0, .sh⟩), (1, .dat ⟨(.ptr (.pair (.sl t1) .unit)), v1, (.own .sh)⟩), (2, .dat ⟨.bool, v2, .sh⟩), (3, .dat ⟨(.int .i64), v3, .sh⟩)])
noncomputable def lp_spec_BatchOK_0 (R : Run EE) (L : Loops) (v0 : List ((List (d14) × Unit))) (v2 : Bool) (v3 : Int) : Option ((Bool × Unit)) := from_ EE R L 20 Go.Proofs.Try.f20 [1, 1, 1, 0, 1, 0] (mk 23 [(0, .dat ⟨(.sl (.pair (.sl t1) .unit)), v0, .sh⟩), (2, .dat ⟨.bool, v2, .sh⟩), (3, .dat ⟨(.int .i64), v3, .sh⟩)])
noncomputable def lp_spec_l10Find_0 (R : Run EE) (L : Loops) (v0 : List ((Int × (Int × Unit)))) (v1 : Int) (v4 : Int) (v5 : Int) : Option ((Int × Unit)) := from_ EE R L 56 Go.Proofs.Try.f56 [1, 0, 1, 0] (mk 20 [(0, .dat ⟨(.sl t0), v0, .sh⟩), (1, .dat ⟨(.int .i64), v1, .sh⟩), (4, .dat ⟨(.int .i64), v4, .sh⟩), (5, .dat ⟨(.int .i64), v5, .sh⟩)])
noncomputable def lp_spec_l10Put_0 (R : Run EE) (L : Loops) (v0 : List ((Int × (Int × Unit)))) (v1 : Int) (v2 : Int) (v6 : List ((Int × (Int × Unit)))) (v7 : Int) : Option (d16) := from_ EE R L 58 Go.Proofs.Try.f58 [1, 1, 0, 0] (mk 56 [(0, .dat ⟨(.sl t0), v0, .sh⟩), (1, .dat ⟨(.int .i64), v1, .sh⟩), (2, .dat ⟨(.int .i64), v2, .sh⟩), (6, .dat ⟨(.sl t0), v6, (.own .sh)⟩), (7, .dat ⟨(.int .i64), v7, .sh⟩)])
noncomputable def lp_spec_l10Do_0 (R : Run EE) (L : Loops) (v0 : List ((Int × (Int × Unit)))) (v1 : d14) (v3 : d14) (v4 : List ((Int × (Int × Unit)))) (v5 : List (Int)) (v6 : Int) (v7 : Int) (v8 : Int) (v9 : List (Int)) (v10 : Int) (v23 : Int) : Option (d19) := from_ EE R L 48 Go.Proofs.Try.f48 [1, 1, 1, 1, 0, 1, 0, 1, 1, 1, 1, 1, 1, 1, 0, 1, 0, 1, 0] (mk 153 [(0, .dat ⟨(.sl t0), v0, .sh⟩), (1, .dat ⟨t1, v1, .sh⟩), (3, .dat ⟨(.ptr t1), v3, (.own .sh)⟩), (4, .dat ⟨(.sl t0), v4, (.own .sh)⟩), (5, .dat ⟨(.sl (.int .i64)), v5, (.own .sh)⟩), (6, .dat ⟨(.int .i64), v6, .sh⟩), (7, .dat ⟨(.int .i64), v7, .sh⟩), (8, .dat ⟨(.int .i64), v8, .sh⟩), (9, .dat ⟨(.sl (.int .i64)), v9, (.own .sh)⟩), (10, .dat ⟨(.int .i64), v10, .sh⟩), (23, .dat ⟨(.int .i64), v23, .sh⟩)])
noncomputable def lp_spec_l10Do_1 (R : Run EE) (L : Loops) (v0 : List ((Int × (Int × Unit)))) (v1 : d14) (v3 : d14) (v4 : List ((Int × (Int × Unit)))) (v5 : List (Int)) (v6 : Int) (v7 : Int) (v8 : Int) (v9 : List (Int)) (v10 : Int) (v23 : Int) : Option (d19) := from_ EE R L 48 Go.Proofs.Try.f48 [1, 1, 1, 1, 0, 1, 0, 1, 1, 1, 1, 1, 1, 1, 0, 1, 1, 0, 0] (mk 153 [(0, .dat ⟨(.sl t0), v0, .sh⟩), (1, .dat ⟨t1, v1, .sh⟩), (3, .dat ⟨(.ptr t1), v3, (.own .sh)⟩), (4, .dat ⟨(.sl t0), v4, (.own .sh)⟩), (5, .dat ⟨(.sl (.int .i64)), v5, (.own .sh)⟩), (6, .dat ⟨(.int .i64), v6, .sh⟩), (7, .dat ⟨(.int .i64), v7, .sh⟩), (8, .dat ⟨(.int .i64), v8, .sh⟩), (9, .dat ⟨(.sl (.int .i64)), v9, (.own .sh)⟩), (10, .dat ⟨(.int .i64), v10, .sh⟩), (23, .dat ⟨(.int .i64), v23, .sh⟩)])
noncomputable def lp_spec_l10Txn_0 (R : Run EE) (L : Loops) (v0 : List ((Int × (Int × Unit)))) (v1 : (List (d14) × Unit)) (v3 : (List (d14) × Unit)) (v4 : List ((Int × (Int × Unit)))) (v5 : d20) (v6 : List ((Int × (Int × Unit)))) (v7 : d20) (v8 : Int) : Option (d21) := from_ EE R L 37 Go.Proofs.Try.f37 [1, 1, 1, 0, 1, 0] (mk 47 [(0, .dat ⟨(.sl t0), v0, .sh⟩), (1, .dat ⟨(.pair (.sl t1) .unit), v1, .sh⟩), (3, .dat ⟨(.ptr (.pair (.sl t1) .unit)), v3, (.own .sh)⟩), (4, .dat ⟨(.sl t0), v4, (.own .sh)⟩), (5, .dat ⟨(.ptr t5), v5, (.own (.pr .sh (.pr (.own .sh) .sh)))⟩), (6, .dat ⟨(.sl t0), v6, .sh⟩), (7, .dat ⟨(.ptr t5), v7, (.own (.pr .sh (.pr (.own .sh) .sh)))⟩), (8, .dat ⟨(.int .i64), v8, .sh⟩)])
noncomputable def lp_spec_l10Txn_1 (R : Run EE) (L : Loops) (v0 : List ((Int × (Int × Unit)))) (v1 : (List (d14) × Unit)) (v3 : (List (d14) × Unit)) (v4 : List ((Int × (Int × Unit)))) (v5 : d20) (v6 : List ((Int × (Int × Unit)))) (v7 : d20) (v8 : Int) (v9 : List ((Int × (Int × Unit)))) (v10 : List (Int)) (v11 : Int) : Option (d21) := from_ EE R L 37 Go.Proofs.Try.f37 [1, 1, 1, 0, 1, 0] (mk 47 [(0, .dat ⟨(.sl t0), v0, .sh⟩), (1, .dat ⟨(.pair (.sl t1) .unit), v1, .sh⟩), (3, .dat ⟨(.ptr (.pair (.sl t1) .unit)), v3, (.own .sh)⟩), (4, .dat ⟨(.sl t0), v4, (.own .sh)⟩), (5, .dat ⟨(.ptr t5), v5, (.own (.pr .sh (.pr (.own .sh) .sh)))⟩), (6, .dat ⟨(.sl t0), v6, .sh⟩), (7, .dat ⟨(.ptr t5), v7, (.own (.pr .sh (.pr (.own .sh) .sh)))⟩), (8, .dat ⟨(.int .i64), v8, .sh⟩), (9, .dat ⟨(.sl t0), v9, .sh⟩), (10, .dat ⟨(.sl (.int .i64)), v10, .sh⟩), (11, .dat ⟨(.int .i64), v11, .sh⟩)])
noncomputable def lp_spec_l10Batch_0 (R : Run EE) (L : Loops) (v0 : List ((Int × (Int × Unit)))) (v1 : List ((List (d14) × Unit))) (v4 : List ((Int × (Int × Unit)))) (v5 : List (d20)) (v6 : List (d20)) (v7 : Int) : Option (d22) := from_ EE R L 21 Go.Proofs.Try.f21 [1, 1, 0, 1, 0] (mk 33 [(0, .dat ⟨(.sl t0), v0, .sh⟩), (1, .dat ⟨(.sl (.pair (.sl t1) .unit)), v1, .sh⟩), (4, .dat ⟨(.sl t0), v4, (.own .sh)⟩), (5, .dat ⟨(.sl t5), v5, (.own (.pr .sh (.pr (.own .sh) .sh)))⟩), (6, .dat ⟨(.sl t5), v6, (.own (.pr .sh (.pr (.own .sh) .sh)))⟩), (7, .dat ⟨(.int .i64), v7, .sh⟩)])
noncomputable def lp_spec_l10Batch_1 (R : Run EE) (L : Loops) (v0 : List ((Int × (Int × Unit)))) (v1 : List ((List (d14) × Unit))) (v4 : List ((Int × (Int × Unit)))) (v5 : List (d20)) (v6 : List (d20)) (v7 : Int) (v8 : List ((Int × (Int × Unit)))) (v9 : d20) : Option (d22) := from_ EE R L 21 Go.Proofs.Try.f21 [1, 1, 0, 1, 0] (mk 33 [(0, .dat ⟨(.sl t0), v0, .sh⟩), (1, .dat ⟨(.sl (.pair (.sl t1) .unit)), v1, .sh⟩), (4, .dat ⟨(.sl t0), v4, (.own .sh)⟩), (5, .dat ⟨(.sl t5), v5, (.own (.pr .sh (.pr (.own .sh) .sh)))⟩), (6, .dat ⟨(.sl t5), v6, (.own (.pr .sh (.pr (.own .sh) .sh)))⟩), (7, .dat ⟨(.int .i64), v7, .sh⟩), (8, .dat ⟨(.sl t0), v8, .sh⟩), (9, .dat ⟨(.ptr t5), v9, (.own .gone)⟩)])
noncomputable def lp_impl_MapOK_0 (R : Run EE) (L : Loops) (v0 : List ((Int × (Int × Unit)))) (v2 : Bool) (v5 : List ((Int × (Int × Unit)))) (v6 : Int) (v7 : Int) : Option ((Bool × Unit)) := from_ EE R L 24 Go.Proofs.Try.f24 [1, 0, 1, 0] (mk 41 [(0, .dat ⟨(.sl t0), v0, .sh⟩), (2, .dat ⟨.bool, v2, .sh⟩), (5, .dat ⟨(.sl t0), v5, .sh⟩), (6, .dat ⟨(.int .i64), v6, .sh⟩), (7, .dat ⟨(.int .i64), v7, .sh⟩)])
noncomputable def lp_impl_MapOK_1 (R : Run EE) (L : Loops) (v0 : List ((Int × (Int × Unit)))) (v2 : Bool) (v3 : Int) (v4 : (Int × (Int × Unit))) (v5 : List ((Int × (Int × Unit)))) (v6 : Int) (v7 : Int) : Option ((Bool × Unit)) := from_ EE R L 24 Go.Proofs.Try.f24 [1, 0, 1, 0] (mk 41 [(0, .dat ⟨(.sl t0), v0, .sh⟩), (2, .dat ⟨.bool, v2, .sh⟩), (3, .dat ⟨(.int .i64), v3, .sh⟩), (4, .dat ⟨(.ptr t0), v4, (.own .sh)⟩), (5, .dat ⟨(.sl t0), v5, .sh⟩), (6, .dat ⟨(.int .i64), v6, .sh⟩), (7, .dat ⟨(.int .i64), v7, .sh⟩)])
noncomputable def lp_slices_IndexFunc___impl_Txn_impl_Txn__0 (R : Run EE) (L : Loops) (v0 : List ((List (d14) × Unit))) (v1 : FnVal) (v4 : Int) (v7 : Int) (v8 : Int) : Option ((Int × Unit)) := from_ EE R L 59 Go.Proofs.Try.f59 [1, 0, 1, 0] (mk 19 [(0, .dat ⟨(.sl (.pair (.sl t1) .unit)), v0, .sh⟩), (1, .dat ⟨.fn, v1, .sh⟩), (4, .dat ⟨(.int .i64), v4, .sh⟩), (7, .dat ⟨(.int .i64), v7, .sh⟩), (8, .dat ⟨(.int .i64), v8, .sh⟩)])
noncomputable def lp_slices_IndexFunc___impl_Txn_impl_Txn__1 (R : Run EE) (L : Loops) (v0 : List ((List (d14) × Unit))) (v1 : FnVal) (v4 : Int) (v5 : Int) (v7 : Int) (v8 : Int) : Option ((Int × Unit)) := from_ EE R L 59 Go.Proofs.Try.f59 [1, 0, 1, 0] (mk 19 [(0, .dat ⟨(.sl (.pair (.sl t1) .unit)), v0, .sh⟩), (1, .dat ⟨.fn, v1, .sh⟩), (4, .dat ⟨(.int .i64), v4, .sh⟩), (5, .dat ⟨(.int .i64), v5, .sh⟩), (7, .dat ⟨(.int .i64), v7, .sh⟩), (8, .dat ⟨(.int .i64), v8, .sh⟩)])
noncomputable def lp_slices_IndexFunc___impl_Op_impl_Op__0 (R : Run EE) (L : Loops) (v0 : List (d14)) (v1 : FnVal) (v4 : Int) (v7 : Int) (v8 : Int) : Option ((Int × Unit)) := from_ EE R L 67 Go.Proofs.Try.f67 [1, 0, 1, 0] (mk 19 [(0, .dat ⟨(.sl t1), v0, .sh⟩), (1, .dat ⟨.fn, v1, .sh⟩), (4, .dat ⟨(.int .i64), v4, .sh⟩), (7, .dat ⟨(.int .i64), v7, .sh⟩), (8, .dat ⟨(.int .i64), v8, .sh⟩)])
noncomputable def lp_slices_IndexFunc___impl_Op_impl_Op__1 (R : Run EE) (L : Loops) (v0 : List (d14)) (v1 : FnVal) (v4 : Int) (v5 : Int) (v7 : Int) (v8 : Int) : Option ((Int × Unit)) := from_ EE R L 67 Go.Proofs.Try.f67 [1, 0, 1, 0] (mk 19 [(0, .dat ⟨(.sl t1), v0, .sh⟩), (1, .dat ⟨.fn, v1, .sh⟩), (4, .dat ⟨(.int .i64), v4, .sh⟩), (5, .dat ⟨(.int .i64), v5, .sh⟩), (7, .dat ⟨(.int .i64), v7, .sh⟩), (8, .dat ⟨(.int .i64), v8, .sh⟩)])
noncomputable def lp_slices_BinarySearchFunc___impl_Entry_impl_Entry_int__0 (R : Run EE) (L : Loops) (v0 : List ((Int × (Int × Unit)))) (v1 : Int) (v2 : FnVal) (v6 : Int) (v7 : Bool) (v8 : Int) (v9 : Int) (v10 : Int) : Option ((Int × (Bool × Unit))) := from_ EE R L 68 Go.Proofs.Try.f68 [1, 1, 1, 0, 0] (mk 49 [(0, .dat ⟨(.sl t0), v0, .sh⟩), (1, .dat ⟨(.int .i64), v1, .sh⟩), (2, .dat ⟨.fn, v2, .sh⟩), (6, .dat ⟨(.int .i64), v6, .sh⟩), (7, .dat ⟨.bool, v7, .sh⟩), (8, .dat ⟨(.int .i64), v8, .sh⟩), (9, .dat ⟨(.int .i64), v9, .sh⟩), (10, .dat ⟨(.int .i64), v10, .sh⟩)])
noncomputable def lp_slices_BinarySearchFunc___impl_Entry_impl_Entry_int__1 (R : Run EE) (L : Loops) (v0 : List ((Int × (Int × Unit)))) (v1 : Int) (v2 : FnVal) (v6 : Int) (v7 : Bool) (v8 : Int) (v9 : Int) (v10 : Int) (v11 : Int) : Option ((Int × (Bool × Unit))) := from_ EE R L 68 Go.Proofs.Try.f68 [1, 1, 1, 0, 0] (mk 49 [(0, .dat ⟨(.sl t0), v0, .sh⟩), (1, .dat ⟨(.int .i64), v1, .sh⟩), (2, .dat ⟨.fn, v2, .sh⟩), (6, .dat ⟨(.int .i64), v6, .sh⟩), (7, .dat ⟨.bool, v7, .sh⟩), (8, .dat ⟨(.int .i64), v8, .sh⟩), (9, .dat ⟨(.int .i64), v9, .sh⟩), (10, .dat ⟨(.int .i64), v10, .sh⟩), (11, .dat ⟨(.int .i64), v11, .sh⟩)])
noncomputable def lp_impl_scan_0 (R : Run EE) (L : Loops) (v0 : List ((Int × (Int × Unit)))) (v1 : Int) (v2 : Int) (v6 : List (Int)) (v7 : Int) (v9 : List (Int)) : Option ((List (Int) × Unit)) := from_ EE R L 65 Go.Proofs.Try.f65 [1, 1, 1, 0, 0] (mk 43 [(0, .dat ⟨(.sl t0), v0, .sh⟩), (1, .dat ⟨(.int .i64), v1, .sh⟩), (2, .dat ⟨(.int .i64), v2, .sh⟩), (6, .dat ⟨(.sl (.int .i64)), v6, (.own .sh)⟩), (7, .dat ⟨(.int .i64), v7, .sh⟩), (9, .dat ⟨(.sl (.int .i64)), v9, (.own .sh)⟩)])
noncomputable def lp_impl_doTxn_0 (R : Run EE) (L : Loops) (v0 : List ((Int × (Int × Unit)))) (v1 : (List (d14) × Unit)) (v3 : (List (d14) × Unit)) (v4 : List ((Int × (Int × Unit)))) (v5 : d20) (v6 : List ((Int × (Int × Unit)))) (v7 : d20) (v15 : List (d14)) (v16 : Int) (v17 : Int) : Option (d21) := from_ EE R L 44 Go.Proofs.Try.f44 [1, 1, 1, 0, 1, 0] (mk 42 [(0, .dat ⟨(.sl t0), v0, .sh⟩), (1, .dat ⟨(.pair (.sl t1) .unit), v1, .sh⟩), (3, .dat ⟨(.ptr (.pair (.sl t1) .unit)), v3, (.own .sh)⟩), (4, .dat ⟨(.sl t0), v4, (.own .sh)⟩), (5, .dat ⟨(.ptr t5), v5, (.own (.pr .sh (.pr (.own .sh) .sh)))⟩), (6, .dat ⟨(.sl t0), v6, .sh⟩), (7, .dat ⟨(.ptr t5), v7, (.own (.pr .sh (.pr (.own .sh) .sh)))⟩), (15, .dat ⟨(.sl t1), v15, .sh⟩), (16, .dat ⟨(.int .i64), v16, .sh⟩), (17, .dat ⟨(.int .i64), v17, .sh⟩)])
noncomputable def lp_impl_doTxn_1 (R : Run EE) (L : Loops) (v0 : List ((Int × (Int × Unit)))) (v1 : (List (d14) × Unit)) (v3 : (List (d14) × Unit)) (v4 : List ((Int × (Int × Unit)))) (v5 : d20) (v6 : List ((Int × (Int × Unit)))) (v7 : d20) (v9 : d14) (v10 : List ((Int × (Int × Unit)))) (v11 : List (Int)) (v12 : Int) (v15 : List (d14)) (v16 : Int) (v17 : Int) : Option (d21) := from_ EE R L 44 Go.Proofs.Try.f44 [1, 1, 1, 0, 1, 0] (mk 42 [(0, .dat ⟨(.sl t0), v0, .sh⟩), (1, .dat ⟨(.pair (.sl t1) .unit), v1, .sh⟩), (3, .dat ⟨(.ptr (.pair (.sl t1) .unit)), v3, (.own .sh)⟩), (4, .dat ⟨(.sl t0), v4, (.own .sh)⟩), (5, .dat ⟨(.ptr t5), v5, (.own (.pr .sh (.pr (.own .sh) .sh)))⟩), (6, .dat ⟨(.sl t0), v6, .sh⟩), (7, .dat ⟨(.ptr t5), v7, (.own (.pr .sh (.pr (.own .sh) .sh)))⟩), (9, .dat ⟨(.ptr t1), v9, (.own .sh)⟩), (10, .dat ⟨(.sl t0), v10, .sh⟩), (11, .dat ⟨(.sl (.int .i64)), v11, .sh⟩), (12, .dat ⟨(.int .i64), v12, .sh⟩), (15, .dat ⟨(.sl t1), v15, .sh⟩), (16, .dat ⟨(.int .i64), v16, .sh⟩), (17, .dat ⟨(.int .i64), v17, .sh⟩)])
noncomputable def lp_impl_doBatch_0 (R : Run EE) (L : Loops) (v0 : List ((Int × (Int × Unit)))) (v1 : List ((List (d14) × Unit))) (v4 : List ((Int × (Int × Unit)))) (v5 : List (d20)) (v6 : List (d20)) (v11 : List ((List (d14) × Unit))) (v12 : Int) (v13 : Int) : Option (d22) := from_ EE R L 26 Go.Proofs.Try.f26 [1, 1, 0, 1, 0] (mk 31 [(0, .dat ⟨(.sl t0), v0, .sh⟩), (1, .dat ⟨(.sl (.pair (.sl t1) .unit)), v1, .sh⟩), (4, .dat ⟨(.sl t0), v4, (.own .sh)⟩), (5, .dat ⟨(.sl t5), v5, (.own (.pr .sh (.pr (.own .sh) .sh)))⟩), (6, .dat ⟨(.sl t5), v6, (.own (.pr .sh (.pr (.own .sh) .sh)))⟩), (11, .dat ⟨(.sl (.pair (.sl t1) .unit)), v11, .sh⟩), (12, .dat ⟨(.int .i64), v12, .sh⟩), (13, .dat ⟨(.int .i64), v13, .sh⟩)])
noncomputable def lp_impl_doBatch_1 (R : Run EE) (L : Loops) (v0 : List ((Int × (Int × Unit)))) (v1 : List ((List (d14) × Unit))) (v4 : List ((Int × (Int × Unit)))) (v5 : List (d20)) (v6 : List (d20)) (v8 : (List (d14) × Unit)) (v9 : List ((Int × (Int × Unit)))) (v10 : d20) (v11 : List ((List (d14) × Unit))) (v12 : Int) (v13 : Int) : Option (d22) := from_ EE R L 26 Go.Proofs.Try.f26 [1, 1, 0, 1, 0] (mk 31 [(0, .dat ⟨(.sl t0), v0, .sh⟩), (1, .dat ⟨(.sl (.pair (.sl t1) .unit)), v1, .sh⟩), (4, .dat ⟨(.sl t0), v4, (.own .sh)⟩), (5, .dat ⟨(.sl t5), v5, (.own (.pr .sh (.pr (.own .sh) .sh)))⟩), (6, .dat ⟨(.sl t5), v6, (.own (.pr .sh (.pr (.own .sh) .sh)))⟩), (8, .dat ⟨(.ptr (.pair (.sl t1) .unit)), v8, (.own .sh)⟩), (9, .dat ⟨(.sl t0), v9, .sh⟩), (10, .dat ⟨(.ptr t5), v10, (.own .gone)⟩), (11, .dat ⟨(.sl (.pair (.sl t1) .unit)), v11, .sh⟩), (12, .dat ⟨(.int .i64), v12, .sh⟩), (13, .dat ⟨(.int .i64), v13, .sh⟩)])
noncomputable def lp_laws_eqEntryS_0 (R : Run EE) (L : Loops) (v0 : List ((Int × (Int × Unit)))) (v1 : List ((Int × (Int × Unit)))) (v4 : Bool) (v5 : Int) : Option ((Bool × Unit)) := from_ EE R L 10 Go.Proofs.Try.f10 [1, 1, 0, 1, 0] (mk 27 [(0, .dat ⟨(.sl t0), v0, .sh⟩), (1, .dat ⟨(.sl t0), v1, .sh⟩), (4, .dat ⟨.bool, v4, .sh⟩), (5, .dat ⟨(.int .i64), v5, .sh⟩)])
noncomputable def lp_laws_eqIntS_0 (R : Run EE) (L : Loops) (v0 : List (Int)) (v1 : List (Int)) (v4 : Bool) (v5 : Int) : Option ((Bool × Unit)) := from_ EE R L 45 Go.Proofs.Try.f45 [1, 1, 0, 1, 0] (mk 26 [(0, .dat ⟨(.sl (.int .i64)), v0, .sh⟩), (1, .dat ⟨(.sl (.int .i64)), v1, .sh⟩), (4, .dat ⟨.bool, v4, .sh⟩), (5, .dat ⟨(.int .i64), v5, .sh⟩)])
noncomputable def lp_laws_eqResultS_0 (R : Run EE) (L : Loops) (v0 : List (d20)) (v1 : List (d20)) (v4 : Bool) (v5 : Int) : Option ((Bool × Unit)) := from_ EE R L 11 Go.Proofs.Try.f11 [1, 1, 0, 1, 0] (mk 27 [(0, .dat ⟨(.sl t5), v0, .sh⟩), (1, .dat ⟨(.sl t5), v1, .sh⟩), (4, .dat ⟨.bool, v4, .sh⟩), (5, .dat ⟨(.int .i64), v5, .sh⟩)])
noncomputable def lp_laws_eqOpS_0 (R : Run EE) (L : Loops) (v0 : List (d14)) (v1 : List (d14)) (v4 : Bool) (v5 : Int) : Option ((Bool × Unit)) := from_ EE R L 46 Go.Proofs.Try.f46 [1, 1, 0, 1, 0] (mk 27 [(0, .dat ⟨(.sl t1), v0, .sh⟩), (1, .dat ⟨(.sl t1), v1, .sh⟩), (4, .dat ⟨.bool, v4, .sh⟩), (5, .dat ⟨(.int .i64), v5, .sh⟩)])
noncomputable def lp_laws_eqTxnS_0 (R : Run EE) (L : Loops) (v0 : List ((List (d14) × Unit))) (v1 : List ((List (d14) × Unit))) (v4 : Bool) (v5 : Int) : Option ((Bool × Unit)) := from_ EE R L 12 Go.Proofs.Try.f12 [1, 1, 0, 1, 0] (mk 27 [(0, .dat ⟨(.sl (.pair (.sl t1) .unit)), v0, .sh⟩), (1, .dat ⟨(.sl (.pair (.sl t1) .unit)), v1, .sh⟩), (4, .dat ⟨.bool, v4, .sh⟩), (5, .dat ⟨(.int .i64), v5, .sh⟩)])
noncomputable def lp_laws_markEntryS_0 (R : Run EE) (L : Loops) (v0 : List ((Int × (Int × Unit)))) (v1 : Int) (v4 : Int) (v5 : Int) : Option (d25) := from_ EE R L 13 Go.Proofs.Try.f13 [1, 0, 1, 0] (mk 27 [(0, .dat ⟨(.sl t0), v0, (.pin 0 (.own .sh))⟩), (1, .dat ⟨(.int .i64), v1, .sh⟩), (4, .dat ⟨(.int .i64), v4, .sh⟩), (5, .dat ⟨(.int .i64), v5, .sh⟩)])
noncomputable def lp_laws_markOpS_0 (R : Run EE) (L : Loops) (v0 : List (d14)) (v1 : Int) (v4 : Int) (v5 : Int) : Option (d26) := from_ EE R L 31 Go.Proofs.Try.f31 [1, 0, 1, 0] (mk 34 [(0, .dat ⟨(.sl t1), v0, (.pin 0 (.own .sh))⟩), (1, .dat ⟨(.int .i64), v1, .sh⟩), (4, .dat ⟨(.int .i64), v4, .sh⟩), (5, .dat ⟨(.int .i64), v5, .sh⟩)])
noncomputable def lp_laws_markTxnS_0 (R : Run EE) (L : Loops) (v0 : List ((List (d14) × Unit))) (v1 : Int) (v4 : Int) (v5 : Int) : Option (d27) := from_ EE R L 14 Go.Proofs.Try.f14 [1, 0, 1, 0] (mk 20 [(0, .dat ⟨(.sl (.pair (.sl t1) .unit)), v0, (.pin 0 (.own (.pr (.own .sh) .sh)))⟩), (1, .dat ⟨(.int .i64), v1, .sh⟩), (4, .dat ⟨(.int .i64), v4, .sh⟩), (5, .dat ⟨(.int .i64), v5, .sh⟩)])
noncomputable def lp_laws_markIntS_0 (R : Run EE) (L : Loops) (v0 : List (Int)) (v1 : Int) (v4 : Int) (v5 : Int) : Option (d20) := from_ EE R L 32 Go.Proofs.Try.f32 [1, 0, 1, 0] (mk 19 [(0, .dat ⟨(.sl (.int .i64)), v0, (.pin 0 (.own .sh))⟩), (1, .dat ⟨(.int .i64), v1, .sh⟩), (4, .dat ⟨(.int .i64), v4, .sh⟩), (5, .dat ⟨(.int .i64), v5, .sh⟩)])
noncomputable def lp_laws_markResultS_0 (R : Run EE) (L : Loops) (v0 : List (d20)) (v1 : Int) (v4 : Int) (v5 : Int) : Option (d28) := from_ EE R L 15 Go.Proofs.Try.f15 [1, 0, 1, 0] (mk 27 [(0, .dat ⟨(.sl t5), v0, (.pin 0 (.own (.pr .sh (.pr (.own .sh) .sh))))⟩), (1, .dat ⟨(.int .i64), v1, .sh⟩), (4, .dat ⟨(.int .i64), v4, .sh⟩), (5, .dat ⟨(.int .i64), v5, .sh⟩)])
noncomputable def lp_laws_heldEntryS_0 (R : Run EE) (L : Loops) (v0 : List ((Int × (Int × Unit)))) (v1 : Int) (v4 : Int) (v5 : Int) : Option ((Int × Unit)) := from_ EE R L 16 Go.Proofs.Try.f16 [1, 0, 1, 0] (mk 31 [(0, .dat ⟨(.sl t0), v0, .sh⟩), (1, .dat ⟨(.int .i64), v1, .sh⟩), (4, .dat ⟨(.int .i64), v4, .sh⟩), (5, .dat ⟨(.int .i64), v5, .sh⟩)])
noncomputable def lp_laws_heldIntS_0 (R : Run EE) (L : Loops) (v0 : List (Int)) (v1 : Int) (v4 : Int) (v5 : Int) : Option ((Int × Unit)) := from_ EE R L 33 Go.Proofs.Try.f33 [1, 0, 1, 0] (mk 21 [(0, .dat ⟨(.sl (.int .i64)), v0, .sh⟩), (1, .dat ⟨(.int .i64), v1, .sh⟩), (4, .dat ⟨(.int .i64), v4, .sh⟩), (5, .dat ⟨(.int .i64), v5, .sh⟩)])
noncomputable def lp_laws_heldResultS_0 (R : Run EE) (L : Loops) (v0 : List (d20)) (v1 : Int) (v4 : Int) (v5 : Int) : Option ((Int × Unit)) := from_ EE R L 17 Go.Proofs.Try.f17 [1, 0, 1, 0] (mk 31 [(0, .dat ⟨(.sl t5), v0, .sh⟩), (1, .dat ⟨(.int .i64), v1, .sh⟩), (4, .dat ⟨(.int .i64), v4, .sh⟩), (5, .dat ⟨(.int .i64), v5, .sh⟩)])

/-- loop.example/g00548/laws.szEntryS -/
theorem q_laws_szEntryS (R : Run EE) (L : Loops) (x0 : List ((Int × (Int × Unit)))) (x1 : Int) : @Eq (Option ((Int × Unit))) (bodyK EE R L 4 [⟨(.sl t0), x0⟩, ⟨(.int .i64), x1⟩]) (
  cond (decide ((Go.IntKind.wrap .i64 (x1 - (((List.length x0) : Nat) : Int))) < (0 : Int)))
  (some ((-(1 : Int)), ()))
  (some ((Go.IntKind.wrap .i64 (x1 - (((List.length x0) : Nat) : Int))), ()))) := by kernel_rfl
/-- loop.example/g00548/laws.szOpS -/
theorem q_laws_szOpS (R : Run EE) (L : Loops) (x0 : List (d14)) (x1 : Int) : @Eq (Option ((Int × Unit))) (bodyK EE R L 34 [⟨(.sl t1), x0⟩, ⟨(.int .i64), x1⟩]) (
  cond (decide ((Go.IntKind.wrap .i64 (x1 - (((List.length x0) : Nat) : Int))) < (0 : Int)))
  (some ((-(1 : Int)), ()))
  (some ((Go.IntKind.wrap .i64 (x1 - (((List.length x0) : Nat) : Int))), ()))) := by kernel_rfl
/-- loop.example/g00548/laws.szTxn -/
theorem q_laws_szTxn (R : Run EE) (L : Loops) (x0 : (List (d14) × Unit)) (x1 : Int) : @Eq (Option ((Int × Unit))) (bodyK EE R L 18 [⟨(.pair (.sl t1) .unit), x0⟩, ⟨(.int .i64), x1⟩]) (
  (c_laws_szOpS R x0.1 x1).bind fun r0 =>
  cond (decide (r0.1 < (0 : Int)))
  (some ((-(1 : Int)), ()))
  (some (r0.1, ()))) := by kernel_rfl
/-- loop.example/g00548/laws.szTxnS -/
theorem q_laws_szTxnS (R : Run EE) (L : Loops) (x0 : List ((List (d14) × Unit))) (x1 : Int) : @Eq (Option ((Int × Unit))) (bodyK EE R L 5 [⟨(.sl (.pair (.sl t1) .unit)), x0⟩, ⟨(.int .i64), x1⟩]) (
  cond (decide ((Go.IntKind.wrap .i64 (x1 - (((List.length x0) : Nat) : Int))) < (0 : Int)))
  (some ((-(1 : Int)), ()))
  (lp_laws_szTxnS_0 R L x0 (Go.IntKind.wrap .i64 (x1 - (((List.length x0) : Nat) : Int))) (0 : Int) (0 : Int))) := by kernel_rfl
theorem q_laws_szTxnS_0 (R : Run EE) (L : Loops) (v0 : List ((List (d14) × Unit))) (v1 : Int) (v4 : Int) (v5 : Int) : @Eq (Option ((Int × Unit))) (from_ EE R L 5 Go.Proofs.Try.f5 [1, 1, 1, 0, 1, 0, 0] (mk 27 [(0, .dat ⟨(.sl (.pair (.sl t1) .unit)), v0, .sh⟩), (1, .dat ⟨(.int .i64), v1, .sh⟩), (4, .dat ⟨(.int .i64), v4, .sh⟩), (5, .dat ⟨(.int .i64), v5, .sh⟩)])) (
  cond (decide (v5 < (((List.length v0) : Nat) : Int)))
  (cond (Go.Rf.nonneg v5)
    (cond (Nat.blt (Int.toNat v5) (List.length v0))
      ((c_laws_szTxn R (List.getD v0 (Int.toNat v5) (([] : List (d14)), ())) v1).bind fun r0 =>
        cond (decide (r0.1 < (0 : Int)))
        (some ((-(1 : Int)), ()))
        (lp_laws_szTxnS_0 R L v0 r0.1 v4 (Go.IntKind.wrap .i64 (v5 + (1 : Int)))))
      (none))
    (none))
  (some (v1, ()))) := by kernel_rfl
/-- loop.example/g00548/laws.toEntry -/
theorem q_laws_toEntry (R : Run EE) (L : Loops) (x0 : (Int × (Int × Unit))) : @Eq (Option (d15)) (bodyK EE R L 22 [⟨t0, x0⟩]) (
  some ((x0.1, (x0.2.1, ())), ())) := by kernel_rfl
/-- loop.example/g00548/laws.toEntryS -/
theorem q_laws_toEntryS (R : Run EE) (L : Loops) (x0 : List ((Int × (Int × Unit)))) : @Eq (Option (d16)) (bodyK EE R L 7 [⟨(.sl t0), x0⟩]) (
  cond (Go.Rf.leI (((List.length x0) : Nat) : Int) (((List.length x0) : Nat) : Int))
  (cond (Go.Rf.lenOK (Int.toNat (((List.length x0) : Nat) : Int)))
    (lp_laws_toEntryS_0 R L x0 ([] : List ((Int × (Int × Unit)))) (List.replicate (Int.toNat (((List.length x0) : Nat) : Int)) ((0 : Int), ((0 : Int), ()))) (0 : Int))
    (none))
  (none)) := by kernel_rfl
theorem q_laws_toEntryS_0 (R : Run EE) (L : Loops) (v0 : List ((Int × (Int × Unit)))) (v2 : List ((Int × (Int × Unit)))) (v3 : List ((Int × (Int × Unit)))) (v4 : Int) : @Eq (Option (d16)) (from_ EE R L 7 Go.Proofs.Try.f7 [1, 1, 0, 1, 0, 0] (mk 23 [(0, .dat ⟨(.sl t0), v0, .sh⟩), (2, .dat ⟨(.sl t0), v2, (.own .sh)⟩), (3, .dat ⟨(.sl t0), v3, (.own .sh)⟩), (4, .dat ⟨(.int .i64), v4, .sh⟩)])) (
  cond (decide (v4 < (((List.length v0) : Nat) : Int)))
  (cond (Go.Rf.nonneg v4)
    (cond (Nat.blt (Int.toNat v4) (List.length v0))
      ((c_laws_toEntry R (List.getD v0 (Int.toNat v4) ((0 : Int), ((0 : Int), ())))).bind fun r0 =>
        cond (Go.Rf.nonneg v4)
        (cond (Nat.blt (Int.toNat v4) (List.length v3))
          (lp_laws_toEntryS_0 R L v0 v2 (List.set v3 (Int.toNat v4) r0.1) (Go.IntKind.wrap .i64 (v4 + (1 : Int))))
          (none))
        (none))
      (none))
    (none))
  (some (v3, ()))) := by kernel_rfl
/-- loop.example/g00548/laws.toOp -/
theorem q_laws_toOp (R : Run EE) (L : Loops) (x0 : d14) : @Eq (Option ((d14 × Unit))) (bodyK EE R L 49 [⟨t1, x0⟩]) (
  some ((x0.1, (x0.2.1, (x0.2.2.1, ()))), ())) := by kernel_rfl
/-- loop.example/g00548/laws.toOpS -/
theorem q_laws_toOpS (R : Run EE) (L : Loops) (x0 : List (d14)) : @Eq (Option ((List (d14) × Unit))) (bodyK EE R L 38 [⟨(.sl t1), x0⟩]) (
  cond (Go.Rf.leI (((List.length x0) : Nat) : Int) (((List.length x0) : Nat) : Int))
  (cond (Go.Rf.lenOK (Int.toNat (((List.length x0) : Nat) : Int)))
    (lp_laws_toOpS_0 R L x0 ([] : List (d14)) (List.replicate (Int.toNat (((List.length x0) : Nat) : Int)) ((0 : Int), ((0 : Int), ((0 : Int), ())))) (0 : Int))
    (none))
  (none)) := by kernel_rfl
theorem q_laws_toOpS_0 (R : Run EE) (L : Loops) (v0 : List (d14)) (v2 : List (d14)) (v3 : List (d14)) (v4 : Int) : @Eq (Option ((List (d14) × Unit))) (from_ EE R L 38 Go.Proofs.Try.f38 [1, 1, 0, 1, 0, 0] (mk 23 [(0, .dat ⟨(.sl t1), v0, .sh⟩), (2, .dat ⟨(.sl t1), v2, (.own .sh)⟩), (3, .dat ⟨(.sl t1), v3, (.own .sh)⟩), (4, .dat ⟨(.int .i64), v4, .sh⟩)])) (
  cond (decide (v4 < (((List.length v0) : Nat) : Int)))
  (cond (Go.Rf.nonneg v4)
    (cond (Nat.blt (Int.toNat v4) (List.length v0))
      ((c_laws_toOp R (List.getD v0 (Int.toNat v4) ((0 : Int), ((0 : Int), ((0 : Int), ()))))).bind fun r0 =>
        cond (Go.Rf.nonneg v4)
        (cond (Nat.blt (Int.toNat v4) (List.length v3))
          (lp_laws_toOpS_0 R L v0 v2 (List.set v3 (Int.toNat v4) r0.1) (Go.IntKind.wrap .i64 (v4 + (1 : Int))))
          (none))
        (none))
      (none))
    (none))
  (some (v3, ()))) := by kernel_rfl
/-- loop.example/g00548/laws.toTxn -/
theorem q_laws_toTxn (R : Run EE) (L : Loops) (x0 : (List (d14) × Unit)) : @Eq (Option (d17)) (bodyK EE R L 23 [⟨(.pair (.sl t1) .unit), x0⟩]) (
  (c_laws_toOpS R x0.1).bind fun r0 =>
  some ((r0.1, ()), ())) := by kernel_rfl
/-- loop.example/g00548/laws.toTxnS -/
theorem q_laws_toTxnS (R : Run EE) (L : Loops) (x0 : List ((List (d14) × Unit))) : @Eq (Option (d18)) (bodyK EE R L 8 [⟨(.sl (.pair (.sl t1) .unit)), x0⟩]) (
  cond (Go.Rf.leI (((List.length x0) : Nat) : Int) (((List.length x0) : Nat) : Int))
  (cond (Go.Rf.lenOK (Int.toNat (((List.length x0) : Nat) : Int)))
    (lp_laws_toTxnS_0 R L x0 ([] : List ((List (d14) × Unit))) (List.replicate (Int.toNat (((List.length x0) : Nat) : Int)) (([] : List (d14)), ())) (0 : Int))
    (none))
  (none)) := by kernel_rfl
theorem q_laws_toTxnS_0 (R : Run EE) (L : Loops) (v0 : List ((List (d14) × Unit))) (v2 : List ((List (d14) × Unit))) (v3 : List ((List (d14) × Unit))) (v4 : Int) : @Eq (Option (d18)) (from_ EE R L 8 Go.Proofs.Try.f8 [1, 1, 0, 1, 0, 0] (mk 23 [(0, .dat ⟨(.sl (.pair (.sl t1) .unit)), v0, .sh⟩), (2, .dat ⟨(.sl (.pair (.sl t1) .unit)), v2, (.own (.pr (.own .sh) .sh))⟩), (3, .dat ⟨(.sl (.pair (.sl t1) .unit)), v3, (.own (.pr (.own .sh) .sh))⟩), (4, .dat ⟨(.int .i64), v4, .sh⟩)])) (
  cond (decide (v4 < (((List.length v0) : Nat) : Int)))
  (cond (Go.Rf.nonneg v4)
    (cond (Nat.blt (Int.toNat v4) (List.length v0))
      ((c_laws_toTxn R (List.getD v0 (Int.toNat v4) (([] : List (d14)), ()))).bind fun r0 =>
        cond (Go.Rf.nonneg v4)
        (cond (Nat.blt (Int.toNat v4) (List.length v3))
          (lp_laws_toTxnS_0 R L v0 v2 (List.set v3 (Int.toNat v4) r0.1) (Go.IntKind.wrap .i64 (v4 + (1 : Int))))
          (none))
        (none))
      (none))
    (none))
  (some (v3, ()))) := by kernel_rfl
/-- loop.example/g00548/spec.l01In -/
theorem q_spec_l01In (R : Run EE) (L : Loops) (x0 : Int) (x1 : Int) (x2 : Int) : @Eq (Option ((Bool × Unit))) (bodyK EE R L 35 [⟨(.int .i64), x0⟩, ⟨(.int .i64), x1⟩, ⟨(.int .i64), x2⟩]) (
  cond (decide (x1 ≤ x0))
  (some ((decide (x0 ≤ x2)), ()))
  (some (false, ()))) := by kernel_rfl
/-- loop.example/g00548/spec.MapOK -/
theorem q_spec_MapOK (R : Run EE) (L : Loops) (x0 : List ((Int × (Int × Unit)))) : @Eq (Option ((Bool × Unit))) (bodyK EE R L 19 [⟨(.sl t0), x0⟩]) (
  cond (decide ((4096 : Int) < (((List.length x0) : Nat) : Int)))
  (some (false, ()))
  (lp_spec_MapOK_0 R L x0 false (0 : Int))) := by kernel_rfl
theorem q_spec_MapOK_0 (R : Run EE) (L : Loops) (v0 : List ((Int × (Int × Unit)))) (v2 : Bool) (v3 : Int) : @Eq (Option ((Bool × Unit))) (from_ EE R L 19 Go.Proofs.Try.f19 [1, 1, 0, 1, 0, 0] (mk 50 [(0, .dat ⟨(.sl t0), v0, .sh⟩), (2, .dat ⟨.bool, v2, .sh⟩), (3, .dat ⟨(.int .i64), v3, .sh⟩)])) (
  cond (decide (v3 < (((List.length v0) : Nat) : Int)))
  (cond (Go.Rf.nonneg v3)
    (cond (Nat.blt (Int.toNat v3) (List.length v0))
      ((c_spec_l01In R (List.getD v0 (Int.toNat v3) ((0 : Int), ((0 : Int), ()))).1 (1 : Int) (9999 : Int)).bind fun r0 =>
        cond (!r0.1)
        (some (false, ()))
        (cond (Go.Rf.nonneg v3)
          (cond (Nat.blt (Int.toNat v3) (List.length v0))
            ((c_spec_l01In R (List.getD v0 (Int.toNat v3) ((0 : Int), ((0 : Int), ()))).2.1 (0 : Int) (999999 : Int)).bind fun r1 =>
              cond (!r1.1)
              (some (false, ()))
              (cond (decide ((0 : Int) < v3))
                (cond (Go.Rf.nonneg (Go.IntKind.wrap .i64 (v3 - (1 : Int))))
                  (cond (Nat.blt (Int.toNat (Go.IntKind.wrap .i64 (v3 - (1 : Int)))) (List.length v0))
                    (cond (Go.Rf.nonneg v3)
                      (cond (Nat.blt (Int.toNat v3) (List.length v0))
                        (cond (decide ((List.getD v0 (Int.toNat v3) ((0 : Int), ((0 : Int), ()))).1 ≤ (List.getD v0 (Int.toNat (Go.IntKind.wrap .i64 (v3 - (1 : Int)))) ((0 : Int), ((0 : Int), ()))).1))
                          (some (false, ()))
                          (lp_spec_MapOK_0 R L v0 v2 (Go.IntKind.wrap .i64 (v3 + (1 : Int)))))
                        (none))
                      (none))
                    (none))
                  (none))
                (lp_spec_MapOK_0 R L v0 v2 (Go.IntKind.wrap .i64 (v3 + (1 : Int))))))
            (none))
          (none)))
      (none))
    (none))
  (some ((decide ((((List.length v0) : Nat) : Int) ≤ (11 : Int))), ()))) := by kernel_rfl
/-- loop.example/g00548/spec.OpOK -/
theorem q_spec_OpOK (R : Run EE) (L : Loops) (x0 : d14) : @Eq (Option ((Bool × Unit))) (bodyK EE R L 47 [⟨t1, x0⟩]) (
  (c_spec_l01In R x0.1 (1 : Int) (6 : Int)).bind fun r0 =>
  cond (!r0.1)
  (some (false, ()))
  ((c_spec_l01In R x0.2.1 (1 : Int) (9999 : Int)).bind fun r1 =>
    cond (!r1.1)
    (some (false, ()))
    (cond (Go.Rf.eqI x0.1 (1 : Int))
      (some ((Go.Rf.eqI x0.2.2.1 (0 : Int)), ()))
      (cond (Go.Rf.eqI x0.1 (3 : Int))
        (some ((Go.Rf.eqI x0.2.2.1 (0 : Int)), ()))
        (cond (Go.Rf.eqI x0.1 (6 : Int))
          ((c_spec_l01In R x0.2.2.1 (1 : Int) (4 : Int)).bind fun r2 =>
            some (r2.1, ()))
          ((c_spec_l01In R x0.2.2.1 (0 : Int) (999999 : Int)).bind fun r2 =>
            some (r2.1, ()))))))) := by kernel_rfl
/-- loop.example/g00548/spec.l09Txn -/
theorem q_spec_l09Txn (R : Run EE) (L : Loops) (x0 : (List (d14) × Unit)) : @Eq (Option ((Bool × Unit))) (bodyK EE R L 36 [⟨(.pair (.sl t1) .unit), x0⟩]) (
  lp_spec_l09Txn_0 R L x0 x0 false (0 : Int)) := by kernel_rfl
theorem q_spec_l09Txn_0 (R : Run EE) (L : Loops) (v0 : (List (d14) × Unit)) (v1 : (List (d14) × Unit)) (v2 : Bool) (v3 : Int) : @Eq (Option ((Bool × Unit))) (from_ EE R L 36 Go.Proofs.Try.f36 [1, 0, 1, 0, 0] (mk 22 [(0, .dat ⟨(.pair (.sl t1) .unit), v0, .sh⟩), (1, .dat ⟨(.ptr (.pair (.sl t1) .unit)), v1, (.own .sh)⟩), (2, .dat ⟨.bool, v2, .sh⟩), (3, .dat ⟨(.int .i64), v3, .sh⟩)])) (
  cond (decide (v3 < (((List.length v1.1) : Nat) : Int)))
  (cond (Go.Rf.nonneg v3)
    (cond (Nat.blt (Int.toNat v3) (List.length v1.1))
      ((c_spec_OpOK R (List.getD v1.1 (Int.toNat v3) ((0 : Int), ((0 : Int), ((0 : Int), ()))))).bind fun r0 =>
        cond (!r0.1)
        (some (false, ()))
        (lp_spec_l09Txn_0 R L v0 v1 v2 (Go.IntKind.wrap .i64 (v3 + (1 : Int)))))
      (none))
    (none))
  ((c_spec_l01In R (((List.length v1.1) : Nat) : Int) (1 : Int) (4 : Int)).bind fun r0 =>
    some (r0.1, ()))) := by kernel_rfl
/-- loop.example/g00548/spec.BatchOK -/
theorem q_spec_BatchOK (R : Run EE) (L : Loops) (x0 : List ((List (d14) × Unit))) : @Eq (Option ((Bool × Unit))) (bodyK EE R L 20 [⟨(.sl (.pair (.sl t1) .unit)), x0⟩]) (
  cond (decide ((4096 : Int) < (((List.length x0) : Nat) : Int)))
  (some (false, ()))
  ((c_spec_l01In R (((List.length x0) : Nat) : Int) (1 : Int) (2 : Int)).bind fun r0 =>
    cond (!r0.1)
    (some (false, ()))
    (lp_spec_BatchOK_0 R L x0 false (0 : Int)))) := by kernel_rfl
theorem q_spec_BatchOK_0 (R : Run EE) (L : Loops) (v0 : List ((List (d14) × Unit))) (v2 : Bool) (v3 : Int) : @Eq (Option ((Bool × Unit))) (from_ EE R L 20 Go.Proofs.Try.f20 [1, 1, 1, 0, 1, 0, 0] (mk 23 [(0, .dat ⟨(.sl (.pair (.sl t1) .unit)), v0, .sh⟩), (2, .dat ⟨.bool, v2, .sh⟩), (3, .dat ⟨(.int .i64), v3, .sh⟩)])) (
  cond (decide (v3 < (((List.length v0) : Nat) : Int)))
  (cond (Go.Rf.nonneg v3)
    (cond (Nat.blt (Int.toNat v3) (List.length v0))
      ((c_spec_l09Txn R (List.getD v0 (Int.toNat v3) (([] : List (d14)), ()))).bind fun r0 =>
        cond (!r0.1)
        (some (false, ()))
        (lp_spec_BatchOK_0 R L v0 v2 (Go.IntKind.wrap .i64 (v3 + (1 : Int)))))
      (none))
    (none))
  (some (true, ()))) := by kernel_rfl
/-- loop.example/g00548/spec.l10Find -/
theorem q_spec_l10Find (R : Run EE) (L : Loops) (x0 : List ((Int × (Int × Unit)))) (x1 : Int) : @Eq (Option ((Int × Unit))) (bodyK EE R L 56 [⟨(.sl t0), x0⟩, ⟨(.int .i64), x1⟩]) (
  lp_spec_l10Find_0 R L x0 x1 (0 : Int) (0 : Int)) := by kernel_rfl
theorem q_spec_l10Find_0 (R : Run EE) (L : Loops) (v0 : List ((Int × (Int × Unit)))) (v1 : Int) (v4 : Int) (v5 : Int) : @Eq (Option ((Int × Unit))) (from_ EE R L 56 Go.Proofs.Try.f56 [1, 0, 1, 0, 0] (mk 20 [(0, .dat ⟨(.sl t0), v0, .sh⟩), (1, .dat ⟨(.int .i64), v1, .sh⟩), (4, .dat ⟨(.int .i64), v4, .sh⟩), (5, .dat ⟨(.int .i64), v5, .sh⟩)])) (
  cond (decide (v5 < (((List.length v0) : Nat) : Int)))
  (cond (Go.Rf.nonneg v5)
    (cond (Nat.blt (Int.toNat v5) (List.length v0))
      (cond (Go.Rf.eqI (List.getD v0 (Int.toNat v5) ((0 : Int), ((0 : Int), ()))).1 v1)
        (some (v5, ()))
        (lp_spec_l10Find_0 R L v0 v1 v4 (Go.IntKind.wrap .i64 (v5 + (1 : Int)))))
      (none))
    (none))
  (some ((-(1 : Int)), ()))) := by kernel_rfl
/-- loop.example/g00548/spec.l01Bit -/
theorem q_spec_l01Bit (R : Run EE) (L : Loops) (x0 : Bool) : @Eq (Option ((Int × Unit))) (bodyK EE R L 57 [⟨.bool, x0⟩]) (
  cond x0
  (some ((1 : Int), ()))
  (some ((0 : Int), ()))) := by kernel_rfl
/-- loop.example/g00548/spec.l10Put -/
theorem q_spec_l10Put (R : Run EE) (L : Loops) (x0 : List ((Int × (Int × Unit)))) (x1 : Int) (x2 : Int) : @Eq (Option (d16)) (bodyK EE R L 58 [⟨(.sl t0), x0⟩, ⟨(.int .i64), x1⟩, ⟨(.int .i64), x2⟩]) (
  lp_spec_l10Put_0 R L x0 x1 x2 ([] : List ((Int × (Int × Unit)))) (0 : Int)) := by kernel_rfl
theorem q_spec_l10Put_0 (R : Run EE) (L : Loops) (v0 : List ((Int × (Int × Unit)))) (v1 : Int) (v2 : Int) (v6 : List ((Int × (Int × Unit)))) (v7 : Int) : @Eq (Option (d16)) (from_ EE R L 58 Go.Proofs.Try.f58 [1, 1, 0, 0, 0] (mk 56 [(0, .dat ⟨(.sl t0), v0, .sh⟩), (1, .dat ⟨(.int .i64), v1, .sh⟩), (2, .dat ⟨(.int .i64), v2, .sh⟩), (6, .dat ⟨(.sl t0), v6, (.own .sh)⟩), (7, .dat ⟨(.int .i64), v7, .sh⟩)])) (
  cond (decide (v7 < (((List.length v0) : Nat) : Int)))
  (cond (Go.Rf.nonneg v7)
    (cond (Nat.blt (Int.toNat v7) (List.length v0))
      (cond (decide ((List.getD v0 (Int.toNat v7) ((0 : Int), ((0 : Int), ()))).1 < v1))
        (lp_spec_l10Put_0 R L v0 v1 v2 v6 (Go.IntKind.wrap .i64 (v7 + (1 : Int))))
        (cond (Go.Rf.nonneg v7)
          (cond (Nat.ble (List.length v0) (List.length v0))
            (cond (Nat.ble (Int.toNat v7) (List.length v0))
              (cond (decide (v7 < (((List.length v0) : Nat) : Int)))
                (cond (Go.Rf.nonneg v7)
                  (cond (Nat.blt (Int.toNat v7) (List.length v0))
                    (cond (Go.Rf.eqI (List.getD v0 (Int.toNat v7) ((0 : Int), ((0 : Int), ()))).1 v1)
                      (cond (Go.Rf.nonneg (Go.IntKind.wrap .i64 (v7 + (1 : Int))))
                        (cond (Nat.ble (List.length v0) (List.length v0))
                          (cond (Nat.ble (Int.toNat (Go.IntKind.wrap .i64 (v7 + (1 : Int)))) (List.length v0))
                            (cond (Go.Rf.nonneg v7)
                              (cond (Nat.ble (Int.toNat v7) (List.length v0))
                                (cond (Go.Rf.lenOK ((List.length ([] : List ((Int × (Int × Unit))))) + (List.length (List.drop (0 : Nat) (List.take (Int.toNat v7) v0)))))
                                  (cond (Go.Rf.lenOK ((List.length (([] : List ((Int × (Int × Unit)))) ++ (List.drop (0 : Nat) (List.take (Int.toNat v7) v0)))) + (List.length ((v1, (v2, ())) :: ([] : List ((Int × (Int × Unit))))))))
                                    (cond (Go.Rf.lenOK ((List.length ((([] : List ((Int × (Int × Unit)))) ++ (List.drop (0 : Nat) (List.take (Int.toNat v7) v0))) ++ ((v1, (v2, ())) :: ([] : List ((Int × (Int × Unit))))))) + (List.length (List.drop (Int.toNat (Go.IntKind.wrap .i64 (v7 + (1 : Int)))) (List.take (List.length v0) v0)))))
                                      (some ((((([] : List ((Int × (Int × Unit)))) ++ (List.drop (0 : Nat) (List.take (Int.toNat v7) v0))) ++ ((v1, (v2, ())) :: ([] : List ((Int × (Int × Unit)))))) ++ (List.drop (Int.toNat (Go.IntKind.wrap .i64 (v7 + (1 : Int)))) (List.take (List.length v0) v0))), ()))
                                      (none))
                                    (none))
                                  (none))
                                (none))
                              (none))
                            (none))
                          (none))
                        (none))
                      (cond (Go.Rf.nonneg v7)
                        (cond (Nat.ble (Int.toNat v7) (List.length v0))
                          (cond (Go.Rf.lenOK ((List.length ([] : List ((Int × (Int × Unit))))) + (List.length (List.drop (0 : Nat) (List.take (Int.toNat v7) v0)))))
                            (cond (Go.Rf.lenOK ((List.length (([] : List ((Int × (Int × Unit)))) ++ (List.drop (0 : Nat) (List.take (Int.toNat v7) v0)))) + (List.length ((v1, (v2, ())) :: ([] : List ((Int × (Int × Unit))))))))
                              (cond (Go.Rf.lenOK ((List.length ((([] : List ((Int × (Int × Unit)))) ++ (List.drop (0 : Nat) (List.take (Int.toNat v7) v0))) ++ ((v1, (v2, ())) :: ([] : List ((Int × (Int × Unit))))))) + (List.length (List.drop (Int.toNat v7) (List.take (List.length v0) v0)))))
                                (some ((((([] : List ((Int × (Int × Unit)))) ++ (List.drop (0 : Nat) (List.take (Int.toNat v7) v0))) ++ ((v1, (v2, ())) :: ([] : List ((Int × (Int × Unit)))))) ++ (List.drop (Int.toNat v7) (List.take (List.length v0) v0))), ()))
                                (none))
                              (none))
                            (none))
                          (none))
                        (none)))
                    (none))
                  (none))
                (cond (Go.Rf.nonneg v7)
                  (cond (Nat.ble (Int.toNat v7) (List.length v0))
                    (cond (Go.Rf.lenOK ((List.length ([] : List ((Int × (Int × Unit))))) + (List.length (List.drop (0 : Nat) (List.take (Int.toNat v7) v0)))))
                      (cond (Go.Rf.lenOK ((List.length (([] : List ((Int × (Int × Unit)))) ++ (List.drop (0 : Nat) (List.take (Int.toNat v7) v0)))) + (List.length ((v1, (v2, ())) :: ([] : List ((Int × (Int × Unit))))))))
                        (cond (Go.Rf.lenOK ((List.length ((([] : List ((Int × (Int × Unit)))) ++ (List.drop (0 : Nat) (List.take (Int.toNat v7) v0))) ++ ((v1, (v2, ())) :: ([] : List ((Int × (Int × Unit))))))) + (List.length (List.drop (Int.toNat v7) (List.take (List.length v0) v0)))))
                          (some ((((([] : List ((Int × (Int × Unit)))) ++ (List.drop (0 : Nat) (List.take (Int.toNat v7) v0))) ++ ((v1, (v2, ())) :: ([] : List ((Int × (Int × Unit)))))) ++ (List.drop (Int.toNat v7) (List.take (List.length v0) v0))), ()))
                          (none))
                        (none))
                      (none))
                    (none))
                  (none)))
              (none))
            (none))
          (none)))
      (none))
    (none))
  (cond (Go.Rf.nonneg v7)
    (cond (Nat.ble (List.length v0) (List.length v0))
      (cond (Nat.ble (Int.toNat v7) (List.length v0))
        (cond (decide (v7 < (((List.length v0) : Nat) : Int)))
          (cond (Go.Rf.nonneg v7)
            (cond (Nat.blt (Int.toNat v7) (List.length v0))
              (cond (Go.Rf.eqI (List.getD v0 (Int.toNat v7) ((0 : Int), ((0 : Int), ()))).1 v1)
                (cond (Go.Rf.nonneg (Go.IntKind.wrap .i64 (v7 + (1 : Int))))
                  (cond (Nat.ble (List.length v0) (List.length v0))
                    (cond (Nat.ble (Int.toNat (Go.IntKind.wrap .i64 (v7 + (1 : Int)))) (List.length v0))
                      (cond (Go.Rf.nonneg v7)
                        (cond (Nat.ble (Int.toNat v7) (List.length v0))
                          (cond (Go.Rf.lenOK ((List.length ([] : List ((Int × (Int × Unit))))) + (List.length (List.drop (0 : Nat) (List.take (Int.toNat v7) v0)))))
                            (cond (Go.Rf.lenOK ((List.length (([] : List ((Int × (Int × Unit)))) ++ (List.drop (0 : Nat) (List.take (Int.toNat v7) v0)))) + (List.length ((v1, (v2, ())) :: ([] : List ((Int × (Int × Unit))))))))
                              (cond (Go.Rf.lenOK ((List.length ((([] : List ((Int × (Int × Unit)))) ++ (List.drop (0 : Nat) (List.take (Int.toNat v7) v0))) ++ ((v1, (v2, ())) :: ([] : List ((Int × (Int × Unit))))))) + (List.length (List.drop (Int.toNat (Go.IntKind.wrap .i64 (v7 + (1 : Int)))) (List.take (List.length v0) v0)))))
                                (some ((((([] : List ((Int × (Int × Unit)))) ++ (List.drop (0 : Nat) (List.take (Int.toNat v7) v0))) ++ ((v1, (v2, ())) :: ([] : List ((Int × (Int × Unit)))))) ++ (List.drop (Int.toNat (Go.IntKind.wrap .i64 (v7 + (1 : Int)))) (List.take (List.length v0) v0))), ()))
                                (none))
                              (none))
                            (none))
                          (none))
                        (none))
                      (none))
                    (none))
                  (none))
                (cond (Go.Rf.nonneg v7)
                  (cond (Nat.ble (Int.toNat v7) (List.length v0))
                    (cond (Go.Rf.lenOK ((List.length ([] : List ((Int × (Int × Unit))))) + (List.length (List.drop (0 : Nat) (List.take (Int.toNat v7) v0)))))
                      (cond (Go.Rf.lenOK ((List.length (([] : List ((Int × (Int × Unit)))) ++ (List.drop (0 : Nat) (List.take (Int.toNat v7) v0)))) + (List.length ((v1, (v2, ())) :: ([] : List ((Int × (Int × Unit))))))))
                        (cond (Go.Rf.lenOK ((List.length ((([] : List ((Int × (Int × Unit)))) ++ (List.drop (0 : Nat) (List.take (Int.toNat v7) v0))) ++ ((v1, (v2, ())) :: ([] : List ((Int × (Int × Unit))))))) + (List.length (List.drop (Int.toNat v7) (List.take (List.length v0) v0)))))
                          (some ((((([] : List ((Int × (Int × Unit)))) ++ (List.drop (0 : Nat) (List.take (Int.toNat v7) v0))) ++ ((v1, (v2, ())) :: ([] : List ((Int × (Int × Unit)))))) ++ (List.drop (Int.toNat v7) (List.take (List.length v0) v0))), ()))
                          (none))
                        (none))
                      (none))
                    (none))
                  (none)))
              (none))
            (none))
          (cond (Go.Rf.nonneg v7)
            (cond (Nat.ble (Int.toNat v7) (List.length v0))
              (cond (Go.Rf.lenOK ((List.length ([] : List ((Int × (Int × Unit))))) + (List.length (List.drop (0 : Nat) (List.take (Int.toNat v7) v0)))))
                (cond (Go.Rf.lenOK ((List.length (([] : List ((Int × (Int × Unit)))) ++ (List.drop (0 : Nat) (List.take (Int.toNat v7) v0)))) + (List.length ((v1, (v2, ())) :: ([] : List ((Int × (Int × Unit))))))))
                  (cond (Go.Rf.lenOK ((List.length ((([] : List ((Int × (Int × Unit)))) ++ (List.drop (0 : Nat) (List.take (Int.toNat v7) v0))) ++ ((v1, (v2, ())) :: ([] : List ((Int × (Int × Unit))))))) + (List.length (List.drop (Int.toNat v7) (List.take (List.length v0) v0)))))
                    (some ((((([] : List ((Int × (Int × Unit)))) ++ (List.drop (0 : Nat) (List.take (Int.toNat v7) v0))) ++ ((v1, (v2, ())) :: ([] : List ((Int × (Int × Unit)))))) ++ (List.drop (Int.toNat v7) (List.take (List.length v0) v0))), ()))
                    (none))
                  (none))
                (none))
              (none))
            (none)))
        (none))
      (none))
    (none))) := by kernel_rfl
/-- loop.example/g00548/spec.l10Do -/
theorem q_spec_l10Do (R : Run EE) (L : Loops) (x0 : List ((Int × (Int × Unit)))) (x1 : d14) : @Eq (Option (d19)) (bodyK EE R L 48 [⟨(.sl t0), x0⟩, ⟨t1, x1⟩]) (
  (c_spec_l10Find R x0 x1.2.1).bind fun r0 =>
  cond (decide ((0 : Int) ≤ r0.1))
  (cond (Go.Rf.nonneg r0.1)
    (cond (Nat.blt (Int.toNat r0.1) (List.length x0))
      (cond (Go.Rf.eqI x1.1 (1 : Int))
        ((c_spec_l01Bit R (decide ((0 : Int) ≤ r0.1))).bind fun r1 =>
          some (x0, ((r1.1 :: ((List.getD x0 (Int.toNat r0.1) ((0 : Int), ((0 : Int), ()))).2.1 :: ([] : List (Int)))), ((0 : Int), ()))))
        (cond (Go.Rf.eqI x1.1 (3 : Int))
          (cond (decide ((0 : Int) ≤ r0.1))
            (cond (Go.Rf.nonneg r0.1)
              (cond (Nat.ble (Int.toNat r0.1) (List.length x0))
                (cond (Go.Rf.lenOK ((List.length ([] : List ((Int × (Int × Unit))))) + (List.length (List.drop (0 : Nat) (List.take (Int.toNat r0.1) x0)))))
                  (cond (Go.Rf.nonneg (Go.IntKind.wrap .i64 (r0.1 + (1 : Int))))
                    (cond (Nat.ble (List.length x0) (List.length x0))
                      (cond (Nat.ble (Int.toNat (Go.IntKind.wrap .i64 (r0.1 + (1 : Int)))) (List.length x0))
                        (cond (Go.Rf.lenOK ((List.length (([] : List ((Int × (Int × Unit)))) ++ (List.drop (0 : Nat) (List.take (Int.toNat r0.1) x0)))) + (List.length (List.drop (Int.toNat (Go.IntKind.wrap .i64 (r0.1 + (1 : Int)))) (List.take (List.length x0) x0)))))
                          ((c_spec_l01Bit R (decide ((0 : Int) ≤ r0.1))).bind fun r1 =>
                            some (((([] : List ((Int × (Int × Unit)))) ++ (List.drop (0 : Nat) (List.take (Int.toNat r0.1) x0))) ++ (List.drop (Int.toNat (Go.IntKind.wrap .i64 (r0.1 + (1 : Int)))) (List.take (List.length x0) x0))), ((r1.1 :: ([] : List (Int))), ((0 : Int), ()))))
                          (none))
                        (none))
                      (none))
                    (none))
                  (none))
                (none))
              (none))
            ((c_spec_l01Bit R (decide ((0 : Int) ≤ r0.1))).bind fun r1 =>
              some (x0, ((r1.1 :: ([] : List (Int))), ((0 : Int), ())))))
          (cond (Go.Rf.eqI x1.1 (4 : Int))
            (cond (decide (r0.1 < (0 : Int)))
              (some (x0, (([] : List (Int)), ((14 : Int), ()))))
              (cond (!(Go.Rf.eqI (List.getD x0 (Int.toNat r0.1) ((0 : Int), ((0 : Int), ()))).2.1 x1.2.2.1))
                (some (x0, (([] : List (Int)), ((14 : Int), ()))))
                (some (x0, (([] : List (Int)), ((0 : Int), ()))))))
            (cond (Go.Rf.eqI x1.1 (6 : Int))
              (lp_spec_l10Do_0 R L x0 x1 x1 ([] : List ((Int × (Int × Unit)))) ([] : List (Int)) (0 : Int) r0.1 (List.getD x0 (Int.toNat r0.1) ((0 : Int), ((0 : Int), ()))).2.1 ([] : List (Int)) (0 : Int) x1.1)
              (cond (decide (r0.1 < (0 : Int)))
                (cond (Go.Rf.eqI (((List.length x0) : Nat) : Int) (11 : Int))
                  (some (x0, (([] : List (Int)), ((7 : Int), ()))))
                  (cond (Go.Rf.eqI x1.1 (2 : Int))
                    ((c_spec_l10Put R x0 x1.2.1 x1.2.2.1).bind fun r1 =>
                      some (r1.1, (([] : List (Int)), ((0 : Int), ()))))
                    (cond (decide ((999999 : Int) < (Go.IntKind.wrap .i64 ((List.getD x0 (Int.toNat r0.1) ((0 : Int), ((0 : Int), ()))).2.1 + x1.2.2.1))))
                      (some (x0, (([] : List (Int)), ((4 : Int), ()))))
                      ((c_spec_l10Put R x0 x1.2.1 (Go.IntKind.wrap .i64 ((List.getD x0 (Int.toNat r0.1) ((0 : Int), ((0 : Int), ()))).2.1 + x1.2.2.1))).bind fun r1 =>
                        some (r1.1, (((Go.IntKind.wrap .i64 ((List.getD x0 (Int.toNat r0.1) ((0 : Int), ((0 : Int), ()))).2.1 + x1.2.2.1)) :: ([] : List (Int))), ((0 : Int), ())))))))
                (cond (Go.Rf.eqI x1.1 (2 : Int))
                  ((c_spec_l10Put R x0 x1.2.1 x1.2.2.1).bind fun r1 =>
                    some (r1.1, (([] : List (Int)), ((0 : Int), ()))))
                  (cond (decide ((999999 : Int) < (Go.IntKind.wrap .i64 ((List.getD x0 (Int.toNat r0.1) ((0 : Int), ((0 : Int), ()))).2.1 + x1.2.2.1))))
                    (some (x0, (([] : List (Int)), ((4 : Int), ()))))
                    ((c_spec_l10Put R x0 x1.2.1 (Go.IntKind.wrap .i64 ((List.getD x0 (Int.toNat r0.1) ((0 : Int), ((0 : Int), ()))).2.1 + x1.2.2.1))).bind fun r1 =>
                      some (r1.1, (((Go.IntKind.wrap .i64 ((List.getD x0 (Int.toNat r0.1) ((0 : Int), ((0 : Int), ()))).2.1 + x1.2.2.1)) :: ([] : List (Int))), ((0 : Int), ())))))))))))
      (none))
    (none))
  (cond (Go.Rf.eqI x1.1 (1 : Int))
    ((c_spec_l01Bit R (decide ((0 : Int) ≤ r0.1))).bind fun r1 =>
      some (x0, ((r1.1 :: ((0 : Int) :: ([] : List (Int)))), ((0 : Int), ()))))
    (cond (Go.Rf.eqI x1.1 (3 : Int))
      (cond (decide ((0 : Int) ≤ r0.1))
        (cond (Go.Rf.nonneg r0.1)
          (cond (Nat.ble (Int.toNat r0.1) (List.length x0))
            (cond (Go.Rf.lenOK ((List.length ([] : List ((Int × (Int × Unit))))) + (List.length (List.drop (0 : Nat) (List.take (Int.toNat r0.1) x0)))))
              (cond (Go.Rf.nonneg (Go.IntKind.wrap .i64 (r0.1 + (1 : Int))))
                (cond (Nat.ble (List.length x0) (List.length x0))
                  (cond (Nat.ble (Int.toNat (Go.IntKind.wrap .i64 (r0.1 + (1 : Int)))) (List.length x0))
                    (cond (Go.Rf.lenOK ((List.length (([] : List ((Int × (Int × Unit)))) ++ (List.drop (0 : Nat) (List.take (Int.toNat r0.1) x0)))) + (List.length (List.drop (Int.toNat (Go.IntKind.wrap .i64 (r0.1 + (1 : Int)))) (List.take (List.length x0) x0)))))
                      ((c_spec_l01Bit R (decide ((0 : Int) ≤ r0.1))).bind fun r1 =>
                        some (((([] : List ((Int × (Int × Unit)))) ++ (List.drop (0 : Nat) (List.take (Int.toNat r0.1) x0))) ++ (List.drop (Int.toNat (Go.IntKind.wrap .i64 (r0.1 + (1 : Int)))) (List.take (List.length x0) x0))), ((r1.1 :: ([] : List (Int))), ((0 : Int), ()))))
                      (none))
                    (none))
                  (none))
                (none))
              (none))
            (none))
          (none))
        ((c_spec_l01Bit R (decide ((0 : Int) ≤ r0.1))).bind fun r1 =>
          some (x0, ((r1.1 :: ([] : List (Int))), ((0 : Int), ())))))
      (cond (Go.Rf.eqI x1.1 (4 : Int))
        (cond (decide (r0.1 < (0 : Int)))
          (some (x0, (([] : List (Int)), ((14 : Int), ()))))
          (cond (!(Go.Rf.eqI (0 : Int) x1.2.2.1))
            (some (x0, (([] : List (Int)), ((14 : Int), ()))))
            (some (x0, (([] : List (Int)), ((0 : Int), ()))))))
        (cond (Go.Rf.eqI x1.1 (6 : Int))
          (lp_spec_l10Do_0 R L x0 x1 x1 ([] : List ((Int × (Int × Unit)))) ([] : List (Int)) (0 : Int) r0.1 (0 : Int) ([] : List (Int)) (0 : Int) x1.1)
          (cond (decide (r0.1 < (0 : Int)))
            (cond (Go.Rf.eqI (((List.length x0) : Nat) : Int) (11 : Int))
              (some (x0, (([] : List (Int)), ((7 : Int), ()))))
              (cond (Go.Rf.eqI x1.1 (2 : Int))
                ((c_spec_l10Put R x0 x1.2.1 x1.2.2.1).bind fun r1 =>
                  some (r1.1, (([] : List (Int)), ((0 : Int), ()))))
                (cond (decide ((999999 : Int) < (Go.IntKind.wrap .i64 ((0 : Int) + x1.2.2.1))))
                  (some (x0, (([] : List (Int)), ((4 : Int), ()))))
                  ((c_spec_l10Put R x0 x1.2.1 (Go.IntKind.wrap .i64 ((0 : Int) + x1.2.2.1))).bind fun r1 =>
                    some (r1.1, (((Go.IntKind.wrap .i64 ((0 : Int) + x1.2.2.1)) :: ([] : List (Int))), ((0 : Int), ())))))))
            (cond (Go.Rf.eqI x1.1 (2 : Int))
              ((c_spec_l10Put R x0 x1.2.1 x1.2.2.1).bind fun r1 =>
                some (r1.1, (([] : List (Int)), ((0 : Int), ()))))
              (cond (decide ((999999 : Int) < (Go.IntKind.wrap .i64 ((0 : Int) + x1.2.2.1))))
                (some (x0, (([] : List (Int)), ((4 : Int), ()))))
                ((c_spec_l10Put R x0 x1.2.1 (Go.IntKind.wrap .i64 ((0 : Int) + x1.2.2.1))).bind fun r1 =>
                  some (r1.1, (((Go.IntKind.wrap .i64 ((0 : Int) + x1.2.2.1)) :: ([] : List (Int))), ((0 : Int), ())))))))))))) := by kernel_rfl
theorem q_spec_l10Do_0 (R : Run EE) (L : Loops) (v0 : List ((Int × (Int × Unit)))) (v1 : d14) (v3 : d14) (v4 : List ((Int × (Int × Unit)))) (v5 : List (Int)) (v6 : Int) (v7 : Int) (v8 : Int) (v9 : List (Int)) (v10 : Int) (v23 : Int) : @Eq (Option (d19)) (from_ EE R L 48 Go.Proofs.Try.f48 [1, 1, 1, 1, 0, 1, 0, 1, 1, 1, 1, 1, 1, 1, 0, 1, 0, 1, 0, 0] (mk 153 [(0, .dat ⟨(.sl t0), v0, .sh⟩), (1, .dat ⟨t1, v1, .sh⟩), (3, .dat ⟨(.ptr t1), v3, (.own .sh)⟩), (4, .dat ⟨(.sl t0), v4, (.own .sh)⟩), (5, .dat ⟨(.sl (.int .i64)), v5, (.own .sh)⟩), (6, .dat ⟨(.int .i64), v6, .sh⟩), (7, .dat ⟨(.int .i64), v7, .sh⟩), (8, .dat ⟨(.int .i64), v8, .sh⟩), (9, .dat ⟨(.sl (.int .i64)), v9, (.own .sh)⟩), (10, .dat ⟨(.int .i64), v10, .sh⟩), (23, .dat ⟨(.int .i64), v23, .sh⟩)])) (
  cond (decide (v10 < (((List.length v0) : Nat) : Int)))
  (cond (decide ((((List.length v9) : Nat) : Int) < (Go.IntKind.wrap .i64 ((2 : Int) * v3.2.2.1))))
    (cond (Go.Rf.nonneg v10)
      (cond (Nat.blt (Int.toNat v10) (List.length v0))
        (cond (decide (v3.2.1 ≤ (List.getD v0 (Int.toNat v10) ((0 : Int), ((0 : Int), ()))).1))
          (cond (Go.Rf.nonneg v10)
            (cond (Nat.blt (Int.toNat v10) (List.length v0))
              (cond (Go.Rf.nonneg v10)
                (cond (Nat.blt (Int.toNat v10) (List.length v0))
                  (cond (Go.Rf.lenOK ((List.length v9) + (List.length ((List.getD v0 (Int.toNat v10) ((0 : Int), ((0 : Int), ()))).1 :: ((List.getD v0 (Int.toNat v10) ((0 : Int), ((0 : Int), ()))).2.1 :: ([] : List (Int)))))))
                    (lp_spec_l10Do_0 R L v0 v1 v3 v4 v5 v6 v7 v8 (v9 ++ ((List.getD v0 (Int.toNat v10) ((0 : Int), ((0 : Int), ()))).1 :: ((List.getD v0 (Int.toNat v10) ((0 : Int), ((0 : Int), ()))).2.1 :: ([] : List (Int))))) (Go.IntKind.wrap .i64 (v10 + (1 : Int))) v23)
                    (none))
                  (none))
                (none))
              (none))
            (none))
          (lp_spec_l10Do_0 R L v0 v1 v3 v4 v5 v6 v7 v8 v9 (Go.IntKind.wrap .i64 (v10 + (1 : Int))) v23))
        (none))
      (none))
    (lp_spec_l10Do_1 R L v0 v1 v3 v4 v5 v6 v7 v8 v9 v10 v23))
  (lp_spec_l10Do_1 R L v0 v1 v3 v4 v5 v6 v7 v8 v9 v10 v23)) := by kernel_rfl
theorem q_spec_l10Do_1 (R : Run EE) (L : Loops) (v0 : List ((Int × (Int × Unit)))) (v1 : d14) (v3 : d14) (v4 : List ((Int × (Int × Unit)))) (v5 : List (Int)) (v6 : Int) (v7 : Int) (v8 : Int) (v9 : List (Int)) (v10 : Int) (v23 : Int) : @Eq (Option (d19)) (from_ EE R L 48 Go.Proofs.Try.f48 [1, 1, 1, 1, 0, 1, 0, 1, 1, 1, 1, 1, 1, 1, 0, 1, 1, 0, 0, 0] (mk 153 [(0, .dat ⟨(.sl t0), v0, .sh⟩), (1, .dat ⟨t1, v1, .sh⟩), (3, .dat ⟨(.ptr t1), v3, (.own .sh)⟩), (4, .dat ⟨(.sl t0), v4, (.own .sh)⟩), (5, .dat ⟨(.sl (.int .i64)), v5, (.own .sh)⟩), (6, .dat ⟨(.int .i64), v6, .sh⟩), (7, .dat ⟨(.int .i64), v7, .sh⟩), (8, .dat ⟨(.int .i64), v8, .sh⟩), (9, .dat ⟨(.sl (.int .i64)), v9, (.own .sh)⟩), (10, .dat ⟨(.int .i64), v10, .sh⟩), (23, .dat ⟨(.int .i64), v23, .sh⟩)])) (
  cond (decide ((((List.length v9) : Nat) : Int) < (Go.IntKind.wrap .i64 ((2 : Int) * v3.2.2.1))))
  (cond (Go.Rf.lenOK ((List.length v9) + (List.length ((0 : Int) :: ([] : List (Int))))))
    (lp_spec_l10Do_1 R L v0 v1 v3 v4 v5 v6 v7 v8 (v9 ++ ((0 : Int) :: ([] : List (Int)))) v10 v23)
    (none))
  (some (v0, (v9, ((0 : Int), ()))))) := by kernel_rfl
/-- loop.example/g00548/spec.l10Txn -/
theorem q_spec_l10Txn (R : Run EE) (L : Loops) (x0 : List ((Int × (Int × Unit)))) (x1 : (List (d14) × Unit)) : @Eq (Option (d21)) (bodyK EE R L 37 [⟨(.sl t0), x0⟩, ⟨(.pair (.sl t1) .unit), x1⟩]) (
  lp_spec_l10Txn_0 R L x0 x1 x1 ([] : List ((Int × (Int × Unit)))) ((0 : Int), (([] : List (Int)), ())) x0 ((0 : Int), (([] : List (Int)), ())) (0 : Int)) := by kernel_rfl
theorem q_spec_l10Txn_0 (R : Run EE) (L : Loops) (v0 : List ((Int × (Int × Unit)))) (v1 : (List (d14) × Unit)) (v3 : (List (d14) × Unit)) (v4 : List ((Int × (Int × Unit)))) (v5 : d20) (v6 : List ((Int × (Int × Unit)))) (v7 : d20) (v8 : Int) : @Eq (Option (d21)) (from_ EE R L 37 Go.Proofs.Try.f37 [1, 1, 1, 0, 1, 0, 0] (mk 47 [(0, .dat ⟨(.sl t0), v0, .sh⟩), (1, .dat ⟨(.pair (.sl t1) .unit), v1, .sh⟩), (3, .dat ⟨(.ptr (.pair (.sl t1) .unit)), v3, (.own .sh)⟩), (4, .dat ⟨(.sl t0), v4, (.own .sh)⟩), (5, .dat ⟨(.ptr t5), v5, (.own (.pr .sh (.pr (.own .sh) .sh)))⟩), (6, .dat ⟨(.sl t0), v6, .sh⟩), (7, .dat ⟨(.ptr t5), v7, (.own (.pr .sh (.pr (.own .sh) .sh)))⟩), (8, .dat ⟨(.int .i64), v8, .sh⟩)])) (
  cond (decide (v8 < (((List.length v3.1) : Nat) : Int)))
  (cond (Go.Rf.nonneg v8)
    (cond (Nat.blt (Int.toNat v8) (List.length v3.1))
      ((c_spec_l10Do R v6 (List.getD v3.1 (Int.toNat v8) ((0 : Int), ((0 : Int), ((0 : Int), ()))))).bind fun r0 =>
        cond (!(Go.Rf.eqI r0.2.2.1 (0 : Int)))
        (some (v0, ((r0.2.2.1, (([] : List (Int)), ())), ())))
        (cond (Go.Rf.lenOK ((List.length v7.2.1) + (List.length r0.2.1)))
          (lp_spec_l10Txn_1 R L v0 v1 v3 v4 v5 r0.1 (v7.1, ((v7.2.1 ++ r0.2.1), v7.2.2)) (Go.IntKind.wrap .i64 (v8 + (1 : Int))) r0.1 r0.2.1 r0.2.2.1)
          (none)))
      (none))
    (none))
  (some (v6, (v7, ())))) := by kernel_rfl
theorem q_spec_l10Txn_1 (R : Run EE) (L : Loops) (v0 : List ((Int × (Int × Unit)))) (v1 : (List (d14) × Unit)) (v3 : (List (d14) × Unit)) (v4 : List ((Int × (Int × Unit)))) (v5 : d20) (v6 : List ((Int × (Int × Unit)))) (v7 : d20) (v8 : Int) (v9 : List ((Int × (Int × Unit)))) (v10 : List (Int)) (v11 : Int) : @Eq (Option (d21)) (from_ EE R L 37 Go.Proofs.Try.f37 [1, 1, 1, 0, 1, 0, 0] (mk 47 [(0, .dat ⟨(.sl t0), v0, .sh⟩), (1, .dat ⟨(.pair (.sl t1) .unit), v1, .sh⟩), (3, .dat ⟨(.ptr (.pair (.sl t1) .unit)), v3, (.own .sh)⟩), (4, .dat ⟨(.sl t0), v4, (.own .sh)⟩), (5, .dat ⟨(.ptr t5), v5, (.own (.pr .sh (.pr (.own .sh) .sh)))⟩), (6, .dat ⟨(.sl t0), v6, .sh⟩), (7, .dat ⟨(.ptr t5), v7, (.own (.pr .sh (.pr (.own .sh) .sh)))⟩), (8, .dat ⟨(.int .i64), v8, .sh⟩), (9, .dat ⟨(.sl t0), v9, .sh⟩), (10, .dat ⟨(.sl (.int .i64)), v10, .sh⟩), (11, .dat ⟨(.int .i64), v11, .sh⟩)])) (
  cond (decide (v8 < (((List.length v3.1) : Nat) : Int)))
  (cond (Go.Rf.nonneg v8)
    (cond (Nat.blt (Int.toNat v8) (List.length v3.1))
      ((c_spec_l10Do R v6 (List.getD v3.1 (Int.toNat v8) ((0 : Int), ((0 : Int), ((0 : Int), ()))))).bind fun r0 =>
        cond (!(Go.Rf.eqI r0.2.2.1 (0 : Int)))
        (some (v0, ((r0.2.2.1, (([] : List (Int)), ())), ())))
        (cond (Go.Rf.lenOK ((List.length v7.2.1) + (List.length r0.2.1)))
          (lp_spec_l10Txn_1 R L v0 v1 v3 v4 v5 r0.1 (v7.1, ((v7.2.1 ++ r0.2.1), v7.2.2)) (Go.IntKind.wrap .i64 (v8 + (1 : Int))) r0.1 r0.2.1 r0.2.2.1)
          (none)))
      (none))
    (none))
  (some (v6, (v7, ())))) := by kernel_rfl
/-- loop.example/g00548/spec.l10Batch -/
theorem q_spec_l10Batch (R : Run EE) (L : Loops) (x0 : List ((Int × (Int × Unit)))) (x1 : List ((List (d14) × Unit))) : @Eq (Option (d22)) (bodyK EE R L 21 [⟨(.sl t0), x0⟩, ⟨(.sl (.pair (.sl t1) .unit)), x1⟩]) (
  lp_spec_l10Batch_0 R L x0 x1 ([] : List ((Int × (Int × Unit)))) ([] : List (d20)) ([] : List (d20)) (0 : Int)) := by kernel_rfl
theorem q_spec_l10Batch_0 (R : Run EE) (L : Loops) (v0 : List ((Int × (Int × Unit)))) (v1 : List ((List (d14) × Unit))) (v4 : List ((Int × (Int × Unit)))) (v5 : List (d20)) (v6 : List (d20)) (v7 : Int) : @Eq (Option (d22)) (from_ EE R L 21 Go.Proofs.Try.f21 [1, 1, 0, 1, 0, 0] (mk 33 [(0, .dat ⟨(.sl t0), v0, .sh⟩), (1, .dat ⟨(.sl (.pair (.sl t1) .unit)), v1, .sh⟩), (4, .dat ⟨(.sl t0), v4, (.own .sh)⟩), (5, .dat ⟨(.sl t5), v5, (.own (.pr .sh (.pr (.own .sh) .sh)))⟩), (6, .dat ⟨(.sl t5), v6, (.own (.pr .sh (.pr (.own .sh) .sh)))⟩), (7, .dat ⟨(.int .i64), v7, .sh⟩)])) (
  cond (decide (v7 < (((List.length v1) : Nat) : Int)))
  (cond (Go.Rf.nonneg v7)
    (cond (Nat.blt (Int.toNat v7) (List.length v1))
      ((c_spec_l10Txn R v0 (List.getD v1 (Int.toNat v7) (([] : List (d14)), ()))).bind fun r0 =>
        cond (Go.Rf.lenOK ((List.length v6) + (List.length (r0.2.1 :: ([] : List (d20))))))
        (lp_spec_l10Batch_1 R L r0.1 v1 v4 v5 (v6 ++ (r0.2.1 :: ([] : List (d20)))) (Go.IntKind.wrap .i64 (v7 + (1 : Int))) r0.1 r0.2.1)
        (none))
      (none))
    (none))
  (some (v0, (v6, ())))) := by kernel_rfl
theorem q_spec_l10Batch_1 (R : Run EE) (L : Loops) (v0 : List ((Int × (Int × Unit)))) (v1 : List ((List (d14) × Unit))) (v4 : List ((Int × (Int × Unit)))) (v5 : List (d20)) (v6 : List (d20)) (v7 : Int) (v8 : List ((Int × (Int × Unit)))) (v9 : d20) : @Eq (Option (d22)) (from_ EE R L 21 Go.Proofs.Try.f21 [1, 1, 0, 1, 0, 0] (mk 33 [(0, .dat ⟨(.sl t0), v0, .sh⟩), (1, .dat ⟨(.sl (.pair (.sl t1) .unit)), v1, .sh⟩), (4, .dat ⟨(.sl t0), v4, (.own .sh)⟩), (5, .dat ⟨(.sl t5), v5, (.own (.pr .sh (.pr (.own .sh) .sh)))⟩), (6, .dat ⟨(.sl t5), v6, (.own (.pr .sh (.pr (.own .sh) .sh)))⟩), (7, .dat ⟨(.int .i64), v7, .sh⟩), (8, .dat ⟨(.sl t0), v8, .sh⟩), (9, .dat ⟨(.ptr t5), v9, (.own .gone)⟩)])) (
  cond (decide (v7 < (((List.length v1) : Nat) : Int)))
  (cond (Go.Rf.nonneg v7)
    (cond (Nat.blt (Int.toNat v7) (List.length v1))
      ((c_spec_l10Txn R v0 (List.getD v1 (Int.toNat v7) (([] : List (d14)), ()))).bind fun r0 =>
        cond (Go.Rf.lenOK ((List.length v6) + (List.length (r0.2.1 :: ([] : List (d20))))))
        (lp_spec_l10Batch_1 R L r0.1 v1 v4 v5 (v6 ++ (r0.2.1 :: ([] : List (d20)))) (Go.IntKind.wrap .i64 (v7 + (1 : Int))) r0.1 r0.2.1)
        (none))
      (none))
    (none))
  (some (v0, (v6, ())))) := by kernel_rfl
/-- loop.example/g00548/spec.MapBatch -/
theorem q_spec_MapBatch (R : Run EE) (L : Loops) (x0 : List ((Int × (Int × Unit)))) (x1 : List ((List (d14) × Unit))) : @Eq (Option (d23)) (bodyK EE R L 6 [⟨(.sl t0), x0⟩, ⟨(.sl (.pair (.sl t1) .unit)), x1⟩]) (
  cond (decide ((4096 : Int) < (((List.length x0) : Nat) : Int)))
  (some (([] : List ((Int × (Int × Unit)))), (([] : List (d20)), ((2 : Int), ()))))
  (cond (decide ((4096 : Int) < (((List.length x1) : Nat) : Int)))
    (some (([] : List ((Int × (Int × Unit)))), (([] : List (d20)), ((2 : Int), ()))))
    ((c_spec_MapOK R x0).bind fun r0 =>
      cond (!r0.1)
      (some (([] : List ((Int × (Int × Unit)))), (([] : List (d20)), ((1 : Int), ()))))
      ((c_spec_BatchOK R x1).bind fun r1 =>
        cond (!r1.1)
        (some (([] : List ((Int × (Int × Unit)))), (([] : List (d20)), ((1 : Int), ()))))
        ((c_spec_l10Batch R x0 x1).bind fun r2 =>
          cond (Go.Rf.lenOK ((List.length ([] : List ((Int × (Int × Unit))))) + (List.length r2.1)))
          (some ((([] : List ((Int × (Int × Unit)))) ++ r2.1), (r2.2.1, ((0 : Int), ()))))
          (none)))))) := by kernel_rfl
/-- loop.example/g00548/impl.within -/
theorem q_impl_within (R : Run EE) (L : Loops) (x0 : Int) (x1 : Int) (x2 : Int) : @Eq (Option ((Bool × Unit))) (bodyK EE R L 41 [⟨(.int .i64), x0⟩, ⟨(.int .i64), x1⟩, ⟨(.int .i64), x2⟩]) (
  cond (decide (x1 ≤ x0))
  (some ((decide (x0 ≤ x2)), ()))
  (some (false, ()))) := by kernel_rfl
/-- loop.example/g00548/impl.isKey -/
theorem q_impl_isKey (R : Run EE) (L : Loops) (x0 : Int) : @Eq (Option ((Bool × Unit))) (bodyK EE R L 39 [⟨(.int .i64), x0⟩]) (
  (c_impl_within R x0 (1 : Int) (9999 : Int)).bind fun r0 =>
  some (r0.1, ())) := by kernel_rfl
/-- loop.example/g00548/impl.isValue -/
theorem q_impl_isValue (R : Run EE) (L : Loops) (x0 : Int) : @Eq (Option ((Bool × Unit))) (bodyK EE R L 40 [⟨(.int .i64), x0⟩]) (
  (c_impl_within R x0 (0 : Int) (999999 : Int)).bind fun r0 =>
  some (r0.1, ())) := by kernel_rfl
/-- loop.example/g00548/impl.MapOK -/
theorem q_impl_MapOK (R : Run EE) (L : Loops) (x0 : List ((Int × (Int × Unit)))) : @Eq (Option ((Bool × Unit))) (bodyK EE R L 24 [⟨(.sl t0), x0⟩]) (
  lp_impl_MapOK_0 R L x0 false x0 (((List.length x0) : Nat) : Int) (0 : Int)) := by kernel_rfl
theorem q_impl_MapOK_0 (R : Run EE) (L : Loops) (v0 : List ((Int × (Int × Unit)))) (v2 : Bool) (v5 : List ((Int × (Int × Unit)))) (v6 : Int) (v7 : Int) : @Eq (Option ((Bool × Unit))) (from_ EE R L 24 Go.Proofs.Try.f24 [1, 0, 1, 0, 0] (mk 41 [(0, .dat ⟨(.sl t0), v0, .sh⟩), (2, .dat ⟨.bool, v2, .sh⟩), (5, .dat ⟨(.sl t0), v5, .sh⟩), (6, .dat ⟨(.int .i64), v6, .sh⟩), (7, .dat ⟨(.int .i64), v7, .sh⟩)])) (
  cond (decide (v7 < v6))
  (cond (Go.Rf.nonneg v7)
    (cond (Nat.blt (Int.toNat v7) (List.length v5))
      ((c_impl_isKey R (List.getD v5 (Int.toNat v7) ((0 : Int), ((0 : Int), ()))).1).bind fun r0 =>
        cond (!r0.1)
        (some (false, ()))
        ((c_impl_isValue R (List.getD v5 (Int.toNat v7) ((0 : Int), ((0 : Int), ()))).2.1).bind fun r1 =>
          cond (!r1.1)
          (some (false, ()))
          (cond (decide ((0 : Int) < v7))
            (cond (Go.Rf.nonneg (Go.IntKind.wrap .i64 (v7 - (1 : Int))))
              (cond (Nat.blt (Int.toNat (Go.IntKind.wrap .i64 (v7 - (1 : Int)))) (List.length v0))
                (cond (decide ((List.getD v5 (Int.toNat v7) ((0 : Int), ((0 : Int), ()))).1 ≤ (List.getD v0 (Int.toNat (Go.IntKind.wrap .i64 (v7 - (1 : Int)))) ((0 : Int), ((0 : Int), ()))).1))
                  (some (false, ()))
                  (lp_impl_MapOK_1 R L v0 v2 v7 (List.getD v5 (Int.toNat v7) ((0 : Int), ((0 : Int), ()))) v5 v6 (Go.IntKind.wrap .i64 (v7 + (1 : Int)))))
                (none))
              (none))
            (lp_impl_MapOK_1 R L v0 v2 v7 (List.getD v5 (Int.toNat v7) ((0 : Int), ((0 : Int), ()))) v5 v6 (Go.IntKind.wrap .i64 (v7 + (1 : Int)))))))
      (none))
    (none))
  (some ((decide ((((List.length v0) : Nat) : Int) ≤ (11 : Int))), ()))) := by kernel_rfl
theorem q_impl_MapOK_1 (R : Run EE) (L : Loops) (v0 : List ((Int × (Int × Unit)))) (v2 : Bool) (v3 : Int) (v4 : (Int × (Int × Unit))) (v5 : List ((Int × (Int × Unit)))) (v6 : Int) (v7 : Int) : @Eq (Option ((Bool × Unit))) (from_ EE R L 24 Go.Proofs.Try.f24 [1, 0, 1, 0, 0] (mk 41 [(0, .dat ⟨(.sl t0), v0, .sh⟩), (2, .dat ⟨.bool, v2, .sh⟩), (3, .dat ⟨(.int .i64), v3, .sh⟩), (4, .dat ⟨(.ptr t0), v4, (.own .sh)⟩), (5, .dat ⟨(.sl t0), v5, .sh⟩), (6, .dat ⟨(.int .i64), v6, .sh⟩), (7, .dat ⟨(.int .i64), v7, .sh⟩)])) (
  cond (decide (v7 < v6))
  (cond (Go.Rf.nonneg v7)
    (cond (Nat.blt (Int.toNat v7) (List.length v5))
      ((c_impl_isKey R (List.getD v5 (Int.toNat v7) ((0 : Int), ((0 : Int), ()))).1).bind fun r0 =>
        cond (!r0.1)
        (some (false, ()))
        ((c_impl_isValue R (List.getD v5 (Int.toNat v7) ((0 : Int), ((0 : Int), ()))).2.1).bind fun r1 =>
          cond (!r1.1)
          (some (false, ()))
          (cond (decide ((0 : Int) < v7))
            (cond (Go.Rf.nonneg (Go.IntKind.wrap .i64 (v7 - (1 : Int))))
              (cond (Nat.blt (Int.toNat (Go.IntKind.wrap .i64 (v7 - (1 : Int)))) (List.length v0))
                (cond (decide ((List.getD v5 (Int.toNat v7) ((0 : Int), ((0 : Int), ()))).1 ≤ (List.getD v0 (Int.toNat (Go.IntKind.wrap .i64 (v7 - (1 : Int)))) ((0 : Int), ((0 : Int), ()))).1))
                  (some (false, ()))
                  (lp_impl_MapOK_1 R L v0 v2 v7 (List.getD v5 (Int.toNat v7) ((0 : Int), ((0 : Int), ()))) v5 v6 (Go.IntKind.wrap .i64 (v7 + (1 : Int)))))
                (none))
              (none))
            (lp_impl_MapOK_1 R L v0 v2 v7 (List.getD v5 (Int.toNat v7) ((0 : Int), ((0 : Int), ()))) v5 v6 (Go.IntKind.wrap .i64 (v7 + (1 : Int)))))))
      (none))
    (none))
  (some ((decide ((((List.length v0) : Nat) : Int) ≤ (11 : Int))), ()))) := by kernel_rfl
/-- loop.example/g00548/impl.areAll[loop.example/g00548/impl.Txn]$1 -/
theorem q_impl_areAll_impl_Txn__1 (R : Run EE) (L : Loops) (x0 : (List (d14) × Unit)) (x1 : FnVal) : @Eq (Option ((Bool × Unit))) (bodyK EE R L 51 [⟨(.pair (.sl t1) .unit), x0⟩, ⟨(.ptr .fn), x1⟩]) (
  (callVB EE R x1 [⟨(.pair (.sl t1) .unit), (x0 : (List (d14) × Unit))⟩]).bind fun (r0 : Bool) =>
  some ((!r0), ())) := by kernel_rfl
/-- slices.IndexFunc[[]loop.example/g00548/impl.Txn,loop.example/g00548/impl.Txn] -/
theorem q_slices_IndexFunc___impl_Txn_impl_Txn_ (R : Run EE) (L : Loops) (x0 : List ((List (d14) × Unit))) (x1 : FnVal) : @Eq (Option ((Int × Unit))) (bodyK EE R L 59 [⟨(.sl (.pair (.sl t1) .unit)), x0⟩, ⟨.fn, x1⟩]) (
  lp_slices_IndexFunc___impl_Txn_impl_Txn__0 R L x0 x1 (0 : Int) (((List.length x0) : Nat) : Int) (0 : Int)) := by kernel_rfl
theorem q_slices_IndexFunc___impl_Txn_impl_Txn__0 (R : Run EE) (L : Loops) (v0 : List ((List (d14) × Unit))) (v1 : FnVal) (v4 : Int) (v7 : Int) (v8 : Int) : @Eq (Option ((Int × Unit))) (from_ EE R L 59 Go.Proofs.Try.f59 [1, 0, 1, 0, 0] (mk 19 [(0, .dat ⟨(.sl (.pair (.sl t1) .unit)), v0, .sh⟩), (1, .dat ⟨.fn, v1, .sh⟩), (4, .dat ⟨(.int .i64), v4, .sh⟩), (7, .dat ⟨(.int .i64), v7, .sh⟩), (8, .dat ⟨(.int .i64), v8, .sh⟩)])) (
  cond (decide (v8 < v7))
  (cond (Go.Rf.nonneg v8)
    (cond (Nat.blt (Int.toNat v8) (List.length v0))
      ((callVB EE R v1 [⟨(.pair (.sl t1) .unit), ((List.getD v0 (Int.toNat v8) (([] : List (d14)), ())) : (List (d14) × Unit))⟩]).bind fun (r0 : Bool) =>
        cond r0
        (some (v8, ()))
        (lp_slices_IndexFunc___impl_Txn_impl_Txn__1 R L v0 v1 v4 v8 v7 (Go.IntKind.wrap .i64 (v8 + (1 : Int)))))
      (none))
    (none))
  (some ((-(1 : Int)), ()))) := by kernel_rfl
theorem q_slices_IndexFunc___impl_Txn_impl_Txn__1 (R : Run EE) (L : Loops) (v0 : List ((List (d14) × Unit))) (v1 : FnVal) (v4 : Int) (v5 : Int) (v7 : Int) (v8 : Int) : @Eq (Option ((Int × Unit))) (from_ EE R L 59 Go.Proofs.Try.f59 [1, 0, 1, 0, 0] (mk 19 [(0, .dat ⟨(.sl (.pair (.sl t1) .unit)), v0, .sh⟩), (1, .dat ⟨.fn, v1, .sh⟩), (4, .dat ⟨(.int .i64), v4, .sh⟩), (5, .dat ⟨(.int .i64), v5, .sh⟩), (7, .dat ⟨(.int .i64), v7, .sh⟩), (8, .dat ⟨(.int .i64), v8, .sh⟩)])) (
  cond (decide (v8 < v7))
  (cond (Go.Rf.nonneg v8)
    (cond (Nat.blt (Int.toNat v8) (List.length v0))
      ((callVB EE R v1 [⟨(.pair (.sl t1) .unit), ((List.getD v0 (Int.toNat v8) (([] : List (d14)), ())) : (List (d14) × Unit))⟩]).bind fun (r0 : Bool) =>
        cond r0
        (some (v8, ()))
        (lp_slices_IndexFunc___impl_Txn_impl_Txn__1 R L v0 v1 v4 v8 v7 (Go.IntKind.wrap .i64 (v8 + (1 : Int)))))
      (none))
    (none))
  (some ((-(1 : Int)), ()))) := by kernel_rfl
/-- slices.ContainsFunc[[]loop.example/g00548/impl.Txn,loop.example/g00548/impl.Txn] -/
theorem q_slices_ContainsFunc___impl_Txn_impl_Txn_ (R : Run EE) (L : Loops) (x0 : List ((List (d14) × Unit))) (x1 : FnVal) : @Eq (Option ((Bool × Unit))) (bodyK EE R L 50 [⟨(.sl (.pair (.sl t1) .unit)), x0⟩, ⟨.fn, x1⟩]) (
  (c_slices_IndexFunc___impl_Txn_impl_Txn_ R x0 x1).bind fun r0 =>
  some ((decide ((0 : Int) ≤ r0.1)), ())) := by kernel_rfl
/-- loop.example/g00548/impl.areAll[loop.example/g00548/impl.Txn] -/
theorem q_impl_areAll_impl_Txn_ (R : Run EE) (L : Loops) (x0 : List ((List (d14) × Unit))) (x1 : FnVal) : @Eq (Option ((Bool × Unit))) (bodyK EE R L 42 [⟨(.sl (.pair (.sl t1) .unit)), x0⟩, ⟨.fn, x1⟩]) (
  (c_slices_ContainsFunc___impl_Txn_impl_Txn_ R x0 (Go.Rf.FnVal.mk (51 : Nat) (Go.Rf.FCaps.fn x1 (Go.Rf.FCaps.nil)))).bind fun r0 =>
  some ((!r0.1), ())) := by kernel_rfl
/-- loop.example/g00548/impl.areAll[loop.example/g00548/impl.Op]$1 -/
theorem q_impl_areAll_impl_Op__1 (R : Run EE) (L : Loops) (x0 : d14) (x1 : FnVal) : @Eq (Option ((Bool × Unit))) (bodyK EE R L 61 [⟨t1, x0⟩, ⟨(.ptr .fn), x1⟩]) (
  (callVB EE R x1 [⟨t1, (x0 : d14)⟩]).bind fun (r0 : Bool) =>
  some ((!r0), ())) := by kernel_rfl
/-- slices.IndexFunc[[]loop.example/g00548/impl.Op,loop.example/g00548/impl.Op] -/
theorem q_slices_IndexFunc___impl_Op_impl_Op_ (R : Run EE) (L : Loops) (x0 : List (d14)) (x1 : FnVal) : @Eq (Option ((Int × Unit))) (bodyK EE R L 67 [⟨(.sl t1), x0⟩, ⟨.fn, x1⟩]) (
  lp_slices_IndexFunc___impl_Op_impl_Op__0 R L x0 x1 (0 : Int) (((List.length x0) : Nat) : Int) (0 : Int)) := by kernel_rfl
theorem q_slices_IndexFunc___impl_Op_impl_Op__0 (R : Run EE) (L : Loops) (v0 : List (d14)) (v1 : FnVal) (v4 : Int) (v7 : Int) (v8 : Int) : @Eq (Option ((Int × Unit))) (from_ EE R L 67 Go.Proofs.Try.f67 [1, 0, 1, 0, 0] (mk 19 [(0, .dat ⟨(.sl t1), v0, .sh⟩), (1, .dat ⟨.fn, v1, .sh⟩), (4, .dat ⟨(.int .i64), v4, .sh⟩), (7, .dat ⟨(.int .i64), v7, .sh⟩), (8, .dat ⟨(.int .i64), v8, .sh⟩)])) (
  cond (decide (v8 < v7))
  (cond (Go.Rf.nonneg v8)
    (cond (Nat.blt (Int.toNat v8) (List.length v0))
      ((callVB EE R v1 [⟨t1, ((List.getD v0 (Int.toNat v8) ((0 : Int), ((0 : Int), ((0 : Int), ())))) : d14)⟩]).bind fun (r0 : Bool) =>
        cond r0
        (some (v8, ()))
        (lp_slices_IndexFunc___impl_Op_impl_Op__1 R L v0 v1 v4 v8 v7 (Go.IntKind.wrap .i64 (v8 + (1 : Int)))))
      (none))
    (none))
  (some ((-(1 : Int)), ()))) := by kernel_rfl
theorem q_slices_IndexFunc___impl_Op_impl_Op__1 (R : Run EE) (L : Loops) (v0 : List (d14)) (v1 : FnVal) (v4 : Int) (v5 : Int) (v7 : Int) (v8 : Int) : @Eq (Option ((Int × Unit))) (from_ EE R L 67 Go.Proofs.Try.f67 [1, 0, 1, 0, 0] (mk 19 [(0, .dat ⟨(.sl t1), v0, .sh⟩), (1, .dat ⟨.fn, v1, .sh⟩), (4, .dat ⟨(.int .i64), v4, .sh⟩), (5, .dat ⟨(.int .i64), v5, .sh⟩), (7, .dat ⟨(.int .i64), v7, .sh⟩), (8, .dat ⟨(.int .i64), v8, .sh⟩)])) (
  cond (decide (v8 < v7))
  (cond (Go.Rf.nonneg v8)
    (cond (Nat.blt (Int.toNat v8) (List.length v0))
      ((callVB EE R v1 [⟨t1, ((List.getD v0 (Int.toNat v8) ((0 : Int), ((0 : Int), ((0 : Int), ())))) : d14)⟩]).bind fun (r0 : Bool) =>
        cond r0
        (some (v8, ()))
        (lp_slices_IndexFunc___impl_Op_impl_Op__1 R L v0 v1 v4 v8 v7 (Go.IntKind.wrap .i64 (v8 + (1 : Int)))))
      (none))
    (none))
  (some ((-(1 : Int)), ()))) := by kernel_rfl
/-- slices.ContainsFunc[[]loop.example/g00548/impl.Op,loop.example/g00548/impl.Op] -/
theorem q_slices_ContainsFunc___impl_Op_impl_Op_ (R : Run EE) (L : Loops) (x0 : List (d14)) (x1 : FnVal) : @Eq (Option ((Bool × Unit))) (bodyK EE R L 60 [⟨(.sl t1), x0⟩, ⟨.fn, x1⟩]) (
  (c_slices_IndexFunc___impl_Op_impl_Op_ R x0 x1).bind fun r0 =>
  some ((decide ((0 : Int) ≤ r0.1)), ())) := by kernel_rfl
/-- loop.example/g00548/impl.areAll[loop.example/g00548/impl.Op] -/
theorem q_impl_areAll_impl_Op_ (R : Run EE) (L : Loops) (x0 : List (d14)) (x1 : FnVal) : @Eq (Option ((Bool × Unit))) (bodyK EE R L 52 [⟨(.sl t1), x0⟩, ⟨.fn, x1⟩]) (
  (c_slices_ContainsFunc___impl_Op_impl_Op_ R x0 (Go.Rf.FnVal.mk (61 : Nat) (Go.Rf.FCaps.fn x1 (Go.Rf.FCaps.nil)))).bind fun r0 =>
  some ((!r0.1), ())) := by kernel_rfl
/-- loop.example/g00548/impl.isBare -/
theorem q_impl_isBare (R : Run EE) (L : Loops) (x0 : Int) : @Eq (Option ((Bool × Unit))) (bodyK EE R L 62 [⟨(.int .i64), x0⟩]) (
  cond (Go.Rf.eqI x0 (1 : Int))
  (some (true, ()))
  (some ((Go.Rf.eqI x0 (3 : Int)), ()))) := by kernel_rfl
/-- loop.example/g00548/impl.OpOK -/
theorem q_impl_OpOK (R : Run EE) (L : Loops) (x0 : d14) : @Eq (Option ((Bool × Unit))) (bodyK EE R L 53 [⟨t1, x0⟩]) (
  (c_impl_within R x0.1 (1 : Int) (6 : Int)).bind fun r0 =>
  cond (!r0.1)
  (some (false, ()))
  ((c_impl_isKey R x0.2.1).bind fun r1 =>
    cond (!r1.1)
    (some (false, ()))
    ((c_impl_isBare R x0.1).bind fun r2 =>
      cond r2.1
      (some ((Go.Rf.eqI x0.2.2.1 (0 : Int)), ()))
      (cond (Go.Rf.eqI x0.1 (6 : Int))
        ((c_impl_within R x0.2.2.1 (1 : Int) (4 : Int)).bind fun r3 =>
          some (r3.1, ()))
        ((c_impl_isValue R x0.2.2.1).bind fun r3 =>
          some (r3.1, ())))))) := by kernel_rfl
/-- loop.example/g00548/impl.isTxn -/
theorem q_impl_isTxn (R : Run EE) (L : Loops) (x0 : (List (d14) × Unit)) : @Eq (Option ((Bool × Unit))) (bodyK EE R L 43 [⟨(.pair (.sl t1) .unit), x0⟩]) (
  (c_impl_within R (((List.length x0.1) : Nat) : Int) (1 : Int) (4 : Int)).bind fun r0 =>
  cond r0.1
  ((c_impl_areAll_impl_Op_ R x0.1 (Go.Rf.FnVal.mk (53 : Nat) (Go.Rf.FCaps.nil))).bind fun r1 =>
    some (r1.1, ()))
  (some (false, ()))) := by kernel_rfl
/-- loop.example/g00548/impl.BatchOK -/
theorem q_impl_BatchOK (R : Run EE) (L : Loops) (x0 : List ((List (d14) × Unit))) : @Eq (Option ((Bool × Unit))) (bodyK EE R L 25 [⟨(.sl (.pair (.sl t1) .unit)), x0⟩]) (
  (c_impl_within R (((List.length x0) : Nat) : Int) (1 : Int) (2 : Int)).bind fun r0 =>
  cond r0.1
  ((c_impl_areAll_impl_Txn_ R x0 (Go.Rf.FnVal.mk (43 : Nat) (Go.Rf.FCaps.nil))).bind fun r1 =>
    some (r1.1, ()))
  (some (false, ()))) := by kernel_rfl
/-- slices.BinarySearchFunc[[]loop.example/g00548/impl.Entry,loop.example/g00548/impl.Entry,int] -/
theorem q_slices_BinarySearchFunc___impl_Entry_impl_Entry_int_ (R : Run EE) (L : Loops) (x0 : List ((Int × (Int × Unit)))) (x1 : Int) (x2 : FnVal) : @Eq (Option ((Int × (Bool × Unit)))) (bodyK EE R L 68 [⟨(.sl t0), x0⟩, ⟨(.int .i64), x1⟩, ⟨.fn, x2⟩]) (
  lp_slices_BinarySearchFunc___impl_Entry_impl_Entry_int__0 R L x0 x1 x2 (0 : Int) false (((List.length x0) : Nat) : Int) (0 : Int) (((List.length x0) : Nat) : Int)) := by kernel_rfl
theorem q_slices_BinarySearchFunc___impl_Entry_impl_Entry_int__0 (R : Run EE) (L : Loops) (v0 : List ((Int × (Int × Unit)))) (v1 : Int) (v2 : FnVal) (v6 : Int) (v7 : Bool) (v8 : Int) (v9 : Int) (v10 : Int) : @Eq (Option ((Int × (Bool × Unit)))) (from_ EE R L 68 Go.Proofs.Try.f68 [1, 1, 1, 0, 0, 0] (mk 49 [(0, .dat ⟨(.sl t0), v0, .sh⟩), (1, .dat ⟨(.int .i64), v1, .sh⟩), (2, .dat ⟨.fn, v2, .sh⟩), (6, .dat ⟨(.int .i64), v6, .sh⟩), (7, .dat ⟨.bool, v7, .sh⟩), (8, .dat ⟨(.int .i64), v8, .sh⟩), (9, .dat ⟨(.int .i64), v9, .sh⟩), (10, .dat ⟨(.int .i64), v10, .sh⟩)])) (
  cond (decide (v9 < v10))
  (cond (Go.Rf.nonneg (Go.IntKind.wrap .i64 (Int.fdiv (Go.IntKind.wrap .u64 (Go.IntKind.wrap .i64 (v9 + v10))) ((2 : Int) ^ (Min.min (Int.toNat (1 : Int)) (Go.IntKind.bits .u64))))))
    (cond (Nat.blt (Int.toNat (Go.IntKind.wrap .i64 (Int.fdiv (Go.IntKind.wrap .u64 (Go.IntKind.wrap .i64 (v9 + v10))) ((2 : Int) ^ (Min.min (Int.toNat (1 : Int)) (Go.IntKind.bits .u64)))))) (List.length v0))
      ((callVI EE R v2 [⟨t0, ((List.getD v0 (Int.toNat (Go.IntKind.wrap .i64 (Int.fdiv (Go.IntKind.wrap .u64 (Go.IntKind.wrap .i64 (v9 + v10))) ((2 : Int) ^ (Min.min (Int.toNat (1 : Int)) (Go.IntKind.bits .u64)))))) ((0 : Int), ((0 : Int), ()))) : (Int × (Int × Unit)))⟩, ⟨(.int .i64), (v1 : Int)⟩]).bind fun (r0 : Int) =>
        cond (decide (r0 < (0 : Int)))
        (lp_slices_BinarySearchFunc___impl_Entry_impl_Entry_int__1 R L v0 v1 v2 v6 v7 v8 (Go.IntKind.wrap .i64 ((Go.IntKind.wrap .i64 (Int.fdiv (Go.IntKind.wrap .u64 (Go.IntKind.wrap .i64 (v9 + v10))) ((2 : Int) ^ (Min.min (Int.toNat (1 : Int)) (Go.IntKind.bits .u64))))) + (1 : Int))) v10 (Go.IntKind.wrap .i64 (Int.fdiv (Go.IntKind.wrap .u64 (Go.IntKind.wrap .i64 (v9 + v10))) ((2 : Int) ^ (Min.min (Int.toNat (1 : Int)) (Go.IntKind.bits .u64))))))
        (lp_slices_BinarySearchFunc___impl_Entry_impl_Entry_int__1 R L v0 v1 v2 v6 v7 v8 v9 (Go.IntKind.wrap .i64 (Int.fdiv (Go.IntKind.wrap .u64 (Go.IntKind.wrap .i64 (v9 + v10))) ((2 : Int) ^ (Min.min (Int.toNat (1 : Int)) (Go.IntKind.bits .u64))))) (Go.IntKind.wrap .i64 (Int.fdiv (Go.IntKind.wrap .u64 (Go.IntKind.wrap .i64 (v9 + v10))) ((2 : Int) ^ (Min.min (Int.toNat (1 : Int)) (Go.IntKind.bits .u64)))))))
      (none))
    (none))
  (cond (decide (v9 < v8))
    (cond (Go.Rf.nonneg v9)
      (cond (Nat.blt (Int.toNat v9) (List.length v0))
        ((callVI EE R v2 [⟨t0, ((List.getD v0 (Int.toNat v9) ((0 : Int), ((0 : Int), ()))) : (Int × (Int × Unit)))⟩, ⟨(.int .i64), (v1 : Int)⟩]).bind fun (r0 : Int) =>
          some (v9, ((Go.Rf.eqI r0 (0 : Int)), ())))
        (none))
      (none))
    (some (v9, (false, ()))))) := by kernel_rfl
theorem q_slices_BinarySearchFunc___impl_Entry_impl_Entry_int__1 (R : Run EE) (L : Loops) (v0 : List ((Int × (Int × Unit)))) (v1 : Int) (v2 : FnVal) (v6 : Int) (v7 : Bool) (v8 : Int) (v9 : Int) (v10 : Int) (v11 : Int) : @Eq (Option ((Int × (Bool × Unit)))) (from_ EE R L 68 Go.Proofs.Try.f68 [1, 1, 1, 0, 0, 0] (mk 49 [(0, .dat ⟨(.sl t0), v0, .sh⟩), (1, .dat ⟨(.int .i64), v1, .sh⟩), (2, .dat ⟨.fn, v2, .sh⟩), (6, .dat ⟨(.int .i64), v6, .sh⟩), (7, .dat ⟨.bool, v7, .sh⟩), (8, .dat ⟨(.int .i64), v8, .sh⟩), (9, .dat ⟨(.int .i64), v9, .sh⟩), (10, .dat ⟨(.int .i64), v10, .sh⟩), (11, .dat ⟨(.int .i64), v11, .sh⟩)])) (
  cond (decide (v9 < v10))
  (cond (Go.Rf.nonneg (Go.IntKind.wrap .i64 (Int.fdiv (Go.IntKind.wrap .u64 (Go.IntKind.wrap .i64 (v9 + v10))) ((2 : Int) ^ (Min.min (Int.toNat (1 : Int)) (Go.IntKind.bits .u64))))))
    (cond (Nat.blt (Int.toNat (Go.IntKind.wrap .i64 (Int.fdiv (Go.IntKind.wrap .u64 (Go.IntKind.wrap .i64 (v9 + v10))) ((2 : Int) ^ (Min.min (Int.toNat (1 : Int)) (Go.IntKind.bits .u64)))))) (List.length v0))
      ((callVI EE R v2 [⟨t0, ((List.getD v0 (Int.toNat (Go.IntKind.wrap .i64 (Int.fdiv (Go.IntKind.wrap .u64 (Go.IntKind.wrap .i64 (v9 + v10))) ((2 : Int) ^ (Min.min (Int.toNat (1 : Int)) (Go.IntKind.bits .u64)))))) ((0 : Int), ((0 : Int), ()))) : (Int × (Int × Unit)))⟩, ⟨(.int .i64), (v1 : Int)⟩]).bind fun (r0 : Int) =>
        cond (decide (r0 < (0 : Int)))
        (lp_slices_BinarySearchFunc___impl_Entry_impl_Entry_int__1 R L v0 v1 v2 v6 v7 v8 (Go.IntKind.wrap .i64 ((Go.IntKind.wrap .i64 (Int.fdiv (Go.IntKind.wrap .u64 (Go.IntKind.wrap .i64 (v9 + v10))) ((2 : Int) ^ (Min.min (Int.toNat (1 : Int)) (Go.IntKind.bits .u64))))) + (1 : Int))) v10 (Go.IntKind.wrap .i64 (Int.fdiv (Go.IntKind.wrap .u64 (Go.IntKind.wrap .i64 (v9 + v10))) ((2 : Int) ^ (Min.min (Int.toNat (1 : Int)) (Go.IntKind.bits .u64))))))
        (lp_slices_BinarySearchFunc___impl_Entry_impl_Entry_int__1 R L v0 v1 v2 v6 v7 v8 v9 (Go.IntKind.wrap .i64 (Int.fdiv (Go.IntKind.wrap .u64 (Go.IntKind.wrap .i64 (v9 + v10))) ((2 : Int) ^ (Min.min (Int.toNat (1 : Int)) (Go.IntKind.bits .u64))))) (Go.IntKind.wrap .i64 (Int.fdiv (Go.IntKind.wrap .u64 (Go.IntKind.wrap .i64 (v9 + v10))) ((2 : Int) ^ (Min.min (Int.toNat (1 : Int)) (Go.IntKind.bits .u64)))))))
      (none))
    (none))
  (cond (decide (v9 < v8))
    (cond (Go.Rf.nonneg v9)
      (cond (Nat.blt (Int.toNat v9) (List.length v0))
        ((callVI EE R v2 [⟨t0, ((List.getD v0 (Int.toNat v9) ((0 : Int), ((0 : Int), ()))) : (Int × (Int × Unit)))⟩, ⟨(.int .i64), (v1 : Int)⟩]).bind fun (r0 : Int) =>
          some (v9, ((Go.Rf.eqI r0 (0 : Int)), ())))
        (none))
      (none))
    (some (v9, (false, ()))))) := by kernel_rfl
/-- loop.example/g00548/impl.find$1 -/
theorem q_impl_find_1 (R : Run EE) (L : Loops) (x0 : (Int × (Int × Unit))) (x1 : Int) : @Eq (Option ((Int × Unit))) (bodyK EE R L 69 [⟨t0, x0⟩, ⟨(.int .i64), x1⟩]) (
  some ((Go.IntKind.wrap .i64 (x0.1 - x1)), ())) := by kernel_rfl
/-- loop.example/g00548/impl.find -/
theorem q_impl_find (R : Run EE) (L : Loops) (x0 : List ((Int × (Int × Unit)))) (x1 : Int) : @Eq (Option ((Int × (Bool × Unit)))) (bodyK EE R L 63 [⟨(.sl t0), x0⟩, ⟨(.int .i64), x1⟩]) (
  (c_slices_BinarySearchFunc___impl_Entry_impl_Entry_int_ R x0 x1 (Go.Rf.FnVal.mk (69 : Nat) (Go.Rf.FCaps.nil))).bind fun r0 =>
  some (r0.1, (r0.2.1, ()))) := by kernel_rfl
/-- slices.Clone[[]loop.example/g00548/impl.Entry,loop.example/g00548/impl.Entry] -/
theorem q_slices_Clone___impl_Entry_impl_Entry_ (R : Run EE) (L : Loops) (x0 : List ((Int × (Int × Unit)))) : @Eq (Option (d16)) (bodyK EE R L 27 [⟨(.sl t0), x0⟩]) (
  cond (Nat.beq (List.length x0) (0 : Nat))
  (agree
    (some (([] : List ((Int × (Int × Unit)))), ()))
    (cond (Go.Rf.lenOK ((List.length ([] : List ((Int × (Int × Unit))))) + (List.length x0)))
      (some ((([] : List ((Int × (Int × Unit)))) ++ x0), ()))
      (none)))
  (cond (Go.Rf.lenOK ((List.length ([] : List ((Int × (Int × Unit))))) + (List.length x0)))
    (some ((([] : List ((Int × (Int × Unit)))) ++ x0), ()))
    (none))) := by kernel_rfl
/-- loop.example/g00548/impl.scan -/
theorem q_impl_scan (R : Run EE) (L : Loops) (x0 : List ((Int × (Int × Unit)))) (x1 : Int) (x2 : Int) : @Eq (Option ((List (Int) × Unit))) (bodyK EE R L 65 [⟨(.sl t0), x0⟩, ⟨(.int .i64), x1⟩, ⟨(.int .i64), x2⟩]) (
  (c_impl_find R x0 x1).bind fun r0 =>
  lp_impl_scan_0 R L x0 x1 x2 ([] : List (Int)) r0.1 ([] : List (Int))) := by kernel_rfl
theorem q_impl_scan_0 (R : Run EE) (L : Loops) (v0 : List ((Int × (Int × Unit)))) (v1 : Int) (v2 : Int) (v6 : List (Int)) (v7 : Int) (v9 : List (Int)) : @Eq (Option ((List (Int) × Unit))) (from_ EE R L 65 Go.Proofs.Try.f65 [1, 1, 1, 0, 0, 0] (mk 43 [(0, .dat ⟨(.sl t0), v0, .sh⟩), (1, .dat ⟨(.int .i64), v1, .sh⟩), (2, .dat ⟨(.int .i64), v2, .sh⟩), (6, .dat ⟨(.sl (.int .i64)), v6, (.own .sh)⟩), (7, .dat ⟨(.int .i64), v7, .sh⟩), (9, .dat ⟨(.sl (.int .i64)), v9, (.own .sh)⟩)])) (
  cond (decide ((0 : Int) < v2))
  (cond (decide (v7 < (((List.length v0) : Nat) : Int)))
    (cond (Go.Rf.nonneg v7)
      (cond (Nat.blt (Int.toNat v7) (List.length v0))
        (cond (Go.Rf.nonneg v7)
          (cond (Nat.blt (Int.toNat v7) (List.length v0))
            (cond (Go.Rf.lenOK ((List.length v9) + (List.length ((List.getD v0 (Int.toNat v7) ((0 : Int), ((0 : Int), ()))).1 :: ((List.getD v0 (Int.toNat v7) ((0 : Int), ((0 : Int), ()))).2.1 :: ([] : List (Int)))))))
              (lp_impl_scan_0 R L v0 v1 (Go.IntKind.wrap .i64 (v2 - (1 : Int))) v6 (Go.IntKind.wrap .i64 (v7 + (1 : Int))) (v9 ++ ((List.getD v0 (Int.toNat v7) ((0 : Int), ((0 : Int), ()))).1 :: ((List.getD v0 (Int.toNat v7) ((0 : Int), ((0 : Int), ()))).2.1 :: ([] : List (Int))))))
              (none))
            (none))
          (none))
        (none))
      (none))
    (cond (Go.Rf.lenOK ((List.length v9) + (List.length ((0 : Int) :: ((0 : Int) :: ([] : List (Int)))))))
      (lp_impl_scan_0 R L v0 v1 (Go.IntKind.wrap .i64 (v2 - (1 : Int))) v6 (Go.IntKind.wrap .i64 (v7 + (1 : Int))) (v9 ++ ((0 : Int) :: ((0 : Int) :: ([] : List (Int))))))
      (none)))
  (some (v9, ()))) := by kernel_rfl
/-- loop.example/g00548/impl.put -/
theorem q_impl_put (R : Run EE) (L : Loops) (x0 : List ((Int × (Int × Unit)))) (x1 : Int) (x2 : Int) : @Eq (Option (d24)) (bodyK EE R L 70 [⟨(.sl t0), x0⟩, ⟨(.int .i64), x1⟩, ⟨(.int .i64), x2⟩]) (
  (c_impl_find R x0 x1).bind fun r0 =>
  (c_slices_Clone___impl_Entry_impl_Entry_ R x0).bind fun r1 =>
  cond r0.2.1
  (cond (Go.Rf.nonneg r0.1)
    (cond (Nat.blt (Int.toNat r0.1) (List.length r1.1))
      (some ((List.set r1.1 (Int.toNat r0.1) ((List.getD r1.1 (Int.toNat r0.1) ((0 : Int), ((0 : Int), ()))).1, (x2, (List.getD r1.1 (Int.toNat r0.1) ((0 : Int), ((0 : Int), ()))).2.2))), (true, ())))
      (none))
    (none))
  (cond (Go.Rf.eqI (((List.length x0) : Nat) : Int) (11 : Int))
    (some (x0, (false, ())))
    ((c_slices_Insert___impl_Entry_impl_Entry_ R r1.1 r0.1 ((x1, (x2, ())) :: ([] : List ((Int × (Int × Unit)))))).bind fun r2 =>
      some (r2.1, (true, ()))))) := by kernel_rfl
/-- loop.example/g00548/impl.do2 -/
theorem q_impl_do2 (R : Run EE) (L : Loops) (x0 : List ((Int × (Int × Unit)))) (x1 : d14) (x2 : Int) : @Eq (Option (d19)) (bodyK EE R L 66 [⟨(.sl t0), x0⟩, ⟨t1, x1⟩, ⟨(.int .i64), x2⟩]) (
  cond (Go.Rf.eqI x1.1 (5 : Int))
  ((c_impl_put R x0 x1.2.1 (Go.IntKind.wrap .i64 (x1.2.2.1 + x2))).bind fun r0 =>
    cond (!r0.2.1)
    (some (x0, (([] : List (Int)), ((7 : Int), ()))))
    ((c_impl_isValue R (Go.IntKind.wrap .i64 (x1.2.2.1 + x2))).bind fun r1 =>
      cond (!r1.1)
      (some (x0, (([] : List (Int)), ((4 : Int), ()))))
      (some (r0.1, (((Go.IntKind.wrap .i64 (x1.2.2.1 + x2)) :: ([] : List (Int))), ((0 : Int), ()))))))
  ((c_impl_put R x0 x1.2.1 x1.2.2.1).bind fun r0 =>
    cond (!r0.2.1)
    (some (x0, (([] : List (Int)), ((7 : Int), ()))))
    ((c_impl_isValue R x1.2.2.1).bind fun r1 =>
      cond (!r1.1)
      (some (x0, (([] : List (Int)), ((4 : Int), ()))))
      (some (r0.1, (([] : List (Int)), ((0 : Int), ()))))))) := by kernel_rfl
/-- loop.example/g00548/impl.do -/
theorem q_impl_do (R : Run EE) (L : Loops) (x0 : List ((Int × (Int × Unit)))) (x1 : d14) : @Eq (Option (d19)) (bodyK EE R L 54 [⟨(.sl t0), x0⟩, ⟨t1, x1⟩]) (
  (c_impl_find R x0 x1.2.1).bind fun r0 =>
  cond r0.2.1
  (cond (Go.Rf.nonneg r0.1)
    (cond (Nat.blt (Int.toNat r0.1) (List.length x0))
      (cond (Go.Rf.eqI x1.1 (1 : Int))
        (cond r0.2.1
          (some (x0, (((1 : Int) :: ((List.getD x0 (Int.toNat r0.1) ((0 : Int), ((0 : Int), ()))).2.1 :: ([] : List (Int)))), ((0 : Int), ()))))
          (some (x0, (((0 : Int) :: ((0 : Int) :: ([] : List (Int)))), ((0 : Int), ())))))
        (cond (Go.Rf.eqI x1.1 (3 : Int))
          (cond r0.2.1
            ((c_slices_Clone___impl_Entry_impl_Entry_ R x0).bind fun r1 =>
              (c_slices_Delete___impl_Entry_impl_Entry_ R r1.1 r0.1 (Go.IntKind.wrap .i64 (r0.1 + (1 : Int)))).bind fun r2 =>
              some (r2.1, (((1 : Int) :: ([] : List (Int))), ((0 : Int), ()))))
            (some (x0, (((0 : Int) :: ([] : List (Int))), ((0 : Int), ())))))
          (cond (Go.Rf.eqI x1.1 (4 : Int))
            (cond (!r0.2.1)
              (some (x0, (([] : List (Int)), ((14 : Int), ()))))
              (cond (!(Go.Rf.eqI (List.getD x0 (Int.toNat r0.1) ((0 : Int), ((0 : Int), ()))).2.1 x1.2.2.1))
                (some (x0, (([] : List (Int)), ((14 : Int), ()))))
                (some (x0, (([] : List (Int)), ((0 : Int), ()))))))
            (cond (Go.Rf.eqI x1.1 (6 : Int))
              ((c_impl_scan R x0 x1.2.1 x1.2.2.1).bind fun r1 =>
                some (x0, (r1.1, ((0 : Int), ()))))
              ((c_impl_do2 R x0 x1 (List.getD x0 (Int.toNat r0.1) ((0 : Int), ((0 : Int), ()))).2.1).bind fun r1 =>
                some (r1.1, (r1.2.1, (r1.2.2.1, ()))))))))
      (none))
    (none))
  (cond (Go.Rf.eqI x1.1 (1 : Int))
    (cond r0.2.1
      (some (x0, (((1 : Int) :: ((0 : Int) :: ([] : List (Int)))), ((0 : Int), ()))))
      (some (x0, (((0 : Int) :: ((0 : Int) :: ([] : List (Int)))), ((0 : Int), ())))))
    (cond (Go.Rf.eqI x1.1 (3 : Int))
      (cond r0.2.1
        ((c_slices_Clone___impl_Entry_impl_Entry_ R x0).bind fun r1 =>
          (c_slices_Delete___impl_Entry_impl_Entry_ R r1.1 r0.1 (Go.IntKind.wrap .i64 (r0.1 + (1 : Int)))).bind fun r2 =>
          some (r2.1, (((1 : Int) :: ([] : List (Int))), ((0 : Int), ()))))
        (some (x0, (((0 : Int) :: ([] : List (Int))), ((0 : Int), ())))))
      (cond (Go.Rf.eqI x1.1 (4 : Int))
        (cond (!r0.2.1)
          (some (x0, (([] : List (Int)), ((14 : Int), ()))))
          (cond (!(Go.Rf.eqI (0 : Int) x1.2.2.1))
            (some (x0, (([] : List (Int)), ((14 : Int), ()))))
            (some (x0, (([] : List (Int)), ((0 : Int), ()))))))
        (cond (Go.Rf.eqI x1.1 (6 : Int))
          ((c_impl_scan R x0 x1.2.1 x1.2.2.1).bind fun r1 =>
            some (x0, (r1.1, ((0 : Int), ()))))
          ((c_impl_do2 R x0 x1 (0 : Int)).bind fun r1 =>
            some (r1.1, (r1.2.1, (r1.2.2.1, ()))))))))) := by kernel_rfl
/-- loop.example/g00548/impl.doTxn -/
theorem q_impl_doTxn (R : Run EE) (L : Loops) (x0 : List ((Int × (Int × Unit)))) (x1 : (List (d14) × Unit)) : @Eq (Option (d21)) (bodyK EE R L 44 [⟨(.sl t0), x0⟩, ⟨(.pair (.sl t1) .unit), x1⟩]) (
  lp_impl_doTxn_0 R L x0 x1 x1 ([] : List ((Int × (Int × Unit)))) ((0 : Int), (([] : List (Int)), ())) x0 ((0 : Int), (([] : List (Int)), ())) x1.1 (((List.length x1.1) : Nat) : Int) (0 : Int)) := by kernel_rfl
theorem q_impl_doTxn_0 (R : Run EE) (L : Loops) (v0 : List ((Int × (Int × Unit)))) (v1 : (List (d14) × Unit)) (v3 : (List (d14) × Unit)) (v4 : List ((Int × (Int × Unit)))) (v5 : d20) (v6 : List ((Int × (Int × Unit)))) (v7 : d20) (v15 : List (d14)) (v16 : Int) (v17 : Int) : @Eq (Option (d21)) (from_ EE R L 44 Go.Proofs.Try.f44 [1, 1, 1, 0, 1, 0, 0] (mk 42 [(0, .dat ⟨(.sl t0), v0, .sh⟩), (1, .dat ⟨(.pair (.sl t1) .unit), v1, .sh⟩), (3, .dat ⟨(.ptr (.pair (.sl t1) .unit)), v3, (.own .sh)⟩), (4, .dat ⟨(.sl t0), v4, (.own .sh)⟩), (5, .dat ⟨(.ptr t5), v5, (.own (.pr .sh (.pr (.own .sh) .sh)))⟩), (6, .dat ⟨(.sl t0), v6, .sh⟩), (7, .dat ⟨(.ptr t5), v7, (.own (.pr .sh (.pr (.own .sh) .sh)))⟩), (15, .dat ⟨(.sl t1), v15, .sh⟩), (16, .dat ⟨(.int .i64), v16, .sh⟩), (17, .dat ⟨(.int .i64), v17, .sh⟩)])) (
  cond (decide (v17 < v16))
  (cond (Go.Rf.nonneg v17)
    (cond (Nat.blt (Int.toNat v17) (List.length v15))
      ((c_impl_do R v6 (List.getD v15 (Int.toNat v17) ((0 : Int), ((0 : Int), ((0 : Int), ()))))).bind fun r0 =>
        cond (!(Go.Rf.eqI r0.2.2.1 (0 : Int)))
        (some (v0, ((r0.2.2.1, (([] : List (Int)), ())), ())))
        (cond (Go.Rf.lenOK ((List.length v7.2.1) + (List.length r0.2.1)))
          (lp_impl_doTxn_1 R L v0 v1 v3 v4 v5 r0.1 (v7.1, ((v7.2.1 ++ r0.2.1), v7.2.2)) (List.getD v15 (Int.toNat v17) ((0 : Int), ((0 : Int), ((0 : Int), ())))) r0.1 r0.2.1 r0.2.2.1 v15 v16 (Go.IntKind.wrap .i64 (v17 + (1 : Int))))
          (none)))
      (none))
    (none))
  (some (v6, (v7, ())))) := by kernel_rfl
theorem q_impl_doTxn_1 (R : Run EE) (L : Loops) (v0 : List ((Int × (Int × Unit)))) (v1 : (List (d14) × Unit)) (v3 : (List (d14) × Unit)) (v4 : List ((Int × (Int × Unit)))) (v5 : d20) (v6 : List ((Int × (Int × Unit)))) (v7 : d20) (v9 : d14) (v10 : List ((Int × (Int × Unit)))) (v11 : List (Int)) (v12 : Int) (v15 : List (d14)) (v16 : Int) (v17 : Int) : @Eq (Option (d21)) (from_ EE R L 44 Go.Proofs.Try.f44 [1, 1, 1, 0, 1, 0, 0] (mk 42 [(0, .dat ⟨(.sl t0), v0, .sh⟩), (1, .dat ⟨(.pair (.sl t1) .unit), v1, .sh⟩), (3, .dat ⟨(.ptr (.pair (.sl t1) .unit)), v3, (.own .sh)⟩), (4, .dat ⟨(.sl t0), v4, (.own .sh)⟩), (5, .dat ⟨(.ptr t5), v5, (.own (.pr .sh (.pr (.own .sh) .sh)))⟩), (6, .dat ⟨(.sl t0), v6, .sh⟩), (7, .dat ⟨(.ptr t5), v7, (.own (.pr .sh (.pr (.own .sh) .sh)))⟩), (9, .dat ⟨(.ptr t1), v9, (.own .sh)⟩), (10, .dat ⟨(.sl t0), v10, .sh⟩), (11, .dat ⟨(.sl (.int .i64)), v11, .sh⟩), (12, .dat ⟨(.int .i64), v12, .sh⟩), (15, .dat ⟨(.sl t1), v15, .sh⟩), (16, .dat ⟨(.int .i64), v16, .sh⟩), (17, .dat ⟨(.int .i64), v17, .sh⟩)])) (
  cond (decide (v17 < v16))
  (cond (Go.Rf.nonneg v17)
    (cond (Nat.blt (Int.toNat v17) (List.length v15))
      ((c_impl_do R v6 (List.getD v15 (Int.toNat v17) ((0 : Int), ((0 : Int), ((0 : Int), ()))))).bind fun r0 =>
        cond (!(Go.Rf.eqI r0.2.2.1 (0 : Int)))
        (some (v0, ((r0.2.2.1, (([] : List (Int)), ())), ())))
        (cond (Go.Rf.lenOK ((List.length v7.2.1) + (List.length r0.2.1)))
          (lp_impl_doTxn_1 R L v0 v1 v3 v4 v5 r0.1 (v7.1, ((v7.2.1 ++ r0.2.1), v7.2.2)) (List.getD v15 (Int.toNat v17) ((0 : Int), ((0 : Int), ((0 : Int), ())))) r0.1 r0.2.1 r0.2.2.1 v15 v16 (Go.IntKind.wrap .i64 (v17 + (1 : Int))))
          (none)))
      (none))
    (none))
  (some (v6, (v7, ())))) := by kernel_rfl
/-- loop.example/g00548/impl.doBatch -/
theorem q_impl_doBatch (R : Run EE) (L : Loops) (x0 : List ((Int × (Int × Unit)))) (x1 : List ((List (d14) × Unit))) : @Eq (Option (d22)) (bodyK EE R L 26 [⟨(.sl t0), x0⟩, ⟨(.sl (.pair (.sl t1) .unit)), x1⟩]) (
  lp_impl_doBatch_0 R L x0 x1 ([] : List ((Int × (Int × Unit)))) ([] : List (d20)) ([] : List (d20)) x1 (((List.length x1) : Nat) : Int) (0 : Int)) := by kernel_rfl
theorem q_impl_doBatch_0 (R : Run EE) (L : Loops) (v0 : List ((Int × (Int × Unit)))) (v1 : List ((List (d14) × Unit))) (v4 : List ((Int × (Int × Unit)))) (v5 : List (d20)) (v6 : List (d20)) (v11 : List ((List (d14) × Unit))) (v12 : Int) (v13 : Int) : @Eq (Option (d22)) (from_ EE R L 26 Go.Proofs.Try.f26 [1, 1, 0, 1, 0, 0] (mk 31 [(0, .dat ⟨(.sl t0), v0, .sh⟩), (1, .dat ⟨(.sl (.pair (.sl t1) .unit)), v1, .sh⟩), (4, .dat ⟨(.sl t0), v4, (.own .sh)⟩), (5, .dat ⟨(.sl t5), v5, (.own (.pr .sh (.pr (.own .sh) .sh)))⟩), (6, .dat ⟨(.sl t5), v6, (.own (.pr .sh (.pr (.own .sh) .sh)))⟩), (11, .dat ⟨(.sl (.pair (.sl t1) .unit)), v11, .sh⟩), (12, .dat ⟨(.int .i64), v12, .sh⟩), (13, .dat ⟨(.int .i64), v13, .sh⟩)])) (
  cond (decide (v13 < v12))
  (cond (Go.Rf.nonneg v13)
    (cond (Nat.blt (Int.toNat v13) (List.length v11))
      ((c_impl_doTxn R v0 (List.getD v11 (Int.toNat v13) (([] : List (d14)), ()))).bind fun r0 =>
        cond (Go.Rf.lenOK ((List.length v6) + (List.length (r0.2.1 :: ([] : List (d20))))))
        (lp_impl_doBatch_1 R L r0.1 v1 v4 v5 (v6 ++ (r0.2.1 :: ([] : List (d20)))) (List.getD v11 (Int.toNat v13) (([] : List (d14)), ())) r0.1 r0.2.1 v11 v12 (Go.IntKind.wrap .i64 (v13 + (1 : Int))))
        (none))
      (none))
    (none))
  (some (v0, (v6, ())))) := by kernel_rfl
theorem q_impl_doBatch_1 (R : Run EE) (L : Loops) (v0 : List ((Int × (Int × Unit)))) (v1 : List ((List (d14) × Unit))) (v4 : List ((Int × (Int × Unit)))) (v5 : List (d20)) (v6 : List (d20)) (v8 : (List (d14) × Unit)) (v9 : List ((Int × (Int × Unit)))) (v10 : d20) (v11 : List ((List (d14) × Unit))) (v12 : Int) (v13 : Int) : @Eq (Option (d22)) (from_ EE R L 26 Go.Proofs.Try.f26 [1, 1, 0, 1, 0, 0] (mk 31 [(0, .dat ⟨(.sl t0), v0, .sh⟩), (1, .dat ⟨(.sl (.pair (.sl t1) .unit)), v1, .sh⟩), (4, .dat ⟨(.sl t0), v4, (.own .sh)⟩), (5, .dat ⟨(.sl t5), v5, (.own (.pr .sh (.pr (.own .sh) .sh)))⟩), (6, .dat ⟨(.sl t5), v6, (.own (.pr .sh (.pr (.own .sh) .sh)))⟩), (8, .dat ⟨(.ptr (.pair (.sl t1) .unit)), v8, (.own .sh)⟩), (9, .dat ⟨(.sl t0), v9, .sh⟩), (10, .dat ⟨(.ptr t5), v10, (.own .gone)⟩), (11, .dat ⟨(.sl (.pair (.sl t1) .unit)), v11, .sh⟩), (12, .dat ⟨(.int .i64), v12, .sh⟩), (13, .dat ⟨(.int .i64), v13, .sh⟩)])) (
  cond (decide (v13 < v12))
  (cond (Go.Rf.nonneg v13)
    (cond (Nat.blt (Int.toNat v13) (List.length v11))
      ((c_impl_doTxn R v0 (List.getD v11 (Int.toNat v13) (([] : List (d14)), ()))).bind fun r0 =>
        cond (Go.Rf.lenOK ((List.length v6) + (List.length (r0.2.1 :: ([] : List (d20))))))
        (lp_impl_doBatch_1 R L r0.1 v1 v4 v5 (v6 ++ (r0.2.1 :: ([] : List (d20)))) (List.getD v11 (Int.toNat v13) (([] : List (d14)), ())) r0.1 r0.2.1 v11 v12 (Go.IntKind.wrap .i64 (v13 + (1 : Int))))
        (none))
      (none))
    (none))
  (some (v0, (v6, ())))) := by kernel_rfl
/-- loop.example/g00548/impl.MapBatch -/
theorem q_impl_MapBatch (R : Run EE) (L : Loops) (x0 : List ((Int × (Int × Unit)))) (x1 : List ((List (d14) × Unit))) : @Eq (Option (d23)) (bodyK EE R L 9 [⟨(.sl t0), x0⟩, ⟨(.sl (.pair (.sl t1) .unit)), x1⟩]) (
  cond (decide ((4096 : Int) < (((List.length x0) : Nat) : Int)))
  (some (([] : List ((Int × (Int × Unit)))), (([] : List (d20)), ((2 : Int), ()))))
  (cond (decide ((4096 : Int) < (((List.length x1) : Nat) : Int)))
    (some (([] : List ((Int × (Int × Unit)))), (([] : List (d20)), ((2 : Int), ()))))
    ((c_impl_MapOK R x0).bind fun r0 =>
      cond (!r0.1)
      (some (([] : List ((Int × (Int × Unit)))), (([] : List (d20)), ((1 : Int), ()))))
      ((c_impl_BatchOK R x1).bind fun r1 =>
        cond (!r1.1)
        (some (([] : List ((Int × (Int × Unit)))), (([] : List (d20)), ((1 : Int), ()))))
        ((c_impl_doBatch R x0 x1).bind fun r2 =>
          (c_slices_Clone___impl_Entry_impl_Entry_ R r2.1).bind fun r3 =>
          some (r3.1, (r2.2.1, ((0 : Int), ())))))))) := by kernel_rfl
/-- loop.example/g00548/laws.eqEntry -/
theorem q_laws_eqEntry (R : Run EE) (L : Loops) (x0 : (Int × (Int × Unit))) (x1 : (Int × (Int × Unit))) : @Eq (Option ((Bool × Unit))) (bodyK EE R L 28 [⟨t0, x0⟩, ⟨t0, x1⟩]) (
  cond (!(Go.Rf.eqI x0.1 x1.1))
  (some (false, ()))
  (cond (!(Go.Rf.eqI x0.2.1 x1.2.1))
    (some (false, ()))
    (some (true, ())))) := by kernel_rfl
/-- loop.example/g00548/laws.eqEntryS -/
theorem q_laws_eqEntryS (R : Run EE) (L : Loops) (x0 : List ((Int × (Int × Unit)))) (x1 : List ((Int × (Int × Unit)))) : @Eq (Option ((Bool × Unit))) (bodyK EE R L 10 [⟨(.sl t0), x0⟩, ⟨(.sl t0), x1⟩]) (
  cond (!(Go.Rf.eqI (((List.length x0) : Nat) : Int) (((List.length x1) : Nat) : Int)))
  (some (false, ()))
  (lp_laws_eqEntryS_0 R L x0 x1 false (0 : Int))) := by kernel_rfl
theorem q_laws_eqEntryS_0 (R : Run EE) (L : Loops) (v0 : List ((Int × (Int × Unit)))) (v1 : List ((Int × (Int × Unit)))) (v4 : Bool) (v5 : Int) : @Eq (Option ((Bool × Unit))) (from_ EE R L 10 Go.Proofs.Try.f10 [1, 1, 0, 1, 0, 0] (mk 27 [(0, .dat ⟨(.sl t0), v0, .sh⟩), (1, .dat ⟨(.sl t0), v1, .sh⟩), (4, .dat ⟨.bool, v4, .sh⟩), (5, .dat ⟨(.int .i64), v5, .sh⟩)])) (
  cond (decide (v5 < (((List.length v0) : Nat) : Int)))
  (cond (Go.Rf.nonneg v5)
    (cond (Nat.blt (Int.toNat v5) (List.length v0))
      (cond (Go.Rf.nonneg v5)
        (cond (Nat.blt (Int.toNat v5) (List.length v1))
          ((c_laws_eqEntry R (List.getD v0 (Int.toNat v5) ((0 : Int), ((0 : Int), ()))) (List.getD v1 (Int.toNat v5) ((0 : Int), ((0 : Int), ())))).bind fun r0 =>
            cond (!r0.1)
            (some (false, ()))
            (lp_laws_eqEntryS_0 R L v0 v1 v4 (Go.IntKind.wrap .i64 (v5 + (1 : Int)))))
          (none))
        (none))
      (none))
    (none))
  (some (true, ()))) := by kernel_rfl
/-- loop.example/g00548/laws.eqIntS -/
theorem q_laws_eqIntS (R : Run EE) (L : Loops) (x0 : List (Int)) (x1 : List (Int)) : @Eq (Option ((Bool × Unit))) (bodyK EE R L 45 [⟨(.sl (.int .i64)), x0⟩, ⟨(.sl (.int .i64)), x1⟩]) (
  cond (!(Go.Rf.eqI (((List.length x0) : Nat) : Int) (((List.length x1) : Nat) : Int)))
  (some (false, ()))
  (lp_laws_eqIntS_0 R L x0 x1 false (0 : Int))) := by kernel_rfl
theorem q_laws_eqIntS_0 (R : Run EE) (L : Loops) (v0 : List (Int)) (v1 : List (Int)) (v4 : Bool) (v5 : Int) : @Eq (Option ((Bool × Unit))) (from_ EE R L 45 Go.Proofs.Try.f45 [1, 1, 0, 1, 0, 0] (mk 26 [(0, .dat ⟨(.sl (.int .i64)), v0, .sh⟩), (1, .dat ⟨(.sl (.int .i64)), v1, .sh⟩), (4, .dat ⟨.bool, v4, .sh⟩), (5, .dat ⟨(.int .i64), v5, .sh⟩)])) (
  cond (decide (v5 < (((List.length v0) : Nat) : Int)))
  (cond (Go.Rf.nonneg v5)
    (cond (Nat.blt (Int.toNat v5) (List.length v0))
      (cond (Go.Rf.nonneg v5)
        (cond (Nat.blt (Int.toNat v5) (List.length v1))
          (cond (!(Go.Rf.eqI (List.getD v0 (Int.toNat v5) (0 : Int)) (List.getD v1 (Int.toNat v5) (0 : Int))))
            (some (false, ()))
            (lp_laws_eqIntS_0 R L v0 v1 v4 (Go.IntKind.wrap .i64 (v5 + (1 : Int)))))
          (none))
        (none))
      (none))
    (none))
  (some (true, ()))) := by kernel_rfl
/-- loop.example/g00548/laws.eqResult -/
theorem q_laws_eqResult (R : Run EE) (L : Loops) (x0 : d20) (x1 : d20) : @Eq (Option ((Bool × Unit))) (bodyK EE R L 29 [⟨t5, x0⟩, ⟨t5, x1⟩]) (
  cond (!(Go.Rf.eqI x0.1 x1.1))
  (some (false, ()))
  ((c_laws_eqIntS R x0.2.1 x1.2.1).bind fun r0 =>
    cond (!r0.1)
    (some (false, ()))
    (some (true, ())))) := by kernel_rfl
/-- loop.example/g00548/laws.eqResultS -/
theorem q_laws_eqResultS (R : Run EE) (L : Loops) (x0 : List (d20)) (x1 : List (d20)) : @Eq (Option ((Bool × Unit))) (bodyK EE R L 11 [⟨(.sl t5), x0⟩, ⟨(.sl t5), x1⟩]) (
  cond (!(Go.Rf.eqI (((List.length x0) : Nat) : Int) (((List.length x1) : Nat) : Int)))
  (some (false, ()))
  (lp_laws_eqResultS_0 R L x0 x1 false (0 : Int))) := by kernel_rfl
theorem q_laws_eqResultS_0 (R : Run EE) (L : Loops) (v0 : List (d20)) (v1 : List (d20)) (v4 : Bool) (v5 : Int) : @Eq (Option ((Bool × Unit))) (from_ EE R L 11 Go.Proofs.Try.f11 [1, 1, 0, 1, 0, 0] (mk 27 [(0, .dat ⟨(.sl t5), v0, .sh⟩), (1, .dat ⟨(.sl t5), v1, .sh⟩), (4, .dat ⟨.bool, v4, .sh⟩), (5, .dat ⟨(.int .i64), v5, .sh⟩)])) (
  cond (decide (v5 < (((List.length v0) : Nat) : Int)))
  (cond (Go.Rf.nonneg v5)
    (cond (Nat.blt (Int.toNat v5) (List.length v0))
      (cond (Go.Rf.nonneg v5)
        (cond (Nat.blt (Int.toNat v5) (List.length v1))
          ((c_laws_eqResult R (List.getD v0 (Int.toNat v5) ((0 : Int), (([] : List (Int)), ()))) (List.getD v1 (Int.toNat v5) ((0 : Int), (([] : List (Int)), ())))).bind fun r0 =>
            cond (!r0.1)
            (some (false, ()))
            (lp_laws_eqResultS_0 R L v0 v1 v4 (Go.IntKind.wrap .i64 (v5 + (1 : Int)))))
          (none))
        (none))
      (none))
    (none))
  (some (true, ()))) := by kernel_rfl
/-- loop.example/g00548/laws.eqOp -/
theorem q_laws_eqOp (R : Run EE) (L : Loops) (x0 : d14) (x1 : d14) : @Eq (Option ((Bool × Unit))) (bodyK EE R L 55 [⟨t1, x0⟩, ⟨t1, x1⟩]) (
  cond (!(Go.Rf.eqI x0.1 x1.1))
  (some (false, ()))
  (cond (!(Go.Rf.eqI x0.2.1 x1.2.1))
    (some (false, ()))
    (cond (!(Go.Rf.eqI x0.2.2.1 x1.2.2.1))
      (some (false, ()))
      (some (true, ()))))) := by kernel_rfl
/-- loop.example/g00548/laws.eqOpS -/
theorem q_laws_eqOpS (R : Run EE) (L : Loops) (x0 : List (d14)) (x1 : List (d14)) : @Eq (Option ((Bool × Unit))) (bodyK EE R L 46 [⟨(.sl t1), x0⟩, ⟨(.sl t1), x1⟩]) (
  cond (!(Go.Rf.eqI (((List.length x0) : Nat) : Int) (((List.length x1) : Nat) : Int)))
  (some (false, ()))
  (lp_laws_eqOpS_0 R L x0 x1 false (0 : Int))) := by kernel_rfl
theorem q_laws_eqOpS_0 (R : Run EE) (L : Loops) (v0 : List (d14)) (v1 : List (d14)) (v4 : Bool) (v5 : Int) : @Eq (Option ((Bool × Unit))) (from_ EE R L 46 Go.Proofs.Try.f46 [1, 1, 0, 1, 0, 0] (mk 27 [(0, .dat ⟨(.sl t1), v0, .sh⟩), (1, .dat ⟨(.sl t1), v1, .sh⟩), (4, .dat ⟨.bool, v4, .sh⟩), (5, .dat ⟨(.int .i64), v5, .sh⟩)])) (
  cond (decide (v5 < (((List.length v0) : Nat) : Int)))
  (cond (Go.Rf.nonneg v5)
    (cond (Nat.blt (Int.toNat v5) (List.length v0))
      (cond (Go.Rf.nonneg v5)
        (cond (Nat.blt (Int.toNat v5) (List.length v1))
          ((c_laws_eqOp R (List.getD v0 (Int.toNat v5) ((0 : Int), ((0 : Int), ((0 : Int), ())))) (List.getD v1 (Int.toNat v5) ((0 : Int), ((0 : Int), ((0 : Int), ()))))).bind fun r0 =>
            cond (!r0.1)
            (some (false, ()))
            (lp_laws_eqOpS_0 R L v0 v1 v4 (Go.IntKind.wrap .i64 (v5 + (1 : Int)))))
          (none))
        (none))
      (none))
    (none))
  (some (true, ()))) := by kernel_rfl
/-- loop.example/g00548/laws.eqTxn -/
theorem q_laws_eqTxn (R : Run EE) (L : Loops) (x0 : (List (d14) × Unit)) (x1 : (List (d14) × Unit)) : @Eq (Option ((Bool × Unit))) (bodyK EE R L 30 [⟨(.pair (.sl t1) .unit), x0⟩, ⟨(.pair (.sl t1) .unit), x1⟩]) (
  (c_laws_eqOpS R x0.1 x1.1).bind fun r0 =>
  cond (!r0.1)
  (some (false, ()))
  (some (true, ()))) := by kernel_rfl
/-- loop.example/g00548/laws.eqTxnS -/
theorem q_laws_eqTxnS (R : Run EE) (L : Loops) (x0 : List ((List (d14) × Unit))) (x1 : List ((List (d14) × Unit))) : @Eq (Option ((Bool × Unit))) (bodyK EE R L 12 [⟨(.sl (.pair (.sl t1) .unit)), x0⟩, ⟨(.sl (.pair (.sl t1) .unit)), x1⟩]) (
  cond (!(Go.Rf.eqI (((List.length x0) : Nat) : Int) (((List.length x1) : Nat) : Int)))
  (some (false, ()))
  (lp_laws_eqTxnS_0 R L x0 x1 false (0 : Int))) := by kernel_rfl
theorem q_laws_eqTxnS_0 (R : Run EE) (L : Loops) (v0 : List ((List (d14) × Unit))) (v1 : List ((List (d14) × Unit))) (v4 : Bool) (v5 : Int) : @Eq (Option ((Bool × Unit))) (from_ EE R L 12 Go.Proofs.Try.f12 [1, 1, 0, 1, 0, 0] (mk 27 [(0, .dat ⟨(.sl (.pair (.sl t1) .unit)), v0, .sh⟩), (1, .dat ⟨(.sl (.pair (.sl t1) .unit)), v1, .sh⟩), (4, .dat ⟨.bool, v4, .sh⟩), (5, .dat ⟨(.int .i64), v5, .sh⟩)])) (
  cond (decide (v5 < (((List.length v0) : Nat) : Int)))
  (cond (Go.Rf.nonneg v5)
    (cond (Nat.blt (Int.toNat v5) (List.length v0))
      (cond (Go.Rf.nonneg v5)
        (cond (Nat.blt (Int.toNat v5) (List.length v1))
          ((c_laws_eqTxn R (List.getD v0 (Int.toNat v5) (([] : List (d14)), ())) (List.getD v1 (Int.toNat v5) (([] : List (d14)), ()))).bind fun r0 =>
            cond (!r0.1)
            (some (false, ()))
            (lp_laws_eqTxnS_0 R L v0 v1 v4 (Go.IntKind.wrap .i64 (v5 + (1 : Int)))))
          (none))
        (none))
      (none))
    (none))
  (some (true, ()))) := by kernel_rfl
/-- loop.example/g00548/laws.markEntryS -/
theorem q_laws_markEntryS (R : Run EE) (L : Loops) (x0 : List ((Int × (Int × Unit)))) (x1 : Int) : @Eq (Option (d25)) (bodyK EE R L 13 [⟨(.sl t0), x0⟩, ⟨(.int .i64), x1⟩]) (
  lp_laws_markEntryS_0 R L x0 x1 (0 : Int) (0 : Int)) := by kernel_rfl
theorem q_laws_markEntryS_0 (R : Run EE) (L : Loops) (v0 : List ((Int × (Int × Unit)))) (v1 : Int) (v4 : Int) (v5 : Int) : @Eq (Option (d25)) (from_ EE R L 13 Go.Proofs.Try.f13 [1, 0, 1, 0, 0] (mk 27 [(0, .dat ⟨(.sl t0), v0, (.pin 0 (.own .sh))⟩), (1, .dat ⟨(.int .i64), v1, .sh⟩), (4, .dat ⟨(.int .i64), v4, .sh⟩), (5, .dat ⟨(.int .i64), v5, .sh⟩)])) (
  cond (decide (v5 < (((List.length v0) : Nat) : Int)))
  (cond (Go.Rf.nonneg v5)
    (cond (Nat.blt (Int.toNat v5) (List.length v0))
      (cond (Go.Rf.nonneg v5)
        (cond (Nat.blt (Int.toNat v5) (List.length (List.set v0 (Int.toNat v5) (v1, (List.getD v0 (Int.toNat v5) ((0 : Int), ((0 : Int), ()))).2))))
          (lp_laws_markEntryS_0 R L (List.set (List.set v0 (Int.toNat v5) (v1, (List.getD v0 (Int.toNat v5) ((0 : Int), ((0 : Int), ()))).2)) (Int.toNat v5) ((List.getD (List.set v0 (Int.toNat v5) (v1, (List.getD v0 (Int.toNat v5) ((0 : Int), ((0 : Int), ()))).2)) (Int.toNat v5) ((0 : Int), ((0 : Int), ()))).1, ((Go.IntKind.wrap .i64 (v1 + (1 : Int))), (List.getD (List.set v0 (Int.toNat v5) (v1, (List.getD v0 (Int.toNat v5) ((0 : Int), ((0 : Int), ()))).2)) (Int.toNat v5) ((0 : Int), ((0 : Int), ()))).2.2))) (Go.IntKind.wrap .i64 ((Go.IntKind.wrap .i64 (v1 + (1 : Int))) + (1 : Int))) v4 (Go.IntKind.wrap .i64 (v5 + (1 : Int))))
          (none))
        (none))
      (none))
    (none))
  (some (v1, (v0, ())))) := by kernel_rfl
/-- loop.example/g00548/laws.markOpS -/
theorem q_laws_markOpS (R : Run EE) (L : Loops) (x0 : List (d14)) (x1 : Int) : @Eq (Option (d26)) (bodyK EE R L 31 [⟨(.sl t1), x0⟩, ⟨(.int .i64), x1⟩]) (
  lp_laws_markOpS_0 R L x0 x1 (0 : Int) (0 : Int)) := by kernel_rfl
theorem q_laws_markOpS_0 (R : Run EE) (L : Loops) (v0 : List (d14)) (v1 : Int) (v4 : Int) (v5 : Int) : @Eq (Option (d26)) (from_ EE R L 31 Go.Proofs.Try.f31 [1, 0, 1, 0, 0] (mk 34 [(0, .dat ⟨(.sl t1), v0, (.pin 0 (.own .sh))⟩), (1, .dat ⟨(.int .i64), v1, .sh⟩), (4, .dat ⟨(.int .i64), v4, .sh⟩), (5, .dat ⟨(.int .i64), v5, .sh⟩)])) (
  cond (decide (v5 < (((List.length v0) : Nat) : Int)))
  (cond (Go.Rf.nonneg v5)
    (cond (Nat.blt (Int.toNat v5) (List.length v0))
      (cond (Go.Rf.nonneg v5)
        (cond (Nat.blt (Int.toNat v5) (List.length (List.set v0 (Int.toNat v5) (v1, (List.getD v0 (Int.toNat v5) ((0 : Int), ((0 : Int), ((0 : Int), ())))).2))))
          (cond (Go.Rf.nonneg v5)
            (cond (Nat.blt (Int.toNat v5) (List.length (List.set (List.set v0 (Int.toNat v5) (v1, (List.getD v0 (Int.toNat v5) ((0 : Int), ((0 : Int), ((0 : Int), ())))).2)) (Int.toNat v5) ((List.getD (List.set v0 (Int.toNat v5) (v1, (List.getD v0 (Int.toNat v5) ((0 : Int), ((0 : Int), ((0 : Int), ())))).2)) (Int.toNat v5) ((0 : Int), ((0 : Int), ((0 : Int), ())))).1, ((Go.IntKind.wrap .i64 (v1 + (1 : Int))), (List.getD (List.set v0 (Int.toNat v5) (v1, (List.getD v0 (Int.toNat v5) ((0 : Int), ((0 : Int), ((0 : Int), ())))).2)) (Int.toNat v5) ((0 : Int), ((0 : Int), ((0 : Int), ())))).2.2)))))
              (lp_laws_markOpS_0 R L (List.set (List.set (List.set v0 (Int.toNat v5) (v1, (List.getD v0 (Int.toNat v5) ((0 : Int), ((0 : Int), ((0 : Int), ())))).2)) (Int.toNat v5) ((List.getD (List.set v0 (Int.toNat v5) (v1, (List.getD v0 (Int.toNat v5) ((0 : Int), ((0 : Int), ((0 : Int), ())))).2)) (Int.toNat v5) ((0 : Int), ((0 : Int), ((0 : Int), ())))).1, ((Go.IntKind.wrap .i64 (v1 + (1 : Int))), (List.getD (List.set v0 (Int.toNat v5) (v1, (List.getD v0 (Int.toNat v5) ((0 : Int), ((0 : Int), ((0 : Int), ())))).2)) (Int.toNat v5) ((0 : Int), ((0 : Int), ((0 : Int), ())))).2.2))) (Int.toNat v5) ((List.getD (List.set (List.set v0 (Int.toNat v5) (v1, (List.getD v0 (Int.toNat v5) ((0 : Int), ((0 : Int), ((0 : Int), ())))).2)) (Int.toNat v5) ((List.getD (List.set v0 (Int.toNat v5) (v1, (List.getD v0 (Int.toNat v5) ((0 : Int), ((0 : Int), ((0 : Int), ())))).2)) (Int.toNat v5) ((0 : Int), ((0 : Int), ((0 : Int), ())))).1, ((Go.IntKind.wrap .i64 (v1 + (1 : Int))), (List.getD (List.set v0 (Int.toNat v5) (v1, (List.getD v0 (Int.toNat v5) ((0 : Int), ((0 : Int), ((0 : Int), ())))).2)) (Int.toNat v5) ((0 : Int), ((0 : Int), ((0 : Int), ())))).2.2))) (Int.toNat v5) ((0 : Int), ((0 : Int), ((0 : Int), ())))).1, ((List.getD (List.set (List.set v0 (Int.toNat v5) (v1, (List.getD v0 (Int.toNat v5) ((0 : Int), ((0 : Int), ((0 : Int), ())))).2)) (Int.toNat v5) ((List.getD (List.set v0 (Int.toNat v5) (v1, (List.getD v0 (Int.toNat v5) ((0 : Int), ((0 : Int), ((0 : Int), ())))).2)) (Int.toNat v5) ((0 : Int), ((0 : Int), ((0 : Int), ())))).1, ((Go.IntKind.wrap .i64 (v1 + (1 : Int))), (List.getD (List.set v0 (Int.toNat v5) (v1, (List.getD v0 (Int.toNat v5) ((0 : Int), ((0 : Int), ((0 : Int), ())))).2)) (Int.toNat v5) ((0 : Int), ((0 : Int), ((0 : Int), ())))).2.2))) (Int.toNat v5) ((0 : Int), ((0 : Int), ((0 : Int), ())))).2.1, ((Go.IntKind.wrap .i64 ((Go.IntKind.wrap .i64 (v1 + (1 : Int))) + (1 : Int))), (List.getD (List.set (List.set v0 (Int.toNat v5) (v1, (List.getD v0 (Int.toNat v5) ((0 : Int), ((0 : Int), ((0 : Int), ())))).2)) (Int.toNat v5) ((List.getD (List.set v0 (Int.toNat v5) (v1, (List.getD v0 (Int.toNat v5) ((0 : Int), ((0 : Int), ((0 : Int), ())))).2)) (Int.toNat v5) ((0 : Int), ((0 : Int), ((0 : Int), ())))).1, ((Go.IntKind.wrap .i64 (v1 + (1 : Int))), (List.getD (List.set v0 (Int.toNat v5) (v1, (List.getD v0 (Int.toNat v5) ((0 : Int), ((0 : Int), ((0 : Int), ())))).2)) (Int.toNat v5) ((0 : Int), ((0 : Int), ((0 : Int), ())))).2.2))) (Int.toNat v5) ((0 : Int), ((0 : Int), ((0 : Int), ())))).2.2.2)))) (Go.IntKind.wrap .i64 ((Go.IntKind.wrap .i64 ((Go.IntKind.wrap .i64 (v1 + (1 : Int))) + (1 : Int))) + (1 : Int))) v4 (Go.IntKind.wrap .i64 (v5 + (1 : Int))))
              (none))
            (none))
          (none))
        (none))
      (none))
    (none))
  (some (v1, (v0, ())))) := by kernel_rfl
/-- loop.example/g00548/laws.markTxnS -/
theorem q_laws_markTxnS (R : Run EE) (L : Loops) (x0 : List ((List (d14) × Unit))) (x1 : Int) : @Eq (Option (d27)) (bodyK EE R L 14 [⟨(.sl (.pair (.sl t1) .unit)), x0⟩, ⟨(.int .i64), x1⟩]) (
  lp_laws_markTxnS_0 R L x0 x1 (0 : Int) (0 : Int)) := by kernel_rfl
theorem q_laws_markTxnS_0 (R : Run EE) (L : Loops) (v0 : List ((List (d14) × Unit))) (v1 : Int) (v4 : Int) (v5 : Int) : @Eq (Option (d27)) (from_ EE R L 14 Go.Proofs.Try.f14 [1, 0, 1, 0, 0] (mk 20 [(0, .dat ⟨(.sl (.pair (.sl t1) .unit)), v0, (.pin 0 (.own (.pr (.own .sh) .sh)))⟩), (1, .dat ⟨(.int .i64), v1, .sh⟩), (4, .dat ⟨(.int .i64), v4, .sh⟩), (5, .dat ⟨(.int .i64), v5, .sh⟩)])) (
  cond (decide (v5 < (((List.length v0) : Nat) : Int)))
  (cond (Go.Rf.nonneg v5)
    (cond (Nat.blt (Int.toNat v5) (List.length v0))
      ((c_laws_markOpS R (List.getD v0 (Int.toNat v5) (([] : List (d14)), ())).1 v1).bind fun r0 =>
        lp_laws_markTxnS_0 R L (List.set v0 (Int.toNat v5) (r0.2.1, (List.getD v0 (Int.toNat v5) (([] : List (d14)), ())).2)) r0.1 v4 (Go.IntKind.wrap .i64 (v5 + (1 : Int))))
      (none))
    (none))
  (some (v1, (v0, ())))) := by kernel_rfl
/-- loop.example/g00548/laws.markIntS -/
theorem q_laws_markIntS (R : Run EE) (L : Loops) (x0 : List (Int)) (x1 : Int) : @Eq (Option (d20)) (bodyK EE R L 32 [⟨(.sl (.int .i64)), x0⟩, ⟨(.int .i64), x1⟩]) (
  lp_laws_markIntS_0 R L x0 x1 (0 : Int) (0 : Int)) := by kernel_rfl
theorem q_laws_markIntS_0 (R : Run EE) (L : Loops) (v0 : List (Int)) (v1 : Int) (v4 : Int) (v5 : Int) : @Eq (Option (d20)) (from_ EE R L 32 Go.Proofs.Try.f32 [1, 0, 1, 0, 0] (mk 19 [(0, .dat ⟨(.sl (.int .i64)), v0, (.pin 0 (.own .sh))⟩), (1, .dat ⟨(.int .i64), v1, .sh⟩), (4, .dat ⟨(.int .i64), v4, .sh⟩), (5, .dat ⟨(.int .i64), v5, .sh⟩)])) (
  cond (decide (v5 < (((List.length v0) : Nat) : Int)))
  (cond (Go.Rf.nonneg v5)
    (cond (Nat.blt (Int.toNat v5) (List.length v0))
      (lp_laws_markIntS_0 R L (List.set v0 (Int.toNat v5) v1) (Go.IntKind.wrap .i64 (v1 + (1 : Int))) v4 (Go.IntKind.wrap .i64 (v5 + (1 : Int))))
      (none))
    (none))
  (some (v1, (v0, ())))) := by kernel_rfl
/-- loop.example/g00548/laws.markResultS -/
theorem q_laws_markResultS (R : Run EE) (L : Loops) (x0 : List (d20)) (x1 : Int) : @Eq (Option (d28)) (bodyK EE R L 15 [⟨(.sl t5), x0⟩, ⟨(.int .i64), x1⟩]) (
  lp_laws_markResultS_0 R L x0 x1 (0 : Int) (0 : Int)) := by kernel_rfl
theorem q_laws_markResultS_0 (R : Run EE) (L : Loops) (v0 : List (d20)) (v1 : Int) (v4 : Int) (v5 : Int) : @Eq (Option (d28)) (from_ EE R L 15 Go.Proofs.Try.f15 [1, 0, 1, 0, 0] (mk 27 [(0, .dat ⟨(.sl t5), v0, (.pin 0 (.own (.pr .sh (.pr (.own .sh) .sh))))⟩), (1, .dat ⟨(.int .i64), v1, .sh⟩), (4, .dat ⟨(.int .i64), v4, .sh⟩), (5, .dat ⟨(.int .i64), v5, .sh⟩)])) (
  cond (decide (v5 < (((List.length v0) : Nat) : Int)))
  (cond (Go.Rf.nonneg v5)
    (cond (Nat.blt (Int.toNat v5) (List.length v0))
      (cond (Go.Rf.nonneg v5)
        (cond (Nat.blt (Int.toNat v5) (List.length (List.set v0 (Int.toNat v5) (v1, (List.getD v0 (Int.toNat v5) ((0 : Int), (([] : List (Int)), ()))).2))))
          ((c_laws_markIntS R (List.getD (List.set v0 (Int.toNat v5) (v1, (List.getD v0 (Int.toNat v5) ((0 : Int), (([] : List (Int)), ()))).2)) (Int.toNat v5) ((0 : Int), (([] : List (Int)), ()))).2.1 (Go.IntKind.wrap .i64 (v1 + (1 : Int)))).bind fun r0 =>
            lp_laws_markResultS_0 R L (List.set (List.set v0 (Int.toNat v5) (v1, (List.getD v0 (Int.toNat v5) ((0 : Int), (([] : List (Int)), ()))).2)) (Int.toNat v5) ((List.getD (List.set v0 (Int.toNat v5) (v1, (List.getD v0 (Int.toNat v5) ((0 : Int), (([] : List (Int)), ()))).2)) (Int.toNat v5) ((0 : Int), (([] : List (Int)), ()))).1, (r0.2.1, (List.getD (List.set v0 (Int.toNat v5) (v1, (List.getD v0 (Int.toNat v5) ((0 : Int), (([] : List (Int)), ()))).2)) (Int.toNat v5) ((0 : Int), (([] : List (Int)), ()))).2.2))) r0.1 v4 (Go.IntKind.wrap .i64 (v5 + (1 : Int))))
          (none))
        (none))
      (none))
    (none))
  (some (v1, (v0, ())))) := by kernel_rfl
/-- loop.example/g00548/laws.heldEntryS -/
theorem q_laws_heldEntryS (R : Run EE) (L : Loops) (x0 : List ((Int × (Int × Unit)))) (x1 : Int) : @Eq (Option ((Int × Unit))) (bodyK EE R L 16 [⟨(.sl t0), x0⟩, ⟨(.int .i64), x1⟩]) (
  lp_laws_heldEntryS_0 R L x0 x1 (0 : Int) (0 : Int)) := by kernel_rfl
theorem q_laws_heldEntryS_0 (R : Run EE) (L : Loops) (v0 : List ((Int × (Int × Unit)))) (v1 : Int) (v4 : Int) (v5 : Int) : @Eq (Option ((Int × Unit))) (from_ EE R L 16 Go.Proofs.Try.f16 [1, 0, 1, 0, 0] (mk 31 [(0, .dat ⟨(.sl t0), v0, .sh⟩), (1, .dat ⟨(.int .i64), v1, .sh⟩), (4, .dat ⟨(.int .i64), v4, .sh⟩), (5, .dat ⟨(.int .i64), v5, .sh⟩)])) (
  cond (decide (v5 < (((List.length v0) : Nat) : Int)))
  (cond (Go.Rf.nonneg v5)
    (cond (Nat.blt (Int.toNat v5) (List.length v0))
      (cond (!(Go.Rf.eqI (List.getD v0 (Int.toNat v5) ((0 : Int), ((0 : Int), ()))).1 v1))
        (some ((-(1 : Int)), ()))
        (cond (Go.Rf.nonneg v5)
          (cond (Nat.blt (Int.toNat v5) (List.length v0))
            (cond (!(Go.Rf.eqI (List.getD v0 (Int.toNat v5) ((0 : Int), ((0 : Int), ()))).2.1 (Go.IntKind.wrap .i64 (v1 + (1 : Int)))))
              (some ((-(1 : Int)), ()))
              (lp_laws_heldEntryS_0 R L v0 (Go.IntKind.wrap .i64 ((Go.IntKind.wrap .i64 (v1 + (1 : Int))) + (1 : Int))) v4 (Go.IntKind.wrap .i64 (v5 + (1 : Int)))))
            (none))
          (none)))
      (none))
    (none))
  (some (v1, ()))) := by kernel_rfl
/-- loop.example/g00548/laws.heldIntS -/
theorem q_laws_heldIntS (R : Run EE) (L : Loops) (x0 : List (Int)) (x1 : Int) : @Eq (Option ((Int × Unit))) (bodyK EE R L 33 [⟨(.sl (.int .i64)), x0⟩, ⟨(.int .i64), x1⟩]) (
  lp_laws_heldIntS_0 R L x0 x1 (0 : Int) (0 : Int)) := by kernel_rfl
theorem q_laws_heldIntS_0 (R : Run EE) (L : Loops) (v0 : List (Int)) (v1 : Int) (v4 : Int) (v5 : Int) : @Eq (Option ((Int × Unit))) (from_ EE R L 33 Go.Proofs.Try.f33 [1, 0, 1, 0, 0] (mk 21 [(0, .dat ⟨(.sl (.int .i64)), v0, .sh⟩), (1, .dat ⟨(.int .i64), v1, .sh⟩), (4, .dat ⟨(.int .i64), v4, .sh⟩), (5, .dat ⟨(.int .i64), v5, .sh⟩)])) (
  cond (decide (v5 < (((List.length v0) : Nat) : Int)))
  (cond (Go.Rf.nonneg v5)
    (cond (Nat.blt (Int.toNat v5) (List.length v0))
      (cond (!(Go.Rf.eqI (List.getD v0 (Int.toNat v5) (0 : Int)) v1))
        (some ((-(1 : Int)), ()))
        (lp_laws_heldIntS_0 R L v0 (Go.IntKind.wrap .i64 (v1 + (1 : Int))) v4 (Go.IntKind.wrap .i64 (v5 + (1 : Int)))))
      (none))
    (none))
  (some (v1, ()))) := by kernel_rfl
/-- loop.example/g00548/laws.heldResultS -/
theorem q_laws_heldResultS (R : Run EE) (L : Loops) (x0 : List (d20)) (x1 : Int) : @Eq (Option ((Int × Unit))) (bodyK EE R L 17 [⟨(.sl t5), x0⟩, ⟨(.int .i64), x1⟩]) (
  lp_laws_heldResultS_0 R L x0 x1 (0 : Int) (0 : Int)) := by kernel_rfl
theorem q_laws_heldResultS_0 (R : Run EE) (L : Loops) (v0 : List (d20)) (v1 : Int) (v4 : Int) (v5 : Int) : @Eq (Option ((Int × Unit))) (from_ EE R L 17 Go.Proofs.Try.f17 [1, 0, 1, 0, 0] (mk 31 [(0, .dat ⟨(.sl t5), v0, .sh⟩), (1, .dat ⟨(.int .i64), v1, .sh⟩), (4, .dat ⟨(.int .i64), v4, .sh⟩), (5, .dat ⟨(.int .i64), v5, .sh⟩)])) (
  cond (decide (v5 < (((List.length v0) : Nat) : Int)))
  (cond (Go.Rf.nonneg v5)
    (cond (Nat.blt (Int.toNat v5) (List.length v0))
      (cond (!(Go.Rf.eqI (List.getD v0 (Int.toNat v5) ((0 : Int), (([] : List (Int)), ()))).1 v1))
        (some ((-(1 : Int)), ()))
        (cond (Go.Rf.nonneg v5)
          (cond (Nat.blt (Int.toNat v5) (List.length v0))
            ((c_laws_heldIntS R (List.getD v0 (Int.toNat v5) ((0 : Int), (([] : List (Int)), ()))).2.1 (Go.IntKind.wrap .i64 (v1 + (1 : Int)))).bind fun r0 =>
              cond (decide (r0.1 < (0 : Int)))
              (some ((-(1 : Int)), ()))
              (lp_laws_heldResultS_0 R L v0 r0.1 v4 (Go.IntKind.wrap .i64 (v5 + (1 : Int)))))
            (none))
          (none)))
      (none))
    (none))
  (some (v1, ()))) := by kernel_rfl
/-- loop.example/g00548/laws.FnExactMapBatch -/
theorem q_laws_FnExactMapBatch (R : Run EE) (L : Loops) (x0 : List ((Int × (Int × Unit)))) (x1 : List ((List (d14) × Unit))) : @Eq (Option ((Bool × Unit))) (bodyK EE R L 3 [⟨(.sl t0), x0⟩, ⟨(.sl (.pair (.sl t1) .unit)), x1⟩]) (
  (c_laws_szEntryS R x0 (1048576 : Int)).bind fun r0 =>
  cond (decide (r0.1 < (0 : Int)))
  (some (true, ()))
  ((c_laws_szTxnS R x1 r0.1).bind fun r1 =>
    cond (decide (r1.1 < (0 : Int)))
    (some (true, ()))
    ((c_laws_toEntryS R x0).bind fun r2 =>
      (c_laws_toTxnS R x1).bind fun r3 =>
      (c_spec_MapBatch R r2.1 r3.1).bind fun r4 =>
      (c_laws_toEntryS R x0).bind fun r5 =>
      (c_laws_toTxnS R x1).bind fun r6 =>
      (c_impl_MapBatch R r5.1 r6.1).bind fun r7 =>
      (c_laws_eqEntryS R r7.1 r4.1).bind fun r8 =>
      cond (!r8.1)
      (some (false, ()))
      ((c_laws_eqResultS R r7.2.1 r4.2.1).bind fun r9 =>
        cond (!r9.1)
        (some (false, ()))
        (cond (!(Go.Rf.eqI r7.2.2.1 r4.2.2.1))
          (some (false, ()))
          ((c_laws_toEntryS R x0).bind fun r10 =>
            (c_laws_eqEntryS R r5.1 r10.1).bind fun r11 =>
            cond (!r11.1)
            (some (false, ()))
            ((c_laws_toTxnS R x1).bind fun r12 =>
              (c_laws_eqTxnS R r6.1 r12.1).bind fun r13 =>
              cond (!r13.1)
              (some (false, ()))
              ((c_laws_markEntryS R r5.1 (1 : Int)).bind fun r14 =>
                (c_laws_markTxnS R r6.1 r14.1).bind fun r15 =>
                cond (decide (r15.1 < (0 : Int)))
                (some (false, ()))
                ((c_laws_eqEntryS R r7.1 r4.1).bind fun r16 =>
                  cond (!r16.1)
                  (some (false, ()))
                  ((c_laws_eqResultS R r7.2.1 r4.2.1).bind fun r17 =>
                    cond (!r17.1)
                    (some (false, ()))
                    (cond (!(Go.Rf.eqI r7.2.2.1 r4.2.2.1))
                      (some (false, ()))
                      ((c_laws_markEntryS R r7.1 (1 : Int)).bind fun r18 =>
                        (c_laws_markResultS R r7.2.1 r18.1).bind fun r19 =>
                        (c_laws_heldEntryS R r18.2.1 (1 : Int)).bind fun r20 =>
                        cond (decide (r20.1 < (0 : Int)))
                        (some (false, ()))
                        ((c_laws_heldResultS R r19.2.1 r20.1).bind fun r21 =>
                          cond (decide (r21.1 < (0 : Int)))
                          (some (false, ()))
                          (cond (!(Go.Rf.eqI r21.1 r19.1))
                            (some (false, ()))
                            ((c_laws_toEntryS R x0).bind fun r22 =>
                              (c_laws_toTxnS R x1).bind fun r23 =>
                              (c_impl_MapBatch R r22.1 r23.1).bind fun r24 =>
                              (c_laws_eqEntryS R r24.1 r4.1).bind fun r25 =>
                              cond (!r25.1)
                              (some (false, ()))
                              ((c_laws_eqResultS R r24.2.1 r4.2.1).bind fun r26 =>
                                cond (!r26.1)
                                (some (false, ()))
                                (cond (!(Go.Rf.eqI r24.2.2.1 r4.2.2.1))
                                  (some (false, ()))
                                  ((c_laws_heldEntryS R r18.2.1 (1 : Int)).bind fun r27 =>
                                    cond (decide (r27.1 < (0 : Int)))
                                    (some (false, ()))
                                    ((c_laws_heldResultS R r19.2.1 r27.1).bind fun r28 =>
                                      cond (decide (r28.1 < (0 : Int)))
                                      (some (false, ()))
                                      (cond (!(Go.Rf.eqI r28.1 r19.1))
                                        (some (false, ()))
                                        (some (true, ())))))))))))))))))))))) := by kernel_rfl

end Go.Rf.S
