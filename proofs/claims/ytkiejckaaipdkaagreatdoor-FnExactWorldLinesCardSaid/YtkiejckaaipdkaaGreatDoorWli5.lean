import Derived.Test.YtkiejckaaipdkaaGreatDoorProg
import Derived.KernelRfl
import Derived.Test.YtkiejckaaipdkaaGreatDoorRfD
set_option linter.unusedVariables false
set_option linter.unusedSimpArgs false
open Go Go.Rf
set_option maxRecDepth 100000
namespace Go.Rf.S
abbrev t0 : Ty := (.pair (.int .i64) (.pair (.int .i64) (.pair (.int .i64) (.pair (.int .i64) (.pair .str (.pair .str (.pair .str .unit)))))))
abbrev t1 : Ty := (.pair (.int .i64) (.pair .str .unit))
abbrev t2 : Ty := (.pair (.sl .str) (.pair (.sl t1) .unit))
abbrev t3 : Ty := (.pair .str (.pair t0 (.pair t2 (.pair .bool (.pair .bool .unit)))))
abbrev t4 : Ty := (.pair (.int .i64) (.pair (.int .i64) .unit))
abbrev t5 : Ty := (.pair (.int .i64) (.pair (.int .i64) (.pair (.int .i64) .unit)))
abbrev t6 : Ty := (.pair (.int .i64) (.pair (.sl (.int .i64)) .unit))
abbrev t7 : Ty := (.pair t3 (.pair t2 (.pair (.sl t4) (.pair (.sl (.sl (.pair (.sl t5) .unit))) (.pair (.sl t6) (.pair .bool .unit))))))
abbrev t8 : Ty := (.pair (.pair (.sl t5) .unit) .unit)
abbrev t9 : Ty := (.pair (.sl (.pair (.sl t5) .unit)) .unit)
abbrev t10 : Ty := (.pair (.sl (.sl (.pair (.sl t5) .unit))) .unit)
abbrev t11 : Ty := (.pair (.sl .str) (.pair (.int .i64) .unit))
abbrev t12 : Ty := (.pair (.int .i64) (.pair (.sl .str) .unit))
abbrev t13 : Ty := (.pair (.int .i64) (.pair (.sl t1) .unit))
abbrev t14 : Ty := (.pair (.int .i64) (.pair t2 .unit))
abbrev t15 : Ty := (.pair (.int .i64) (.pair t3 .unit))
abbrev t16 : Ty := (.pair (.int .i64) (.pair (.sl t4) .unit))
abbrev t17 : Ty := (.pair (.int .i64) (.pair (.sl t5) .unit))
abbrev t18 : Ty := (.pair (.int .i64) (.pair (.sl (.pair (.sl t5) .unit)) .unit))
abbrev t19 : Ty := (.pair (.int .i64) (.pair (.sl (.sl (.pair (.sl t5) .unit))) .unit))
abbrev t20 : Ty := (.pair (.int .i64) (.pair (.sl t6) .unit))
abbrev t21 : Ty := (.pair (.int .i64) (.pair t7 .unit))
abbrev d22 : Type := (Int × (Int × (Int × (Int × (List UInt8 × (List UInt8 × (List UInt8 × Unit)))))))
abbrev d23 : Type := (Int × (List UInt8 × Unit))
abbrev d24 : Type := (List (List UInt8) × (List (d23) × Unit))
abbrev d25 : Type := (List UInt8 × (d22 × (d24 × (Bool × (Bool × Unit)))))
abbrev d26 : Type := (Int × (Int × (Int × Unit)))
abbrev d27 : Type := (Int × (List (Int) × Unit))
abbrev d28 : Type := (d25 × (d24 × (List ((Int × (Int × Unit))) × (List (List ((List (d26) × Unit))) × (List (d27) × (Bool × Unit))))))
abbrev d29 : Type := (List (List UInt8) × Unit)
abbrev d30 : Type := ((Int × (Int × Unit)) × Unit)
abbrev d31 : Type := (List ((Int × (Int × Unit))) × Unit)
abbrev d32 : Type := ((List (d26) × Unit) × Unit)
abbrev d33 : Type := (List ((List (d26) × Unit)) × Unit)
abbrev d34 : Type := (List (List ((List (d26) × Unit))) × Unit)
abbrev d35 : Type := (List (List UInt8) × (Int × Unit))
abbrev d36 : Type := (Int × (List (List UInt8) × Unit))
abbrev d37 : Type := (Int × (List (d23) × Unit))
abbrev d38 : Type := (Int × (List ((Int × (Int × Unit))) × Unit))
abbrev d39 : Type := (Int × (List (d26) × Unit))
abbrev d40 : Type := (Int × (List ((List (d26) × Unit)) × Unit))
abbrev d41 : Type := (Int × (List (List ((List (d26) × Unit))) × Unit))
abbrev d42 : Type := (Int × (List (d27) × Unit))
abbrev d43 : Type := (Int × (List (UInt8) × Unit))
noncomputable def cfgs : List (Nat × FCfg) := [
  (53, ⟨[.ro t0, .ro (.int .i64)], 1, (.pair (.int .i64) .unit), .sh, [0, 1, 2, 4, 11, 18, 25], [(3, 0), (6, 0), (10, 1), (9, 0)]⟩),
  (54, ⟨[.ro (.sl .str), .ro (.int .i64)], 1, (.pair (.int .i64) .unit), .sh, [0, 1, 4, 5, 11, 15, 26], [(3, 0), (10, 1), (9, 0)]⟩),
  (103, ⟨[.ro t1, .ro (.int .i64)], 1, (.pair (.int .i64) .unit), .sh, [0, 1, 2, 4, 11], [(4, 1), (3, 0)]⟩),
  (55, ⟨[.ro (.sl t1), .ro (.int .i64)], 1, (.pair (.int .i64) .unit), .sh, [0, 1, 4, 5, 11, 15, 25], [(3, 0), (10, 1), (9, 0)]⟩),
  (20, ⟨[.ro t2, .ro (.int .i64)], 1, (.pair (.int .i64) .unit), .sh, [0, 1, 2, 4, 10, 16], [(3, 0), (7, 1), (6, 0)]⟩),
  (19, ⟨[.ro t3, .ro (.int .i64)], 1, (.pair (.int .i64) .unit), .sh, [0, 1, 2, 4, 11, 17, 23], [(3, 0), (6, 0), (10, 1), (9, 0)]⟩),
  (21, ⟨[.ro (.sl t4), .ro (.int .i64)], 1, (.pair (.int .i64) .unit), .sh, [0, 1, 4, 10], [(4, 1), (3, 0)]⟩),
  (151, ⟨[.ro (.sl t5), .ro (.int .i64)], 1, (.pair (.int .i64) .unit), .sh, [0, 1, 4, 10], [(4, 1), (3, 0)]⟩),
  (104, ⟨[.ro (.pair (.sl t5) .unit), .ro (.int .i64)], 1, (.pair (.int .i64) .unit), .sh, [0, 1, 2, 4, 10], [(4, 1), (3, 0)]⟩),
  (56, ⟨[.ro (.sl (.pair (.sl t5) .unit)), .ro (.int .i64)], 1, (.pair (.int .i64) .unit), .sh, [0, 1, 4, 5, 11, 15, 25], [(3, 0), (10, 1), (9, 0)]⟩),
  (22, ⟨[.ro (.sl (.sl (.pair (.sl t5) .unit))), .ro (.int .i64)], 1, (.pair (.int .i64) .unit), .sh, [0, 1, 4, 5, 11, 15, 25], [(3, 0), (10, 1), (9, 0)]⟩),
  (105, ⟨[.ro (.sl (.int .i64)), .ro (.int .i64)], 1, (.pair (.int .i64) .unit), .sh, [0, 1, 4, 10], [(4, 1), (3, 0)]⟩),
  (57, ⟨[.ro t6, .ro (.int .i64)], 1, (.pair (.int .i64) .unit), .sh, [0, 1, 2, 4, 10], [(4, 1), (3, 0)]⟩),
  (23, ⟨[.ro (.sl t6), .ro (.int .i64)], 1, (.pair (.int .i64) .unit), .sh, [0, 1, 4, 5, 11, 15, 25], [(3, 0), (10, 1), (9, 0)]⟩),
  (5, ⟨[.ro t7, .ro (.int .i64)], 1, (.pair (.int .i64) .unit), .sh, [0, 1, 2, 4, 10, 16, 22, 28, 34], [(3, 0), (6, 0), (9, 0), (12, 0), (16, 1), (15, 0)]⟩),
  (66, ⟨[.ro t0], 1, (.pair t0 .unit), .sh, [0, 1, 2, 3], [(9, 1)]⟩),
  (67, ⟨[.ro (.sl .str)], 1, (.pair (.sl .str) .unit), (.pr (.own .sh) .sh), [0, 2, 3, 4, 11], [(1, 2), (6, 1)]⟩),
  (112, ⟨[.ro t1], 1, (.pair t1 .unit), .sh, [0, 1, 2, 3], [(4, 1)]⟩),
  (68, ⟨[.ro (.sl t1)], 1, (.pair (.sl t1) .unit), (.pr (.own .sh) .sh), [0, 2, 3, 4, 11], [(1, 2), (6, 1)]⟩),
  (27, ⟨[.ro t2], 1, (.pair t2 .unit), (.pr (.pr (.own .sh) (.pr (.own .sh) .sh)) .sh), [0, 1, 2, 3], [(4, 1)]⟩),
  (26, ⟨[.ro t3], 1, (.pair t3 .unit), (.pr (.pr .sh (.pr .sh (.pr (.pr (.own .sh) (.pr (.own .sh) .sh)) .sh))) .sh), [0, 1, 2, 3], [(7, 1)]⟩),
  (69, ⟨[.ro t4], 1, (.pair t4 .unit), .sh, [0, 1, 2, 3], [(4, 1)]⟩),
  (28, ⟨[.ro (.sl t4)], 1, (.pair (.sl t4) .unit), (.pr (.own .sh) .sh), [0, 2, 3, 4, 11], [(1, 2), (6, 1)]⟩),
  (183, ⟨[.ro t5], 1, (.pair t5 .unit), .sh, [0, 1, 2, 3], [(5, 1)]⟩),
  (154, ⟨[.ro (.sl t5)], 1, (.pair (.sl t5) .unit), (.pr (.own .sh) .sh), [0, 2, 3, 4, 11], [(1, 2), (6, 1)]⟩),
  (113, ⟨[.ro (.pair (.sl t5) .unit)], 1, t8, (.pr (.pr (.own .sh) .sh) .sh), [0, 1, 2, 3], [(3, 1)]⟩),
  (70, ⟨[.ro (.sl (.pair (.sl t5) .unit))], 1, t9, (.pr (.own (.pr (.own .sh) .sh)) .sh), [0, 2, 3, 4, 11], [(1, 2), (6, 1)]⟩),
  (29, ⟨[.ro (.sl (.sl (.pair (.sl t5) .unit)))], 1, t10, (.pr (.own (.own (.pr (.own .sh) .sh))) .sh), [0, 2, 3, 4, 11], [(1, 2), (6, 1)]⟩),
  (114, ⟨[.ro (.sl (.int .i64))], 1, (.pair (.sl (.int .i64)) .unit), (.pr (.own .sh) .sh), [0, 2, 3, 4, 11], [(1, 2), (6, 1)]⟩),
  (71, ⟨[.ro t6], 1, (.pair t6 .unit), (.pr (.pr .sh (.pr (.own .sh) .sh)) .sh), [0, 1, 2, 3], [(4, 1)]⟩),
  (30, ⟨[.ro (.sl t6)], 1, (.pair (.sl t6) .unit), (.pr (.own (.pr .sh (.pr (.own .sh) .sh))) .sh), [0, 2, 3, 4, 11], [(1, 2), (6, 1)]⟩),
  (7, ⟨[.ro t7], 1, (.pair t7 .unit), (.pr (.pr (.pr .sh (.pr .sh (.pr (.pr (.own .sh) (.pr (.own .sh) .sh)) .sh))) (.pr (.pr (.own .sh) (.pr (.own .sh) .sh)) (.pr (.own .sh) (.pr (.own (.own (.pr (.own .sh) .sh))) (.pr (.own (.pr .sh (.pr (.own .sh) .sh))) .sh))))) .sh), [0, 1, 2, 3], [(8, 1)]⟩),
  (108, ⟨[.ro (.int .i64), .ro (.int .i64), .ro (.int .i64)], 1, (.pair .bool .unit), .sh, [0, 1, 2, 6], [(1, 8)]⟩),
  (106, ⟨[.ro t0], 1, (.pair .bool .unit), .sh, [0, 1, 2], [(1, 56)]⟩),
  (107, ⟨[.ro (.int .i64)], 1, (.pair .bool .unit), .sh, [0, 2], [(1, 2)]⟩),
  (59, ⟨[.ro t2], 1, (.pair .bool .unit), .sh, [0, 1, 2, 3, 4, 14, 19, 28, 33, 53], [(2, 0), (7, 0), (13, 0), (12, 0)]⟩),
  (58, ⟨[.ro t3], 1, (.pair .bool .unit), .sh, [0, 1, 2], [(1, 30)]⟩),
  (60, ⟨[.ro (.sl t4)], 1, (.pair .bool .unit), .sh, [0, 2, 3, 6, 10, 46], [(2, 0), (8, 3), (7, 0)]⟩),
  (109, ⟨[.ro t6], 1, (.pair .bool .unit), .sh, [0, 1, 2, 3, 24, 29, 38], [(2, 0), (8, 0), (7, 0)]⟩),
  (61, ⟨[.ro (.sl t6)], 1, (.pair .bool .unit), .sh, [0, 2, 3, 7, 15], [(6, 3), (5, 0)]⟩),
  (152, ⟨[.ro t5], 1, (.pair .bool .unit), .sh, [1000015, 0, 1, 2, 12, 14, 15, 21], [(2, 0), (9, 3), (6, 3), (8, 3)]⟩),
  (110, ⟨[.ro (.pair (.sl t5) .unit)], 1, (.pair .bool .unit), .sh, [0, 1, 2, 3, 8, 17], [(6, 4), (5, 0)]⟩),
  (62, ⟨[.ro (.sl (.pair (.sl t5) .unit))], 1, (.pair .bool .unit), .sh, [0, 2, 3, 6, 10, 14, 22], [(2, 0), (4, 0), (10, 0), (9, 0)]⟩),
  (24, ⟨[.ro t7], 1, (.pair .bool .unit), .sh, [0, 1, 2, 3, 47, 52, 61], [(2, 0), (8, 0), (7, 0)]⟩),
  (63, ⟨[.ro (.int .i64)], 1, (.pair .str .unit), .sh, [0, 2, 4, 6, 12], [(2, 0), (4, 4), (7, 10), (6, 5)]⟩),
  (153, ⟨[], 1, (.pair (.sl .str) .unit), (.pr (.own .sh) .sh), [0], [(1, 1)]⟩),
  (111, ⟨[.ro t5], 1, (.pair .str .unit), .sh, [0, 1, 2, 3, 21], [(4, 1)]⟩),
  (88, ⟨[.ro (.sl .str), .ro .str], 1, (.pair .str .unit), .sh, [0, 1, 4, 5, 6, 10, 14], [(8, 1)]⟩),
  (64, ⟨[.ro (.sl (.pair (.sl t5) .unit))], 1, (.pair .str .unit), .sh, [0, 2, 3, 4, 5, 6, 11, 22], [(11, 2)]⟩),
  (65, ⟨[.ro .bool], 1, (.pair (.int .i64) .unit), .sh, [0, 2, 3], [(3, 0), (2, 0)]⟩),
  (25, ⟨[.ro t7], 1, (.pair (.sl .str) .unit), (.pr (.own .sh) .sh), [0, 1, 2, 3, 4, 5, 11, 38], [(10, 10)]⟩),
  (6, ⟨[.ro t7], 2, t11, (.pr (.own .sh) .sh), [0, 1, 2, 3, 6], [(3, 2), (3, 3), (2, 1), (2, 2)]⟩),
  (121, ⟨[.ro (.int .i64), .ro (.int .i64), .ro (.int .i64)], 1, (.pair .bool .unit), .sh, [0, 1, 2, 6], [(1, 8)]⟩),
  (155, ⟨[.ro .str], 1, (.pair .bool .unit), .sh, [0, 2], [(1, 3)]⟩),
  (75, ⟨[.ro t0], 1, (.pair (.int .i64) .unit), .sh, [0, 1, 2], [(1, 5)]⟩),
  (115, ⟨[.ro t0], 1, (.pair .bool .unit), .sh, [0, 1, 2], [(1, 51)]⟩),
  (136, ⟨[.ro .str, .ro (.ptr .fn)], 1, (.pair .bool .unit), .sh, [0, 1, 3], [(1, 4)]⟩),
  (175, ⟨[.ro (.sl .str), .ro .fn], 1, (.pair (.int .i64) .unit), .sh, [0, 1, 4, 5, 7, 8, 9, 16], [(7, 0), (5, 1)]⟩),
  (135, ⟨[.ro (.sl .str), .ro .fn], 1, (.pair .bool .unit), .sh, [0, 1, 4], [(1, 4)]⟩),
  (92, ⟨[.ro (.sl .str), .ro .fn], 1, (.pair .bool .unit), .sh, [0, 1, 3, 4], [(1, 4)]⟩),
  (156, ⟨[.ro .str], 1, (.pair .bool .unit), .sh, [0, 2], [(1, 3)]⟩),
  (185, ⟨[.ro t1, .ro (.ptr .fn)], 1, (.pair .bool .unit), .sh, [0, 1, 2, 3], [(1, 4)]⟩),
  (207, ⟨[.ro (.sl t1), .ro .fn], 1, (.pair (.int .i64) .unit), .sh, [0, 1, 4, 5, 7, 8, 9, 16], [(7, 0), (5, 1)]⟩),
  (184, ⟨[.ro (.sl t1), .ro .fn], 1, (.pair .bool .unit), .sh, [0, 1, 4], [(1, 4)]⟩),
  (157, ⟨[.ro (.sl t1), .ro .fn], 1, (.pair .bool .unit), .sh, [0, 1, 3, 4], [(1, 4)]⟩),
  (149, ⟨[.ro (.int .i64)], 1, (.pair .bool .unit), .sh, [0, 2], [(1, 2)]⟩),
  (158, ⟨[.ro t1], 1, (.pair .bool .unit), .sh, [0, 1, 2], [(1, 8)]⟩),
  (116, ⟨[.ro t2], 1, (.pair .bool .unit), .sh, [0, 1, 2], [(1, 20)]⟩),
  (73, ⟨[.ro t2], 1, (.pair .bool .unit), .sh, [0, 1, 2], [(1, 8)]⟩),
  (72, ⟨[.ro t3], 1, (.pair .bool .unit), .sh, [0, 1, 2], [(1, 23)]⟩),
  (117, ⟨[.ro (.int .i64)], 1, (.pair .bool .unit), .sh, [0, 2], [(1, 2)]⟩),
  (118, ⟨[.ro (.int .i64)], 1, (.pair .bool .unit), .sh, [0, 2], [(1, 2)]⟩),
  (74, ⟨[.ro (.sl t4)], 1, (.pair .bool .unit), .sh, [0, 2, 3, 4, 5, 6, 7, 8, 36], [(7, 3), (5, 0)]⟩),
  (120, ⟨[.ro (.sl (.pair (.sl t5) .unit)), .ro (.ptr .fn)], 1, (.pair .bool .unit), .sh, [0, 1, 3], [(1, 4)]⟩),
  (159, ⟨[.ro (.sl (.sl (.pair (.sl t5) .unit))), .ro .fn], 1, (.pair (.int .i64) .unit), .sh, [0, 1, 4, 5, 7, 8, 9, 16], [(7, 0), (5, 1)]⟩),
  (119, ⟨[.ro (.sl (.sl (.pair (.sl t5) .unit))), .ro .fn], 1, (.pair .bool .unit), .sh, [0, 1, 4], [(1, 4)]⟩),
  (76, ⟨[.ro (.sl (.sl (.pair (.sl t5) .unit))), .ro .fn], 1, (.pair .bool .unit), .sh, [0, 1, 3, 4], [(1, 4)]⟩),
  (161, ⟨[.ro (.pair (.sl t5) .unit), .ro (.ptr .fn)], 1, (.pair .bool .unit), .sh, [0, 1, 2, 3], [(1, 4)]⟩),
  (186, ⟨[.ro (.sl (.pair (.sl t5) .unit)), .ro .fn], 1, (.pair (.int .i64) .unit), .sh, [0, 1, 4, 5, 7, 8, 9, 16], [(7, 0), (5, 1)]⟩),
  (160, ⟨[.ro (.sl (.pair (.sl t5) .unit)), .ro .fn], 1, (.pair .bool .unit), .sh, [0, 1, 4], [(1, 4)]⟩),
  (122, ⟨[.ro (.sl (.pair (.sl t5) .unit)), .ro .fn], 1, (.pair .bool .unit), .sh, [0, 1, 3, 4], [(1, 4)]⟩),
  (188, ⟨[.ro t5, .ro (.ptr .fn)], 1, (.pair .bool .unit), .sh, [0, 1, 2, 3], [(1, 4)]⟩),
  (208, ⟨[.ro (.sl t5), .ro .fn], 1, (.pair (.int .i64) .unit), .sh, [0, 1, 4, 5, 7, 8, 9, 16], [(7, 0), (5, 1)]⟩),
  (187, ⟨[.ro (.sl t5), .ro .fn], 1, (.pair .bool .unit), .sh, [0, 1, 4], [(1, 4)]⟩),
  (162, ⟨[.ro (.sl t5), .ro .fn], 1, (.pair .bool .unit), .sh, [0, 1, 3, 4], [(1, 4)]⟩),
  (170, ⟨[.ro (.int .i64)], 1, (.pair .bool .unit), .sh, [0, 2], [(1, 6)]⟩),
  (163, ⟨[.ro t5], 1, (.pair .bool .unit), .sh, [0, 1, 2, 12, 13, 20], [(2, 0), (7, 3), (4, 3), (6, 3)]⟩),
  (123, ⟨[.ro (.pair (.sl t5) .unit)], 1, (.pair .bool .unit), .sh, [0, 1, 2], [(1, 9)]⟩),
  (77, ⟨[.ro (.sl (.pair (.sl t5) .unit))], 1, (.pair .bool .unit), .sh, [0, 2], [(1, 7)]⟩),
  (165, ⟨[.ro t6, .ro (.ptr .fn)], 1, (.pair .bool .unit), .sh, [0, 1, 2, 3], [(1, 4)]⟩),
  (189, ⟨[.ro (.sl t6), .ro .fn], 1, (.pair (.int .i64) .unit), .sh, [0, 1, 4, 5, 7, 8, 9, 16], [(7, 0), (5, 1)]⟩),
  (164, ⟨[.ro (.sl t6), .ro .fn], 1, (.pair .bool .unit), .sh, [0, 1, 4], [(1, 4)]⟩),
  (124, ⟨[.ro (.sl t6), .ro .fn], 1, (.pair .bool .unit), .sh, [0, 1, 3, 4], [(1, 4)]⟩),
  (166, ⟨[.ro (.int .i64)], 1, (.pair .bool .unit), .sh, [0, 2], [(1, 2)]⟩),
  (191, ⟨[.ro (.int .i64), .ro (.ptr .fn)], 1, (.pair .bool .unit), .sh, [0, 1, 3], [(1, 4)]⟩),
  (209, ⟨[.ro (.sl (.int .i64)), .ro .fn], 1, (.pair (.int .i64) .unit), .sh, [0, 1, 4, 5, 7, 8, 9, 16], [(7, 0), (5, 1)]⟩),
  (190, ⟨[.ro (.sl (.int .i64)), .ro .fn], 1, (.pair .bool .unit), .sh, [0, 1, 4], [(1, 4)]⟩),
  (167, ⟨[.ro (.sl (.int .i64)), .ro .fn], 1, (.pair .bool .unit), .sh, [0, 1, 3, 4], [(1, 4)]⟩),
  (125, ⟨[.ro t6], 1, (.pair .bool .unit), .sh, [0, 1, 2], [(1, 25)]⟩),
  (78, ⟨[.ro (.sl t6)], 1, (.pair .bool .unit), .sh, [0, 2], [(1, 7)]⟩),
  (31, ⟨[.ro t7], 1, (.pair .bool .unit), .sh, [0, 1, 2], [(1, 33)]⟩),
  (79, ⟨[.ro (.int .i64)], 1, (.pair .str .unit), .sh, [], []⟩),
  (169, ⟨[], 1, (.pair (.sl .str) .unit), (.pr (.own .sh) .sh), [0], [(1, 1)]⟩),
  (127, ⟨[.ro t5], 1, (.pair .str .unit), .sh, [0, 1, 2, 3, 16], [(4, 6), (3, 1)]⟩),
  (128, ⟨[.ro (.sl .str), .ro .str], 1, (.pair .str .unit), .sh, [], []⟩),
  (80, ⟨[.ro (.sl (.pair (.sl t5) .unit))], 1, (.pair .str .unit), .sh, [0, 2, 3, 5, 6, 8, 9, 10, 11, 12, 16, 17, 18, 19], [(13, 2), (4000085, 0), (4000085, 2), (4000085, 5), (4000085, 6), (4000085, 8), (4000085, 12), (4000085, 16), (4000085, 17), (4000085, 18), (4000085, 19), (4000038, 0), (4000038, 2), (4000038, 5), (4000038, 8), (4000038, 12), (4000038, 19)]⟩),
  (32, ⟨[.ro t7], 1, (.pair (.sl .str) .unit), (.pr (.own .sh) .sh), [0, 1, 2, 3, 5, 7, 9, 10, 11, 12, 29, 30, 31, 32, 43], [(14, 3), (13, 3), (4000022, 0), (4000022, 2), (4000022, 5), (4000022, 7), (4000022, 12), (4000022, 29), (4000022, 30), (4000022, 31), (4000022, 32), (4000022, 43), (4000042, 0), (4000042, 2), (4000042, 5), (4000042, 7), (4000042, 9), (4000042, 10), (4000042, 11), (4000042, 12), (4000042, 32), (4000042, 43)]⟩),
  (8, ⟨[.ro t7], 2, t11, (.pr (.own .sh) .sh), [0, 1, 2, 3, 6], [(3, 2), (3, 3), (2, 0), (2, 1)]⟩),
  (9, ⟨[.ro (.sl .str), .ro (.sl .str)], 1, (.pair .bool .unit), .sh, [0, 1, 4, 5, 10, 14, 25], [(2, 0), (8, 0), (7, 0)]⟩),
  (81, ⟨[.ro t0, .ro t0], 1, (.pair .bool .unit), .sh, [0, 1, 2, 3, 4, 9, 14, 19, 24, 29, 34, 39], [(2, 0), (4, 0), (6, 0), (8, 0), (10, 0), (12, 0), (15, 0), (14, 0)]⟩),
  (129, ⟨[.ro t1, .ro t1], 1, (.pair .bool .unit), .sh, [0, 1, 2, 3, 4, 9, 14], [(2, 0), (5, 0), (4, 0)]⟩),
  (82, ⟨[.ro (.sl t1), .ro (.sl t1)], 1, (.pair .bool .unit), .sh, [0, 1, 4, 5, 10, 14, 26], [(2, 0), (8, 0), (7, 0)]⟩),
  (34, ⟨[.ro t2, .ro t2], 1, (.pair .bool .unit), .sh, [0, 1, 2, 3, 4, 10, 16], [(2, 0), (5, 0), (4, 0)]⟩),
  (33, ⟨[.ro t3, .ro t3], 1, (.pair .bool .unit), .sh, [0, 1, 2, 3, 4, 9, 15, 21, 26, 31], [(2, 0), (4, 0), (6, 0), (8, 0), (11, 0), (10, 0)]⟩),
  (83, ⟨[.ro t4, .ro t4], 1, (.pair .bool .unit), .sh, [0, 1, 2, 3, 4, 9, 14], [(2, 0), (5, 0), (4, 0)]⟩),
  (35, ⟨[.ro (.sl t4), .ro (.sl t4)], 1, (.pair .bool .unit), .sh, [0, 1, 4, 5, 10, 14, 26], [(2, 0), (8, 0), (7, 0)]⟩),
  (182, ⟨[.ro t5, .ro t5], 1, (.pair .bool .unit), .sh, [0, 1, 2, 3, 4, 9, 14, 19], [(2, 0), (4, 0), (7, 0), (6, 0)]⟩),
  (150, ⟨[.ro (.sl t5), .ro (.sl t5)], 1, (.pair .bool .unit), .sh, [0, 1, 4, 5, 10, 14, 26], [(2, 0), (8, 0), (7, 0)]⟩),
  (100, ⟨[.ro (.pair (.sl t5) .unit), .ro (.pair (.sl t5) .unit)], 1, (.pair .bool .unit), .sh, [0, 1, 2, 3, 4, 10], [(3, 0), (2, 0)]⟩),
  (47, ⟨[.ro (.sl (.pair (.sl t5) .unit)), .ro (.sl (.pair (.sl t5) .unit))], 1, (.pair .bool .unit), .sh, [0, 1, 4, 5, 10, 14, 26], [(2, 0), (8, 0), (7, 0)]⟩),
  (36, ⟨[.ro (.sl (.sl (.pair (.sl t5) .unit))), .ro (.sl (.sl (.pair (.sl t5) .unit)))], 1, (.pair .bool .unit), .sh, [0, 1, 4, 5, 10, 14, 26], [(2, 0), (8, 0), (7, 0)]⟩),
  (48, ⟨[.ro (.sl (.int .i64)), .ro (.sl (.int .i64))], 1, (.pair .bool .unit), .sh, [0, 1, 4, 5, 10, 14, 25], [(2, 0), (8, 0), (7, 0)]⟩),
  (84, ⟨[.ro t6, .ro t6], 1, (.pair .bool .unit), .sh, [0, 1, 2, 3, 4, 9, 15], [(2, 0), (5, 0), (4, 0)]⟩),
  (37, ⟨[.ro (.sl t6), .ro (.sl t6)], 1, (.pair .bool .unit), .sh, [0, 1, 4, 5, 10, 14, 26], [(2, 0), (8, 0), (7, 0)]⟩),
  (10, ⟨[.ro t7, .ro t7], 1, (.pair .bool .unit), .sh, [0, 1, 2, 3, 4, 10, 16, 22, 28, 34, 39], [(2, 0), (4, 0), (6, 0), (8, 0), (10, 0), (13, 0), (12, 0)]⟩),
  (43, ⟨[.ro (.int .i64)], 1, (.pair .str .unit), .sh, [0, 2, 3, 5, 7], [(2, 0), (7, 2)]⟩),
  (12, ⟨[.io (.sl .str) (.own .sh) (.own .sh) 0 [], .ro (.int .i64)], 1, t12, (.pr .sh (.pr (.own .sh) .sh)), [0, 1, 4, 5, 9], [(6, 1)]⟩),
  (85, ⟨[.io (.sl t1) (.own .sh) (.own .sh) 0 [], .ro (.int .i64)], 1, t13, (.pr .sh (.pr (.own .sh) .sh)), [0, 1, 4, 5, 9], [(8, 1)]⟩),
  (39, ⟨[.io t2 (.pr (.own .sh) (.pr (.own .sh) .sh)) (.pr (.own .sh) (.pr (.own .sh) .sh)) 2 [.der], .ro (.int .i64)], 1, t14, (.pr .sh (.pr (.pr (.own .sh) (.pr (.own .sh) .sh)) .sh)), [0, 1, 2, 4], [(3, 1)]⟩),
  (38, ⟨[.io t3 (.pr .sh (.pr .sh (.pr (.pr (.own .sh) (.pr (.own .sh) .sh)) .sh))) (.pr .sh (.pr .sh (.pr (.pr (.own .sh) (.pr (.own .sh) .sh)) .sh))) 2 [.der], .ro (.int .i64)], 1, t15, (.pr .sh (.pr (.pr .sh (.pr .sh (.pr (.pr (.own .sh) (.pr (.own .sh) .sh)) .sh))) .sh)), [0, 1, 2, 4], [(2, 1)]⟩),
  (40, ⟨[.io (.sl t4) (.own .sh) (.own .sh) 0 [], .ro (.int .i64)], 1, t16, (.pr .sh (.pr (.own .sh) .sh)), [0, 1, 4, 5, 9], [(8, 1)]⟩),
  (101, ⟨[.io (.sl t5) (.own .sh) (.own .sh) 0 [], .ro (.int .i64)], 1, t17, (.pr .sh (.pr (.own .sh) .sh)), [0, 1, 4, 5, 9], [(10, 1)]⟩),
  (49, ⟨[.io (.sl (.pair (.sl t5) .unit)) (.own (.pr (.own .sh) .sh)) (.own (.pr (.own .sh) .sh)) 0 [], .ro (.int .i64)], 1, t18, (.pr .sh (.pr (.own (.pr (.own .sh) .sh)) .sh)), [0, 1, 4, 5, 9], [(5, 1)]⟩),
  (41, ⟨[.io (.sl (.sl (.pair (.sl t5) .unit))) (.own (.own (.pr (.own .sh) .sh))) (.own (.own (.pr (.own .sh) .sh))) 0 [], .ro (.int .i64)], 1, t19, (.pr .sh (.pr (.own (.own (.pr (.own .sh) .sh))) .sh)), [0, 1, 4, 5, 9], [(5, 1)]⟩),
  (50, ⟨[.io (.sl (.int .i64)) (.own .sh) (.own .sh) 0 [], .ro (.int .i64)], 1, t6, (.pr .sh (.pr (.own .sh) .sh)), [0, 1, 4, 5, 9], [(6, 1)]⟩),
  (42, ⟨[.io (.sl t6) (.own (.pr .sh (.pr (.own .sh) .sh))) (.own (.pr .sh (.pr (.own .sh) .sh))) 0 [], .ro (.int .i64)], 1, t20, (.pr .sh (.pr (.own (.pr .sh (.pr (.own .sh) .sh))) .sh)), [0, 1, 4, 5, 9], [(7, 1)]⟩),
  (11, ⟨[.io t7 (.pr (.pr .sh (.pr .sh (.pr (.pr (.own .sh) (.pr (.own .sh) .sh)) .sh))) (.pr (.pr (.own .sh) (.pr (.own .sh) .sh)) (.pr (.own .sh) (.pr (.own (.own (.pr (.own .sh) .sh))) (.pr (.own (.pr .sh (.pr (.own .sh) .sh))) .sh))))) (.pr (.pr .sh (.pr .sh (.pr (.pr (.own .sh) (.pr (.own .sh) .sh)) .sh))) (.pr (.pr (.own .sh) (.pr (.own .sh) .sh)) (.pr (.own .sh) (.pr (.own (.own (.pr (.own .sh) .sh))) (.pr (.own (.pr .sh (.pr (.own .sh) .sh))) .sh))))) 2 [.der], .ro (.int .i64)], 1, t21, (.pr .sh (.pr (.pr (.pr .sh (.pr .sh (.pr (.pr (.own .sh) (.pr (.own .sh) .sh)) .sh))) (.pr (.pr (.own .sh) (.pr (.own .sh) .sh)) (.pr (.own .sh) (.pr (.own (.own (.pr (.own .sh) .sh))) (.pr (.own (.pr .sh (.pr (.own .sh) .sh))) .sh))))) .sh)), [0, 1, 2, 4], [(6, 1)]⟩),
  (13, ⟨[.ro (.sl .str), .ro (.int .i64)], 1, (.pair (.int .i64) .unit), .sh, [0, 1, 4, 5, 9, 18], [(7, 1), (5, 0)]⟩),
  (3, ⟨[.ro t7], 1, (.pair .bool .unit), .sh, [0, 1, 2, 3, 4, 5, 6, 7, 8, 9, 10, 11, 12, 13, 18, 40, 45, 61, 69, 72, 87, 92, 95], [(4, 0), (9, 0), (11, 0), (15, 0), (21, 0), (23, 0), (26, 0), (30, 0), (33, 0), (32, 0)]⟩)]
noncomputable def EE : Env := ⟨Go.Proofs.Tryz.prog, lookC cfgs⟩
/-- loop.example/g00548/laws.szRegister -/
noncomputable def c_laws_szRegister (R : Run EE) (x0 : d22) (x1 : Int) : Option ((Int × Unit)) := R 53 [⟨t0, x0⟩, ⟨(.int .i64), x1⟩]
/-- loop.example/g00548/laws.szStringS -/
noncomputable def c_laws_szStringS (R : Run EE) (x0 : List (List UInt8)) (x1 : Int) : Option ((Int × Unit)) := R 54 [⟨(.sl .str), x0⟩, ⟨(.int .i64), x1⟩]
/-- loop.example/g00548/laws.szIo -/
noncomputable def c_laws_szIo (R : Run EE) (x0 : d23) (x1 : Int) : Option ((Int × Unit)) := R 103 [⟨t1, x0⟩, ⟨(.int .i64), x1⟩]
/-- loop.example/g00548/laws.szIoS -/
noncomputable def c_laws_szIoS (R : Run EE) (x0 : List (d23)) (x1 : Int) : Option ((Int × Unit)) := R 55 [⟨(.sl t1), x0⟩, ⟨(.int .i64), x1⟩]
/-- loop.example/g00548/laws.szDevice -/
noncomputable def c_laws_szDevice (R : Run EE) (x0 : d24) (x1 : Int) : Option ((Int × Unit)) := R 20 [⟨t2, x0⟩, ⟨(.int .i64), x1⟩]
/-- loop.example/g00548/laws.szStore -/
noncomputable def c_laws_szStore (R : Run EE) (x0 : d25) (x1 : Int) : Option ((Int × Unit)) := R 19 [⟨t3, x0⟩, ⟨(.int .i64), x1⟩]
/-- loop.example/g00548/laws.szEntryS -/
noncomputable def c_laws_szEntryS (R : Run EE) (x0 : List ((Int × (Int × Unit)))) (x1 : Int) : Option ((Int × Unit)) := R 21 [⟨(.sl t4), x0⟩, ⟨(.int .i64), x1⟩]
/-- loop.example/g00548/laws.szOpS -/
noncomputable def c_laws_szOpS (R : Run EE) (x0 : List (d26)) (x1 : Int) : Option ((Int × Unit)) := R 151 [⟨(.sl t5), x0⟩, ⟨(.int .i64), x1⟩]
/-- loop.example/g00548/laws.szTxn -/
noncomputable def c_laws_szTxn (R : Run EE) (x0 : (List (d26) × Unit)) (x1 : Int) : Option ((Int × Unit)) := R 104 [⟨(.pair (.sl t5) .unit), x0⟩, ⟨(.int .i64), x1⟩]
/-- loop.example/g00548/laws.szTxnS -/
noncomputable def c_laws_szTxnS (R : Run EE) (x0 : List ((List (d26) × Unit))) (x1 : Int) : Option ((Int × Unit)) := R 56 [⟨(.sl (.pair (.sl t5) .unit)), x0⟩, ⟨(.int .i64), x1⟩]
/-- loop.example/g00548/laws.szTxnSS -/
noncomputable def c_laws_szTxnSS (R : Run EE) (x0 : List (List ((List (d26) × Unit)))) (x1 : Int) : Option ((Int × Unit)) := R 22 [⟨(.sl (.sl (.pair (.sl t5) .unit))), x0⟩, ⟨(.int .i64), x1⟩]
/-- loop.example/g00548/laws.szIntS -/
noncomputable def c_laws_szIntS (R : Run EE) (x0 : List (Int)) (x1 : Int) : Option ((Int × Unit)) := R 105 [⟨(.sl (.int .i64)), x0⟩, ⟨(.int .i64), x1⟩]
/-- loop.example/g00548/laws.szResult -/
noncomputable def c_laws_szResult (R : Run EE) (x0 : d27) (x1 : Int) : Option ((Int × Unit)) := R 57 [⟨t6, x0⟩, ⟨(.int .i64), x1⟩]
/-- loop.example/g00548/laws.szResultS -/
noncomputable def c_laws_szResultS (R : Run EE) (x0 : List (d27)) (x1 : Int) : Option ((Int × Unit)) := R 23 [⟨(.sl t6), x0⟩, ⟨(.int .i64), x1⟩]
/-- loop.example/g00548/laws.szWorld -/
noncomputable def c_laws_szWorld (R : Run EE) (x0 : d28) (x1 : Int) : Option ((Int × Unit)) := R 5 [⟨t7, x0⟩, ⟨(.int .i64), x1⟩]
/-- loop.example/g00548/laws.toRegister -/
noncomputable def c_laws_toRegister (R : Run EE) (x0 : d22) : Option ((d22 × Unit)) := R 66 [⟨t0, x0⟩]
/-- loop.example/g00548/laws.toStringS -/
noncomputable def c_laws_toStringS (R : Run EE) (x0 : List (List UInt8)) : Option (d29) := R 67 [⟨(.sl .str), x0⟩]
/-- loop.example/g00548/laws.toIo -/
noncomputable def c_laws_toIo (R : Run EE) (x0 : d23) : Option ((d23 × Unit)) := R 112 [⟨t1, x0⟩]
/-- loop.example/g00548/laws.toIoS -/
noncomputable def c_laws_toIoS (R : Run EE) (x0 : List (d23)) : Option ((List (d23) × Unit)) := R 68 [⟨(.sl t1), x0⟩]
/-- loop.example/g00548/laws.toDevice -/
noncomputable def c_laws_toDevice (R : Run EE) (x0 : d24) : Option ((d24 × Unit)) := R 27 [⟨t2, x0⟩]
/-- loop.example/g00548/laws.toStore -/
noncomputable def c_laws_toStore (R : Run EE) (x0 : d25) : Option ((d25 × Unit)) := R 26 [⟨t3, x0⟩]
/-- loop.example/g00548/laws.toEntry -/
noncomputable def c_laws_toEntry (R : Run EE) (x0 : (Int × (Int × Unit))) : Option (d30) := R 69 [⟨t4, x0⟩]
/-- loop.example/g00548/laws.toEntryS -/
noncomputable def c_laws_toEntryS (R : Run EE) (x0 : List ((Int × (Int × Unit)))) : Option (d31) := R 28 [⟨(.sl t4), x0⟩]
/-- loop.example/g00548/laws.toOp -/
noncomputable def c_laws_toOp (R : Run EE) (x0 : d26) : Option ((d26 × Unit)) := R 183 [⟨t5, x0⟩]
/-- loop.example/g00548/laws.toOpS -/
noncomputable def c_laws_toOpS (R : Run EE) (x0 : List (d26)) : Option ((List (d26) × Unit)) := R 154 [⟨(.sl t5), x0⟩]
/-- loop.example/g00548/laws.toTxn -/
noncomputable def c_laws_toTxn (R : Run EE) (x0 : (List (d26) × Unit)) : Option (d32) := R 113 [⟨(.pair (.sl t5) .unit), x0⟩]
/-- loop.example/g00548/laws.toTxnS -/
noncomputable def c_laws_toTxnS (R : Run EE) (x0 : List ((List (d26) × Unit))) : Option (d33) := R 70 [⟨(.sl (.pair (.sl t5) .unit)), x0⟩]
/-- loop.example/g00548/laws.toTxnSS -/
noncomputable def c_laws_toTxnSS (R : Run EE) (x0 : List (List ((List (d26) × Unit)))) : Option (d34) := R 29 [⟨(.sl (.sl (.pair (.sl t5) .unit))), x0⟩]
/-- loop.example/g00548/laws.toIntS -/
noncomputable def c_laws_toIntS (R : Run EE) (x0 : List (Int)) : Option ((List (Int) × Unit)) := R 114 [⟨(.sl (.int .i64)), x0⟩]
/-- loop.example/g00548/laws.toResult -/
noncomputable def c_laws_toResult (R : Run EE) (x0 : d27) : Option ((d27 × Unit)) := R 71 [⟨t6, x0⟩]
/-- loop.example/g00548/laws.toResultS -/
noncomputable def c_laws_toResultS (R : Run EE) (x0 : List (d27)) : Option ((List (d27) × Unit)) := R 30 [⟨(.sl t6), x0⟩]
/-- loop.example/g00548/laws.toWorld -/
noncomputable def c_laws_toWorld (R : Run EE) (x0 : d28) : Option ((d28 × Unit)) := R 7 [⟨t7, x0⟩]
/-- loop.example/g00548/spec.l01In -/
noncomputable def c_spec_l01In (R : Run EE) (x0 : Int) (x1 : Int) (x2 : Int) : Option ((Bool × Unit)) := R 108 [⟨(.int .i64), x0⟩, ⟨(.int .i64), x1⟩, ⟨(.int .i64), x2⟩]
/-- loop.example/g00548/spec.RegisterOK -/
noncomputable def c_spec_RegisterOK (R : Run EE) (x0 : d22) : Option ((Bool × Unit)) := R 106 [⟨t0, x0⟩]
/-- loop.example/g00548/spec.l05In -/
noncomputable def c_spec_l05In (R : Run EE) (x0 : Int) : Option ((Bool × Unit)) := R 107 [⟨(.int .i64), x0⟩]
/-- loop.example/g00548/spec.DeviceOK -/
noncomputable def c_spec_DeviceOK (R : Run EE) (x0 : d24) : Option ((Bool × Unit)) := R 59 [⟨t2, x0⟩]
/-- loop.example/g00548/spec.StoreOK -/
noncomputable def c_spec_StoreOK (R : Run EE) (x0 : d25) : Option ((Bool × Unit)) := R 58 [⟨t3, x0⟩]
/-- loop.example/g00548/spec.MapOK -/
noncomputable def c_spec_MapOK (R : Run EE) (x0 : List ((Int × (Int × Unit)))) : Option ((Bool × Unit)) := R 60 [⟨(.sl t4), x0⟩]
/-- loop.example/g00548/spec.l10ResultOK -/
noncomputable def c_spec_l10ResultOK (R : Run EE) (x0 : d27) : Option ((Bool × Unit)) := R 109 [⟨t6, x0⟩]
/-- loop.example/g00548/spec.l12Results -/
noncomputable def c_spec_l12Results (R : Run EE) (x0 : List (d27)) : Option ((Bool × Unit)) := R 61 [⟨(.sl t6), x0⟩]
/-- loop.example/g00548/spec.OpOK -/
noncomputable def c_spec_OpOK (R : Run EE) (x0 : d26) : Option ((Bool × Unit)) := R 152 [⟨t5, x0⟩]
/-- loop.example/g00548/spec.l09Txn -/
noncomputable def c_spec_l09Txn (R : Run EE) (x0 : (List (d26) × Unit)) : Option ((Bool × Unit)) := R 110 [⟨(.pair (.sl t5) .unit), x0⟩]
/-- loop.example/g00548/spec.BatchOK -/
noncomputable def c_spec_BatchOK (R : Run EE) (x0 : List ((List (d26) × Unit))) : Option ((Bool × Unit)) := R 62 [⟨(.sl (.pair (.sl t5) .unit)), x0⟩]
/-- loop.example/g00548/spec.WorldOK -/
noncomputable def c_spec_WorldOK (R : Run EE) (x0 : d28) : Option ((Bool × Unit)) := R 24 [⟨t7, x0⟩]
/-- loop.example/g00548/spec.l00Digits -/
noncomputable def c_spec_l00Digits (R : Run EE) (x0 : Int) : Option ((List UInt8 × Unit)) := R 63 [⟨(.int .i64), x0⟩]
/-- loop.example/g00548/spec.l09Words -/
noncomputable def c_spec_l09Words (R : Run EE)  : Option (d29) := R 153 []
/-- loop.example/g00548/spec.l09Op -/
noncomputable def c_spec_l09Op (R : Run EE) (x0 : d26) : Option ((List UInt8 × Unit)) := R 111 [⟨t5, x0⟩]
/-- loop.example/g00548/spec.l00Join -/
noncomputable def c_spec_l00Join (R : Run EE) (x0 : List (List UInt8)) (x1 : List UInt8) : Option ((List UInt8 × Unit)) := R 88 [⟨(.sl .str), x0⟩, ⟨.str, x1⟩]
/-- loop.example/g00548/spec.l09Text -/
noncomputable def c_spec_l09Text (R : Run EE) (x0 : List ((List (d26) × Unit))) : Option ((List UInt8 × Unit)) := R 64 [⟨(.sl (.pair (.sl t5) .unit)), x0⟩]
/-- loop.example/g00548/spec.l01Bit -/
noncomputable def c_spec_l01Bit (R : Run EE) (x0 : Bool) : Option ((Int × Unit)) := R 65 [⟨.bool, x0⟩]
/-- loop.example/g00548/spec.l15World -/
noncomputable def c_spec_l15World (R : Run EE) (x0 : d28) : Option (d29) := R 25 [⟨t7, x0⟩]
/-- loop.example/g00548/spec.WorldLines -/
noncomputable def c_spec_WorldLines (R : Run EE) (x0 : d28) : Option (d35) := R 6 [⟨t7, x0⟩]
/-- loop.example/g00548/impl.within -/
noncomputable def c_impl_within (R : Run EE) (x0 : Int) (x1 : Int) (x2 : Int) : Option ((Bool × Unit)) := R 121 [⟨(.int .i64), x0⟩, ⟨(.int .i64), x1⟩, ⟨(.int .i64), x2⟩]
/-- loop.example/g00548/impl.isDigest -/
noncomputable def c_impl_isDigest (R : Run EE) (x0 : List UInt8) : Option ((Bool × Unit)) := R 155 [⟨.str, x0⟩]
/-- (loop.example/g00548/impl.Register).waiting -/
noncomputable def c_impl_Register_waiting (R : Run EE) (x0 : d22) : Option ((Int × Unit)) := R 75 [⟨t0, x0⟩]
/-- loop.example/g00548/impl.RegisterOK -/
noncomputable def c_impl_RegisterOK (R : Run EE) (x0 : d22) : Option ((Bool × Unit)) := R 115 [⟨t0, x0⟩]
/-- loop.example/g00548/impl.areAll[string]$1 -/
noncomputable def c_impl_areAll_string__1 (R : Run EE) (x0 : List UInt8) (x1 : FnVal) : Option ((Bool × Unit)) := R 136 [⟨.str, x0⟩, ⟨(.ptr .fn), x1⟩]
/-- slices.IndexFunc[[]string,string] -/
noncomputable def c_slices_IndexFunc___string_string_ (R : Run EE) (x0 : List (List UInt8)) (x1 : FnVal) : Option ((Int × Unit)) := R 175 [⟨(.sl .str), x0⟩, ⟨.fn, x1⟩]
/-- slices.ContainsFunc[[]string,string] -/
noncomputable def c_slices_ContainsFunc___string_string_ (R : Run EE) (x0 : List (List UInt8)) (x1 : FnVal) : Option ((Bool × Unit)) := R 135 [⟨(.sl .str), x0⟩, ⟨.fn, x1⟩]
/-- loop.example/g00548/impl.areAll[string] -/
noncomputable def c_impl_areAll_string_ (R : Run EE) (x0 : List (List UInt8)) (x1 : FnVal) : Option ((Bool × Unit)) := R 92 [⟨(.sl .str), x0⟩, ⟨.fn, x1⟩]
/-- loop.example/g00548/impl.isContent -/
noncomputable def c_impl_isContent (R : Run EE) (x0 : List UInt8) : Option ((Bool × Unit)) := R 156 [⟨.str, x0⟩]
/-- loop.example/g00548/impl.areAll[loop.example/g00548/impl.Io]$1 -/
noncomputable def c_impl_areAll_impl_Io__1 (R : Run EE) (x0 : d23) (x1 : FnVal) : Option ((Bool × Unit)) := R 185 [⟨t1, x0⟩, ⟨(.ptr .fn), x1⟩]
/-- slices.IndexFunc[[]loop.example/g00548/impl.Io,loop.example/g00548/impl.Io] -/
noncomputable def c_slices_IndexFunc___impl_Io_impl_Io_ (R : Run EE) (x0 : List (d23)) (x1 : FnVal) : Option ((Int × Unit)) := R 207 [⟨(.sl t1), x0⟩, ⟨.fn, x1⟩]
/-- slices.ContainsFunc[[]loop.example/g00548/impl.Io,loop.example/g00548/impl.Io] -/
noncomputable def c_slices_ContainsFunc___impl_Io_impl_Io_ (R : Run EE) (x0 : List (d23)) (x1 : FnVal) : Option ((Bool × Unit)) := R 184 [⟨(.sl t1), x0⟩, ⟨.fn, x1⟩]
/-- loop.example/g00548/impl.areAll[loop.example/g00548/impl.Io] -/
noncomputable def c_impl_areAll_impl_Io_ (R : Run EE) (x0 : List (d23)) (x1 : FnVal) : Option ((Bool × Unit)) := R 157 [⟨(.sl t1), x0⟩, ⟨.fn, x1⟩]
/-- loop.example/g00548/impl.isSector -/
noncomputable def c_impl_isSector (R : Run EE) (x0 : Int) : Option ((Bool × Unit)) := R 149 [⟨(.int .i64), x0⟩]
/-- loop.example/g00548/impl.DeviceOK$1 -/
noncomputable def c_impl_DeviceOK_1 (R : Run EE) (x0 : d23) : Option ((Bool × Unit)) := R 158 [⟨t1, x0⟩]
/-- loop.example/g00548/impl.DeviceOK -/
noncomputable def c_impl_DeviceOK (R : Run EE) (x0 : d24) : Option ((Bool × Unit)) := R 116 [⟨t2, x0⟩]
/-- loop.example/g00548/impl.isSure -/
noncomputable def c_impl_isSure (R : Run EE) (x0 : d24) : Option ((Bool × Unit)) := R 73 [⟨t2, x0⟩]
/-- loop.example/g00548/impl.StoreOK -/
noncomputable def c_impl_StoreOK (R : Run EE) (x0 : d25) : Option ((Bool × Unit)) := R 72 [⟨t3, x0⟩]
/-- loop.example/g00548/impl.isKey -/
noncomputable def c_impl_isKey (R : Run EE) (x0 : Int) : Option ((Bool × Unit)) := R 117 [⟨(.int .i64), x0⟩]
/-- loop.example/g00548/impl.isValue -/
noncomputable def c_impl_isValue (R : Run EE) (x0 : Int) : Option ((Bool × Unit)) := R 118 [⟨(.int .i64), x0⟩]
/-- loop.example/g00548/impl.MapOK -/
noncomputable def c_impl_MapOK (R : Run EE) (x0 : List ((Int × (Int × Unit)))) : Option ((Bool × Unit)) := R 74 [⟨(.sl t4), x0⟩]
/-- loop.example/g00548/impl.areAll[[]loop.example/g00548/impl.Txn]$1 -/
noncomputable def c_impl_areAll___impl_Txn__1 (R : Run EE) (x0 : List ((List (d26) × Unit))) (x1 : FnVal) : Option ((Bool × Unit)) := R 120 [⟨(.sl (.pair (.sl t5) .unit)), x0⟩, ⟨(.ptr .fn), x1⟩]
/-- slices.IndexFunc[[][]loop.example/g00548/impl.Txn,[]loop.example/g00548/impl.Txn] -/
noncomputable def c_slices_IndexFunc_____impl_Txn___impl_Txn_ (R : Run EE) (x0 : List (List ((List (d26) × Unit)))) (x1 : FnVal) : Option ((Int × Unit)) := R 159 [⟨(.sl (.sl (.pair (.sl t5) .unit))), x0⟩, ⟨.fn, x1⟩]
/-- slices.ContainsFunc[[][]loop.example/g00548/impl.Txn,[]loop.example/g00548/impl.Txn] -/
noncomputable def c_slices_ContainsFunc_____impl_Txn___impl_Txn_ (R : Run EE) (x0 : List (List ((List (d26) × Unit)))) (x1 : FnVal) : Option ((Bool × Unit)) := R 119 [⟨(.sl (.sl (.pair (.sl t5) .unit))), x0⟩, ⟨.fn, x1⟩]
/-- loop.example/g00548/impl.areAll[[]loop.example/g00548/impl.Txn] -/
noncomputable def c_impl_areAll___impl_Txn_ (R : Run EE) (x0 : List (List ((List (d26) × Unit)))) (x1 : FnVal) : Option ((Bool × Unit)) := R 76 [⟨(.sl (.sl (.pair (.sl t5) .unit))), x0⟩, ⟨.fn, x1⟩]
/-- loop.example/g00548/impl.areAll[loop.example/g00548/impl.Txn]$1 -/
noncomputable def c_impl_areAll_impl_Txn__1 (R : Run EE) (x0 : (List (d26) × Unit)) (x1 : FnVal) : Option ((Bool × Unit)) := R 161 [⟨(.pair (.sl t5) .unit), x0⟩, ⟨(.ptr .fn), x1⟩]
/-- slices.IndexFunc[[]loop.example/g00548/impl.Txn,loop.example/g00548/impl.Txn] -/
noncomputable def c_slices_IndexFunc___impl_Txn_impl_Txn_ (R : Run EE) (x0 : List ((List (d26) × Unit))) (x1 : FnVal) : Option ((Int × Unit)) := R 186 [⟨(.sl (.pair (.sl t5) .unit)), x0⟩, ⟨.fn, x1⟩]
/-- slices.ContainsFunc[[]loop.example/g00548/impl.Txn,loop.example/g00548/impl.Txn] -/
noncomputable def c_slices_ContainsFunc___impl_Txn_impl_Txn_ (R : Run EE) (x0 : List ((List (d26) × Unit))) (x1 : FnVal) : Option ((Bool × Unit)) := R 160 [⟨(.sl (.pair (.sl t5) .unit)), x0⟩, ⟨.fn, x1⟩]
/-- loop.example/g00548/impl.areAll[loop.example/g00548/impl.Txn] -/
noncomputable def c_impl_areAll_impl_Txn_ (R : Run EE) (x0 : List ((List (d26) × Unit))) (x1 : FnVal) : Option ((Bool × Unit)) := R 122 [⟨(.sl (.pair (.sl t5) .unit)), x0⟩, ⟨.fn, x1⟩]
/-- loop.example/g00548/impl.areAll[loop.example/g00548/impl.Op]$1 -/
noncomputable def c_impl_areAll_impl_Op__1 (R : Run EE) (x0 : d26) (x1 : FnVal) : Option ((Bool × Unit)) := R 188 [⟨t5, x0⟩, ⟨(.ptr .fn), x1⟩]
/-- slices.IndexFunc[[]loop.example/g00548/impl.Op,loop.example/g00548/impl.Op] -/
noncomputable def c_slices_IndexFunc___impl_Op_impl_Op_ (R : Run EE) (x0 : List (d26)) (x1 : FnVal) : Option ((Int × Unit)) := R 208 [⟨(.sl t5), x0⟩, ⟨.fn, x1⟩]
/-- slices.ContainsFunc[[]loop.example/g00548/impl.Op,loop.example/g00548/impl.Op] -/
noncomputable def c_slices_ContainsFunc___impl_Op_impl_Op_ (R : Run EE) (x0 : List (d26)) (x1 : FnVal) : Option ((Bool × Unit)) := R 187 [⟨(.sl t5), x0⟩, ⟨.fn, x1⟩]
/-- loop.example/g00548/impl.areAll[loop.example/g00548/impl.Op] -/
noncomputable def c_impl_areAll_impl_Op_ (R : Run EE) (x0 : List (d26)) (x1 : FnVal) : Option ((Bool × Unit)) := R 162 [⟨(.sl t5), x0⟩, ⟨.fn, x1⟩]
/-- loop.example/g00548/impl.isBare -/
noncomputable def c_impl_isBare (R : Run EE) (x0 : Int) : Option ((Bool × Unit)) := R 170 [⟨(.int .i64), x0⟩]
/-- loop.example/g00548/impl.OpOK -/
noncomputable def c_impl_OpOK (R : Run EE) (x0 : d26) : Option ((Bool × Unit)) := R 163 [⟨t5, x0⟩]
/-- loop.example/g00548/impl.isTxn -/
noncomputable def c_impl_isTxn (R : Run EE) (x0 : (List (d26) × Unit)) : Option ((Bool × Unit)) := R 123 [⟨(.pair (.sl t5) .unit), x0⟩]
/-- loop.example/g00548/impl.BatchOK -/
noncomputable def c_impl_BatchOK (R : Run EE) (x0 : List ((List (d26) × Unit))) : Option ((Bool × Unit)) := R 77 [⟨(.sl (.pair (.sl t5) .unit)), x0⟩]
/-- loop.example/g00548/impl.areAll[loop.example/g00548/impl.Result]$1 -/
noncomputable def c_impl_areAll_impl_Result__1 (R : Run EE) (x0 : d27) (x1 : FnVal) : Option ((Bool × Unit)) := R 165 [⟨t6, x0⟩, ⟨(.ptr .fn), x1⟩]
/-- slices.IndexFunc[[]loop.example/g00548/impl.Result,loop.example/g00548/impl.Result] -/
noncomputable def c_slices_IndexFunc___impl_Result_impl_Result_ (R : Run EE) (x0 : List (d27)) (x1 : FnVal) : Option ((Int × Unit)) := R 189 [⟨(.sl t6), x0⟩, ⟨.fn, x1⟩]
/-- slices.ContainsFunc[[]loop.example/g00548/impl.Result,loop.example/g00548/impl.Result] -/
noncomputable def c_slices_ContainsFunc___impl_Result_impl_Result_ (R : Run EE) (x0 : List (d27)) (x1 : FnVal) : Option ((Bool × Unit)) := R 164 [⟨(.sl t6), x0⟩, ⟨.fn, x1⟩]
/-- loop.example/g00548/impl.areAll[loop.example/g00548/impl.Result] -/
noncomputable def c_impl_areAll_impl_Result_ (R : Run EE) (x0 : List (d27)) (x1 : FnVal) : Option ((Bool × Unit)) := R 124 [⟨(.sl t6), x0⟩, ⟨.fn, x1⟩]
/-- loop.example/g00548/impl.isCode -/
noncomputable def c_impl_isCode (R : Run EE) (x0 : Int) : Option ((Bool × Unit)) := R 166 [⟨(.int .i64), x0⟩]
/-- loop.example/g00548/impl.areAll[int]$1 -/
noncomputable def c_impl_areAll_int__1 (R : Run EE) (x0 : Int) (x1 : FnVal) : Option ((Bool × Unit)) := R 191 [⟨(.int .i64), x0⟩, ⟨(.ptr .fn), x1⟩]
/-- slices.IndexFunc[[]int,int] -/
noncomputable def c_slices_IndexFunc___int_int_ (R : Run EE) (x0 : List (Int)) (x1 : FnVal) : Option ((Int × Unit)) := R 209 [⟨(.sl (.int .i64)), x0⟩, ⟨.fn, x1⟩]
/-- slices.ContainsFunc[[]int,int] -/
noncomputable def c_slices_ContainsFunc___int_int_ (R : Run EE) (x0 : List (Int)) (x1 : FnVal) : Option ((Bool × Unit)) := R 190 [⟨(.sl (.int .i64)), x0⟩, ⟨.fn, x1⟩]
/-- loop.example/g00548/impl.areAll[int] -/
noncomputable def c_impl_areAll_int_ (R : Run EE) (x0 : List (Int)) (x1 : FnVal) : Option ((Bool × Unit)) := R 167 [⟨(.sl (.int .i64)), x0⟩, ⟨.fn, x1⟩]
/-- loop.example/g00548/impl.isResult -/
noncomputable def c_impl_isResult (R : Run EE) (x0 : d27) : Option ((Bool × Unit)) := R 125 [⟨t6, x0⟩]
/-- loop.example/g00548/impl.areResults -/
noncomputable def c_impl_areResults (R : Run EE) (x0 : List (d27)) : Option ((Bool × Unit)) := R 78 [⟨(.sl t6), x0⟩]
/-- loop.example/g00548/impl.WorldOK -/
noncomputable def c_impl_WorldOK (R : Run EE) (x0 : d28) : Option ((Bool × Unit)) := R 31 [⟨t7, x0⟩]
/-- strconv.Itoa -/
noncomputable def c_strconv_Itoa (R : Run EE) (x0 : Int) : Option ((List UInt8 × Unit)) := R 79 [⟨(.int .i64), x0⟩]
/-- loop.example/g00548/impl.opWords -/
noncomputable def c_impl_opWords (R : Run EE)  : Option (d29) := R 169 []
/-- loop.example/g00548/impl.opText -/
noncomputable def c_impl_opText (R : Run EE) (x0 : d26) : Option ((List UInt8 × Unit)) := R 127 [⟨t5, x0⟩]
/-- strings.Join -/
noncomputable def c_strings_Join (R : Run EE) (x0 : List (List UInt8)) (x1 : List UInt8) : Option ((List UInt8 × Unit)) := R 128 [⟨(.sl .str), x0⟩, ⟨.str, x1⟩]
/-- loop.example/g00548/impl.batchText -/
noncomputable def c_impl_batchText (R : Run EE) (x0 : List ((List (d26) × Unit))) : Option ((List UInt8 × Unit)) := R 80 [⟨(.sl (.pair (.sl t5) .unit)), x0⟩]
/-- (loop.example/g00548/impl.World).lines -/
noncomputable def c_impl_World_lines (R : Run EE) (x0 : d28) : Option (d29) := R 32 [⟨t7, x0⟩]
/-- loop.example/g00548/impl.WorldLines -/
noncomputable def c_impl_WorldLines (R : Run EE) (x0 : d28) : Option (d35) := R 8 [⟨t7, x0⟩]
/-- loop.example/g00548/laws.eqStringS -/
noncomputable def c_laws_eqStringS (R : Run EE) (x0 : List (List UInt8)) (x1 : List (List UInt8)) : Option ((Bool × Unit)) := R 9 [⟨(.sl .str), x0⟩, ⟨(.sl .str), x1⟩]
/-- loop.example/g00548/laws.eqRegister -/
noncomputable def c_laws_eqRegister (R : Run EE) (x0 : d22) (x1 : d22) : Option ((Bool × Unit)) := R 81 [⟨t0, x0⟩, ⟨t0, x1⟩]
/-- loop.example/g00548/laws.eqIo -/
noncomputable def c_laws_eqIo (R : Run EE) (x0 : d23) (x1 : d23) : Option ((Bool × Unit)) := R 129 [⟨t1, x0⟩, ⟨t1, x1⟩]
/-- loop.example/g00548/laws.eqIoS -/
noncomputable def c_laws_eqIoS (R : Run EE) (x0 : List (d23)) (x1 : List (d23)) : Option ((Bool × Unit)) := R 82 [⟨(.sl t1), x0⟩, ⟨(.sl t1), x1⟩]
/-- loop.example/g00548/laws.eqDevice -/
noncomputable def c_laws_eqDevice (R : Run EE) (x0 : d24) (x1 : d24) : Option ((Bool × Unit)) := R 34 [⟨t2, x0⟩, ⟨t2, x1⟩]
/-- loop.example/g00548/laws.eqStore -/
noncomputable def c_laws_eqStore (R : Run EE) (x0 : d25) (x1 : d25) : Option ((Bool × Unit)) := R 33 [⟨t3, x0⟩, ⟨t3, x1⟩]
/-- loop.example/g00548/laws.eqEntry -/
noncomputable def c_laws_eqEntry (R : Run EE) (x0 : (Int × (Int × Unit))) (x1 : (Int × (Int × Unit))) : Option ((Bool × Unit)) := R 83 [⟨t4, x0⟩, ⟨t4, x1⟩]
/-- loop.example/g00548/laws.eqEntryS -/
noncomputable def c_laws_eqEntryS (R : Run EE) (x0 : List ((Int × (Int × Unit)))) (x1 : List ((Int × (Int × Unit)))) : Option ((Bool × Unit)) := R 35 [⟨(.sl t4), x0⟩, ⟨(.sl t4), x1⟩]
/-- loop.example/g00548/laws.eqOp -/
noncomputable def c_laws_eqOp (R : Run EE) (x0 : d26) (x1 : d26) : Option ((Bool × Unit)) := R 182 [⟨t5, x0⟩, ⟨t5, x1⟩]
/-- loop.example/g00548/laws.eqOpS -/
noncomputable def c_laws_eqOpS (R : Run EE) (x0 : List (d26)) (x1 : List (d26)) : Option ((Bool × Unit)) := R 150 [⟨(.sl t5), x0⟩, ⟨(.sl t5), x1⟩]
/-- loop.example/g00548/laws.eqTxn -/
noncomputable def c_laws_eqTxn (R : Run EE) (x0 : (List (d26) × Unit)) (x1 : (List (d26) × Unit)) : Option ((Bool × Unit)) := R 100 [⟨(.pair (.sl t5) .unit), x0⟩, ⟨(.pair (.sl t5) .unit), x1⟩]
/-- loop.example/g00548/laws.eqTxnS -/
noncomputable def c_laws_eqTxnS (R : Run EE) (x0 : List ((List (d26) × Unit))) (x1 : List ((List (d26) × Unit))) : Option ((Bool × Unit)) := R 47 [⟨(.sl (.pair (.sl t5) .unit)), x0⟩, ⟨(.sl (.pair (.sl t5) .unit)), x1⟩]
/-- loop.example/g00548/laws.eqTxnSS -/
noncomputable def c_laws_eqTxnSS (R : Run EE) (x0 : List (List ((List (d26) × Unit)))) (x1 : List (List ((List (d26) × Unit)))) : Option ((Bool × Unit)) := R 36 [⟨(.sl (.sl (.pair (.sl t5) .unit))), x0⟩, ⟨(.sl (.sl (.pair (.sl t5) .unit))), x1⟩]
/-- loop.example/g00548/laws.eqIntS -/
noncomputable def c_laws_eqIntS (R : Run EE) (x0 : List (Int)) (x1 : List (Int)) : Option ((Bool × Unit)) := R 48 [⟨(.sl (.int .i64)), x0⟩, ⟨(.sl (.int .i64)), x1⟩]
/-- loop.example/g00548/laws.eqResult -/
noncomputable def c_laws_eqResult (R : Run EE) (x0 : d27) (x1 : d27) : Option ((Bool × Unit)) := R 84 [⟨t6, x0⟩, ⟨t6, x1⟩]
/-- loop.example/g00548/laws.eqResultS -/
noncomputable def c_laws_eqResultS (R : Run EE) (x0 : List (d27)) (x1 : List (d27)) : Option ((Bool × Unit)) := R 37 [⟨(.sl t6), x0⟩, ⟨(.sl t6), x1⟩]
/-- loop.example/g00548/laws.eqWorld -/
noncomputable def c_laws_eqWorld (R : Run EE) (x0 : d28) (x1 : d28) : Option ((Bool × Unit)) := R 10 [⟨t7, x0⟩, ⟨t7, x1⟩]
/-- loop.example/g00548/laws.markText -/
noncomputable def c_laws_markText (R : Run EE) (x0 : Int) : Option ((List UInt8 × Unit)) := R 43 [⟨(.int .i64), x0⟩]
/-- loop.example/g00548/laws.markStringS -/
noncomputable def c_laws_markStringS (R : Run EE) (x0 : List (List UInt8)) (x1 : Int) : Option (d36) := R 12 [⟨(.sl .str), x0⟩, ⟨(.int .i64), x1⟩]
/-- loop.example/g00548/laws.markIoS -/
noncomputable def c_laws_markIoS (R : Run EE) (x0 : List (d23)) (x1 : Int) : Option (d37) := R 85 [⟨(.sl t1), x0⟩, ⟨(.int .i64), x1⟩]
/-- loop.example/g00548/laws.markDevice -/
noncomputable def c_laws_markDevice (R : Run EE) (x0 : d24) (x1 : Int) : Option ((Int × (d24 × Unit))) := R 39 [⟨t2, x0⟩, ⟨(.int .i64), x1⟩]
/-- loop.example/g00548/laws.markStore -/
noncomputable def c_laws_markStore (R : Run EE) (x0 : d25) (x1 : Int) : Option ((Int × (d25 × Unit))) := R 38 [⟨t3, x0⟩, ⟨(.int .i64), x1⟩]
/-- loop.example/g00548/laws.markEntryS -/
noncomputable def c_laws_markEntryS (R : Run EE) (x0 : List ((Int × (Int × Unit)))) (x1 : Int) : Option (d38) := R 40 [⟨(.sl t4), x0⟩, ⟨(.int .i64), x1⟩]
/-- loop.example/g00548/laws.markOpS -/
noncomputable def c_laws_markOpS (R : Run EE) (x0 : List (d26)) (x1 : Int) : Option (d39) := R 101 [⟨(.sl t5), x0⟩, ⟨(.int .i64), x1⟩]
/-- loop.example/g00548/laws.markTxnS -/
noncomputable def c_laws_markTxnS (R : Run EE) (x0 : List ((List (d26) × Unit))) (x1 : Int) : Option (d40) := R 49 [⟨(.sl (.pair (.sl t5) .unit)), x0⟩, ⟨(.int .i64), x1⟩]
/-- loop.example/g00548/laws.markTxnSS -/
noncomputable def c_laws_markTxnSS (R : Run EE) (x0 : List (List ((List (d26) × Unit)))) (x1 : Int) : Option (d41) := R 41 [⟨(.sl (.sl (.pair (.sl t5) .unit))), x0⟩, ⟨(.int .i64), x1⟩]
/-- loop.example/g00548/laws.markIntS -/
noncomputable def c_laws_markIntS (R : Run EE) (x0 : List (Int)) (x1 : Int) : Option (d27) := R 50 [⟨(.sl (.int .i64)), x0⟩, ⟨(.int .i64), x1⟩]
/-- loop.example/g00548/laws.markResultS -/
noncomputable def c_laws_markResultS (R : Run EE) (x0 : List (d27)) (x1 : Int) : Option (d42) := R 42 [⟨(.sl t6), x0⟩, ⟨(.int .i64), x1⟩]
/-- loop.example/g00548/laws.markWorld -/
noncomputable def c_laws_markWorld (R : Run EE) (x0 : d28) (x1 : Int) : Option ((Int × (d28 × Unit))) := R 11 [⟨t7, x0⟩, ⟨(.int .i64), x1⟩]
/-- loop.example/g00548/laws.heldStringS -/
noncomputable def c_laws_heldStringS (R : Run EE) (x0 : List (List UInt8)) (x1 : Int) : Option ((Int × Unit)) := R 13 [⟨(.sl .str), x0⟩, ⟨(.int .i64), x1⟩]
/-- loop.example/g00548/laws.FnExactWorldLines -/
noncomputable def c_laws_FnExactWorldLines (R : Run EE) (x0 : d28) : Option ((Bool × Unit)) := R 3 [⟨t7, x0⟩]

noncomputable def lp_laws_szStringS_0 (R : Run EE) (L : Loops) (v0 : List (List UInt8)) (v1 : Int) (v4 : Int) (v5 : Int) : Option ((Int × Unit)) := from_ EE R L 54 Go.Proofs.Tryz.f54 [1, 1, 1, 0, 1, 0] (mk 28 [(0, .dat ⟨(.sl .str), v0, .sh⟩), (1, .dat ⟨(.int .i64), v1, .sh⟩), (4, .dat ⟨(.int .i64), v4, .sh⟩), (5, .dat ⟨(.int .i64), v5, .sh⟩)])
noncomputable def lp_laws_szIoS_0 (R : Run EE) (L : Loops) (v0 : List (d23)) (v1 : Int) (v4 : Int) (v5 : Int) : Option ((Int × Unit)) := from_ EE R L 55 Go.Proofs.Tryz.f55 [1, 1, 1, 0, 1, 0] (mk 27 [(0, .dat ⟨(.sl t1), v0, .sh⟩), (1, .dat ⟨(.int .i64), v1, .sh⟩), (4, .dat ⟨(.int .i64), v4, .sh⟩), (5, .dat ⟨(.int .i64), v5, .sh⟩)])
noncomputable def lp_laws_szTxnS_0 (R : Run EE) (L : Loops) (v0 : List ((List (d26) × Unit))) (v1 : Int) (v4 : Int) (v5 : Int) : Option ((Int × Unit)) := from_ EE R L 56 Go.Proofs.Tryz.f56 [1, 1, 1, 0, 1, 0] (mk 27 [(0, .dat ⟨(.sl (.pair (.sl t5) .unit)), v0, .sh⟩), (1, .dat ⟨(.int .i64), v1, .sh⟩), (4, .dat ⟨(.int .i64), v4, .sh⟩), (5, .dat ⟨(.int .i64), v5, .sh⟩)])
noncomputable def lp_laws_szTxnSS_0 (R : Run EE) (L : Loops) (v0 : List (List ((List (d26) × Unit)))) (v1 : Int) (v4 : Int) (v5 : Int) : Option ((Int × Unit)) := from_ EE R L 22 Go.Proofs.Tryz.f22 [1, 1, 1, 0, 1, 0] (mk 27 [(0, .dat ⟨(.sl (.sl (.pair (.sl t5) .unit))), v0, .sh⟩), (1, .dat ⟨(.int .i64), v1, .sh⟩), (4, .dat ⟨(.int .i64), v4, .sh⟩), (5, .dat ⟨(.int .i64), v5, .sh⟩)])
noncomputable def lp_laws_szResultS_0 (R : Run EE) (L : Loops) (v0 : List (d27)) (v1 : Int) (v4 : Int) (v5 : Int) : Option ((Int × Unit)) := from_ EE R L 23 Go.Proofs.Tryz.f23 [1, 1, 1, 0, 1, 0] (mk 27 [(0, .dat ⟨(.sl t6), v0, .sh⟩), (1, .dat ⟨(.int .i64), v1, .sh⟩), (4, .dat ⟨(.int .i64), v4, .sh⟩), (5, .dat ⟨(.int .i64), v5, .sh⟩)])
noncomputable def lp_laws_toStringS_0 (R : Run EE) (L : Loops) (v0 : List (List UInt8)) (v2 : List (List UInt8)) (v3 : List (List UInt8)) (v4 : Int) : Option (d29) := from_ EE R L 67 Go.Proofs.Tryz.f67 [1, 1, 0, 1, 0] (mk 22 [(0, .dat ⟨(.sl .str), v0, .sh⟩), (2, .dat ⟨(.sl .str), v2, (.own .sh)⟩), (3, .dat ⟨(.sl .str), v3, (.own .sh)⟩), (4, .dat ⟨(.int .i64), v4, .sh⟩)])
noncomputable def lp_laws_toIoS_0 (R : Run EE) (L : Loops) (v0 : List (d23)) (v2 : List (d23)) (v3 : List (d23)) (v4 : Int) : Option ((List (d23) × Unit)) := from_ EE R L 68 Go.Proofs.Tryz.f68 [1, 1, 0, 1, 0] (mk 23 [(0, .dat ⟨(.sl t1), v0, .sh⟩), (2, .dat ⟨(.sl t1), v2, (.own .sh)⟩), (3, .dat ⟨(.sl t1), v3, (.own .sh)⟩), (4, .dat ⟨(.int .i64), v4, .sh⟩)])
noncomputable def lp_laws_toEntryS_0 (R : Run EE) (L : Loops) (v0 : List ((Int × (Int × Unit)))) (v2 : List ((Int × (Int × Unit)))) (v3 : List ((Int × (Int × Unit)))) (v4 : Int) : Option (d31) := from_ EE R L 28 Go.Proofs.Tryz.f28 [1, 1, 0, 1, 0] (mk 23 [(0, .dat ⟨(.sl t4), v0, .sh⟩), (2, .dat ⟨(.sl t4), v2, (.own .sh)⟩), (3, .dat ⟨(.sl t4), v3, (.own .sh)⟩), (4, .dat ⟨(.int .i64), v4, .sh⟩)])
noncomputable def lp_laws_toOpS_0 (R : Run EE) (L : Loops) (v0 : List (d26)) (v2 : List (d26)) (v3 : List (d26)) (v4 : Int) : Option ((List (d26) × Unit)) := from_ EE R L 154 Go.Proofs.Tryz.f154 [1, 1, 0, 1, 0] (mk 23 [(0, .dat ⟨(.sl t5), v0, .sh⟩), (2, .dat ⟨(.sl t5), v2, (.own .sh)⟩), (3, .dat ⟨(.sl t5), v3, (.own .sh)⟩), (4, .dat ⟨(.int .i64), v4, .sh⟩)])
noncomputable def lp_laws_toTxnS_0 (R : Run EE) (L : Loops) (v0 : List ((List (d26) × Unit))) (v2 : List ((List (d26) × Unit))) (v3 : List ((List (d26) × Unit))) (v4 : Int) : Option (d33) := from_ EE R L 70 Go.Proofs.Tryz.f70 [1, 1, 0, 1, 0] (mk 23 [(0, .dat ⟨(.sl (.pair (.sl t5) .unit)), v0, .sh⟩), (2, .dat ⟨(.sl (.pair (.sl t5) .unit)), v2, (.own (.pr (.own .sh) .sh))⟩), (3, .dat ⟨(.sl (.pair (.sl t5) .unit)), v3, (.own (.pr (.own .sh) .sh))⟩), (4, .dat ⟨(.int .i64), v4, .sh⟩)])
noncomputable def lp_laws_toTxnSS_0 (R : Run EE) (L : Loops) (v0 : List (List ((List (d26) × Unit)))) (v2 : List (List ((List (d26) × Unit)))) (v3 : List (List ((List (d26) × Unit)))) (v4 : Int) : Option (d34) := from_ EE R L 29 Go.Proofs.Tryz.f29 [1, 1, 0, 1, 0] (mk 23 [(0, .dat ⟨(.sl (.sl (.pair (.sl t5) .unit))), v0, .sh⟩), (2, .dat ⟨(.sl (.sl (.pair (.sl t5) .unit))), v2, (.own (.own .sh))⟩), (3, .dat ⟨(.sl (.sl (.pair (.sl t5) .unit))), v3, (.own (.own (.pr (.own .sh) .sh)))⟩), (4, .dat ⟨(.int .i64), v4, .sh⟩)])
noncomputable def lp_laws_toIntS_0 (R : Run EE) (L : Loops) (v0 : List (Int)) (v2 : List (Int)) (v3 : List (Int)) (v4 : Int) : Option ((List (Int) × Unit)) := from_ EE R L 114 Go.Proofs.Tryz.f114 [1, 1, 0, 1, 0] (mk 22 [(0, .dat ⟨(.sl (.int .i64)), v0, .sh⟩), (2, .dat ⟨(.sl (.int .i64)), v2, (.own .sh)⟩), (3, .dat ⟨(.sl (.int .i64)), v3, (.own .sh)⟩), (4, .dat ⟨(.int .i64), v4, .sh⟩)])
noncomputable def lp_laws_toResultS_0 (R : Run EE) (L : Loops) (v0 : List (d27)) (v2 : List (d27)) (v3 : List (d27)) (v4 : Int) : Option ((List (d27) × Unit)) := from_ EE R L 30 Go.Proofs.Tryz.f30 [1, 1, 0, 1, 0] (mk 23 [(0, .dat ⟨(.sl t6), v0, .sh⟩), (2, .dat ⟨(.sl t6), v2, (.own (.pr .sh (.pr (.own .sh) .sh)))⟩), (3, .dat ⟨(.sl t6), v3, (.own (.pr .sh (.pr (.own .sh) .sh)))⟩), (4, .dat ⟨(.int .i64), v4, .sh⟩)])
noncomputable def lp_spec_DeviceOK_0 (R : Run EE) (L : Loops) (v0 : d24) (v1 : d24) (v2 : Bool) (v3 : Int) : Option ((Bool × Unit)) := from_ EE R L 59 Go.Proofs.Tryz.f59 [1, 1, 0, 1, 0] (mk 54 [(0, .dat ⟨t2, v0, .sh⟩), (1, .dat ⟨(.ptr t2), v1, (.own .sh)⟩), (2, .dat ⟨.bool, v2, .sh⟩), (3, .dat ⟨(.int .i64), v3, .sh⟩)])
noncomputable def lp_spec_DeviceOK_1 (R : Run EE) (L : Loops) (v0 : d24) (v1 : d24) (v2 : Bool) (v3 : Int) (v4 : Int) : Option ((Bool × Unit)) := from_ EE R L 59 Go.Proofs.Tryz.f59 [1, 1, 1, 0, 1, 0] (mk 54 [(0, .dat ⟨t2, v0, .sh⟩), (1, .dat ⟨(.ptr t2), v1, (.own .sh)⟩), (2, .dat ⟨.bool, v2, .sh⟩), (3, .dat ⟨(.int .i64), v3, .sh⟩), (4, .dat ⟨(.int .i64), v4, .sh⟩)])
noncomputable def lp_spec_MapOK_0 (R : Run EE) (L : Loops) (v0 : List ((Int × (Int × Unit)))) (v2 : Bool) (v3 : Int) : Option ((Bool × Unit)) := from_ EE R L 60 Go.Proofs.Tryz.f60 [1, 1, 0, 1, 0] (mk 50 [(0, .dat ⟨(.sl t4), v0, .sh⟩), (2, .dat ⟨.bool, v2, .sh⟩), (3, .dat ⟨(.int .i64), v3, .sh⟩)])
noncomputable def lp_spec_l10ResultOK_0 (R : Run EE) (L : Loops) (v0 : d27) (v1 : d27) (v2 : Bool) (v3 : Int) : Option ((Bool × Unit)) := from_ EE R L 109 Go.Proofs.Tryz.f109 [1, 1, 0, 1, 0] (mk 39 [(0, .dat ⟨t6, v0, .sh⟩), (1, .dat ⟨(.ptr t6), v1, (.own .sh)⟩), (2, .dat ⟨.bool, v2, .sh⟩), (3, .dat ⟨(.int .i64), v3, .sh⟩)])
noncomputable def lp_spec_l12Results_0 (R : Run EE) (L : Loops) (v0 : List (d27)) (v2 : Bool) (v3 : Int) : Option ((Bool × Unit)) := from_ EE R L 61 Go.Proofs.Tryz.f61 [1, 0, 1, 0] (mk 19 [(0, .dat ⟨(.sl t6), v0, .sh⟩), (2, .dat ⟨.bool, v2, .sh⟩), (3, .dat ⟨(.int .i64), v3, .sh⟩)])
noncomputable def lp_spec_l09Txn_0 (R : Run EE) (L : Loops) (v0 : (List (d26) × Unit)) (v1 : (List (d26) × Unit)) (v2 : Bool) (v3 : Int) : Option ((Bool × Unit)) := from_ EE R L 110 Go.Proofs.Tryz.f110 [1, 0, 1, 0] (mk 22 [(0, .dat ⟨(.pair (.sl t5) .unit), v0, .sh⟩), (1, .dat ⟨(.ptr (.pair (.sl t5) .unit)), v1, (.own .sh)⟩), (2, .dat ⟨.bool, v2, .sh⟩), (3, .dat ⟨(.int .i64), v3, .sh⟩)])
noncomputable def lp_spec_BatchOK_0 (R : Run EE) (L : Loops) (v0 : List ((List (d26) × Unit))) (v2 : Bool) (v3 : Int) : Option ((Bool × Unit)) := from_ EE R L 62 Go.Proofs.Tryz.f62 [1, 1, 1, 0, 1, 0] (mk 23 [(0, .dat ⟨(.sl (.pair (.sl t5) .unit)), v0, .sh⟩), (2, .dat ⟨.bool, v2, .sh⟩), (3, .dat ⟨(.int .i64), v3, .sh⟩)])
noncomputable def lp_spec_WorldOK_0 (R : Run EE) (L : Loops) (v0 : d28) (v1 : d28) (v2 : Bool) (v3 : Int) : Option ((Bool × Unit)) := from_ EE R L 24 Go.Proofs.Tryz.f24 [1, 1, 0, 1, 0] (mk 62 [(0, .dat ⟨t7, v0, .sh⟩), (1, .dat ⟨(.ptr t7), v1, (.own .sh)⟩), (2, .dat ⟨.bool, v2, .sh⟩), (3, .dat ⟨(.int .i64), v3, .sh⟩)])
noncomputable def lp_spec_l00Join_0 (R : Run EE) (L : Loops) (v0 : List (List UInt8)) (v1 : List UInt8) (v4 : List UInt8) (v5 : List UInt8) (v6 : Int) : Option ((List UInt8 × Unit)) := from_ EE R L 88 Go.Proofs.Tryz.f88 [1, 1, 0, 1, 0] (mk 25 [(0, .dat ⟨(.sl .str), v0, .sh⟩), (1, .dat ⟨.str, v1, .sh⟩), (4, .dat ⟨.str, v4, .sh⟩), (5, .dat ⟨.str, v5, .sh⟩), (6, .dat ⟨(.int .i64), v6, .sh⟩)])
noncomputable def lp_spec_l09Text_0 (R : Run EE) (L : Loops) (v0 : List ((List (d26) × Unit))) (v2 : List UInt8) (v3 : List (List UInt8)) (v4 : Int) : Option ((List UInt8 × Unit)) := from_ EE R L 64 Go.Proofs.Tryz.f64 [1, 1, 0, 1, 0] (mk 44 [(0, .dat ⟨(.sl (.pair (.sl t5) .unit)), v0, .sh⟩), (2, .dat ⟨.str, v2, .sh⟩), (3, .dat ⟨(.sl .str), v3, (.own .sh)⟩), (4, .dat ⟨(.int .i64), v4, .sh⟩)])
noncomputable def lp_spec_l09Text_1 (R : Run EE) (L : Loops) (v0 : List ((List (d26) × Unit))) (v2 : List UInt8) (v3 : List (List UInt8)) (v4 : Int) (v5 : List (List UInt8)) (v6 : Int) : Option ((List UInt8 × Unit)) := from_ EE R L 64 Go.Proofs.Tryz.f64 [1, 1, 0, 1, 0, 0, 1, 0, 0, 1, 0, 1, 0] (mk 44 [(0, .dat ⟨(.sl (.pair (.sl t5) .unit)), v0, .sh⟩), (2, .dat ⟨.str, v2, .sh⟩), (3, .dat ⟨(.sl .str), v3, (.own .sh)⟩), (4, .dat ⟨(.int .i64), v4, .sh⟩), (5, .dat ⟨(.sl .str), v5, (.own .sh)⟩), (6, .dat ⟨(.int .i64), v6, .sh⟩)])
noncomputable def lp_spec_l09Text_2 (R : Run EE) (L : Loops) (v0 : List ((List (d26) × Unit))) (v2 : List UInt8) (v3 : List (List UInt8)) (v4 : Int) (v5 : List (List UInt8)) (v6 : Int) : Option ((List UInt8 × Unit)) := from_ EE R L 64 Go.Proofs.Tryz.f64 [1, 1, 0, 1, 0] (mk 44 [(0, .dat ⟨(.sl (.pair (.sl t5) .unit)), v0, .sh⟩), (2, .dat ⟨.str, v2, .sh⟩), (3, .dat ⟨(.sl .str), v3, (.own .sh)⟩), (4, .dat ⟨(.int .i64), v4, .sh⟩), (5, .dat ⟨(.sl .str), v5, (.own .sh)⟩), (6, .dat ⟨(.int .i64), v6, .sh⟩)])
noncomputable def lp_spec_l15World_0 (R : Run EE) (L : Loops) (v0 : d28) (v1 : d28) (v2 : List (List UInt8)) (v3 : List (List UInt8)) (v4 : Int) : Option (d29) := from_ EE R L 25 Go.Proofs.Tryz.f25 [1, 1, 0, 1, 0] (mk 61 [(0, .dat ⟨t7, v0, .sh⟩), (1, .dat ⟨(.ptr t7), v1, (.own .sh)⟩), (2, .dat ⟨(.sl .str), v2, (.own .sh)⟩), (3, .dat ⟨(.sl .str), v3, (.own .sh)⟩), (4, .dat ⟨(.int .i64), v4, .sh⟩)])
noncomputable def lp_spec_l15World_1 (R : Run EE) (L : Loops) (v0 : d28) (v1 : d28) (v2 : List (List UInt8)) (v3 : List (List UInt8)) (v4 : Int) (v5 : Int) : Option (d29) := from_ EE R L 25 Go.Proofs.Tryz.f25 [1, 1, 1, 0, 1, 0] (mk 61 [(0, .dat ⟨t7, v0, .sh⟩), (1, .dat ⟨(.ptr t7), v1, (.own .sh)⟩), (2, .dat ⟨(.sl .str), v2, (.own .sh)⟩), (3, .dat ⟨(.sl .str), v3, (.own .sh)⟩), (4, .dat ⟨(.int .i64), v4, .sh⟩), (5, .dat ⟨(.int .i64), v5, .sh⟩)])
noncomputable def lp_slices_IndexFunc___string_string__0 (R : Run EE) (L : Loops) (v0 : List (List UInt8)) (v1 : FnVal) (v4 : Int) (v7 : Int) (v8 : Int) : Option ((Int × Unit)) := from_ EE R L 175 Go.Proofs.Tryz.f175 [1, 0, 1, 0] (mk 19 [(0, .dat ⟨(.sl .str), v0, .sh⟩), (1, .dat ⟨.fn, v1, .sh⟩), (4, .dat ⟨(.int .i64), v4, .sh⟩), (7, .dat ⟨(.int .i64), v7, .sh⟩), (8, .dat ⟨(.int .i64), v8, .sh⟩)])
noncomputable def lp_slices_IndexFunc___string_string__1 (R : Run EE) (L : Loops) (v0 : List (List UInt8)) (v1 : FnVal) (v4 : Int) (v5 : Int) (v7 : Int) (v8 : Int) : Option ((Int × Unit)) := from_ EE R L 175 Go.Proofs.Tryz.f175 [1, 0, 1, 0] (mk 19 [(0, .dat ⟨(.sl .str), v0, .sh⟩), (1, .dat ⟨.fn, v1, .sh⟩), (4, .dat ⟨(.int .i64), v4, .sh⟩), (5, .dat ⟨(.int .i64), v5, .sh⟩), (7, .dat ⟨(.int .i64), v7, .sh⟩), (8, .dat ⟨(.int .i64), v8, .sh⟩)])
noncomputable def lp_slices_IndexFunc___impl_Io_impl_Io__0 (R : Run EE) (L : Loops) (v0 : List (d23)) (v1 : FnVal) (v4 : Int) (v7 : Int) (v8 : Int) : Option ((Int × Unit)) := from_ EE R L 207 Go.Proofs.Tryz.f207 [1, 0, 1, 0] (mk 19 [(0, .dat ⟨(.sl t1), v0, .sh⟩), (1, .dat ⟨.fn, v1, .sh⟩), (4, .dat ⟨(.int .i64), v4, .sh⟩), (7, .dat ⟨(.int .i64), v7, .sh⟩), (8, .dat ⟨(.int .i64), v8, .sh⟩)])
noncomputable def lp_slices_IndexFunc___impl_Io_impl_Io__1 (R : Run EE) (L : Loops) (v0 : List (d23)) (v1 : FnVal) (v4 : Int) (v5 : Int) (v7 : Int) (v8 : Int) : Option ((Int × Unit)) := from_ EE R L 207 Go.Proofs.Tryz.f207 [1, 0, 1, 0] (mk 19 [(0, .dat ⟨(.sl t1), v0, .sh⟩), (1, .dat ⟨.fn, v1, .sh⟩), (4, .dat ⟨(.int .i64), v4, .sh⟩), (5, .dat ⟨(.int .i64), v5, .sh⟩), (7, .dat ⟨(.int .i64), v7, .sh⟩), (8, .dat ⟨(.int .i64), v8, .sh⟩)])
noncomputable def lp_impl_MapOK_0 (R : Run EE) (L : Loops) (v0 : List ((Int × (Int × Unit)))) (v2 : Bool) (v5 : List ((Int × (Int × Unit)))) (v6 : Int) (v7 : Int) : Option ((Bool × Unit)) := from_ EE R L 74 Go.Proofs.Tryz.f74 [1, 0, 1, 0] (mk 41 [(0, .dat ⟨(.sl t4), v0, .sh⟩), (2, .dat ⟨.bool, v2, .sh⟩), (5, .dat ⟨(.sl t4), v5, .sh⟩), (6, .dat ⟨(.int .i64), v6, .sh⟩), (7, .dat ⟨(.int .i64), v7, .sh⟩)])
noncomputable def lp_impl_MapOK_1 (R : Run EE) (L : Loops) (v0 : List ((Int × (Int × Unit)))) (v2 : Bool) (v3 : Int) (v4 : (Int × (Int × Unit))) (v5 : List ((Int × (Int × Unit)))) (v6 : Int) (v7 : Int) : Option ((Bool × Unit)) := from_ EE R L 74 Go.Proofs.Tryz.f74 [1, 0, 1, 0] (mk 41 [(0, .dat ⟨(.sl t4), v0, .sh⟩), (2, .dat ⟨.bool, v2, .sh⟩), (3, .dat ⟨(.int .i64), v3, .sh⟩), (4, .dat ⟨(.ptr t4), v4, (.own .sh)⟩), (5, .dat ⟨(.sl t4), v5, .sh⟩), (6, .dat ⟨(.int .i64), v6, .sh⟩), (7, .dat ⟨(.int .i64), v7, .sh⟩)])
noncomputable def lp_slices_IndexFunc_____impl_Txn___impl_Txn__0 (R : Run EE) (L : Loops) (v0 : List (List ((List (d26) × Unit)))) (v1 : FnVal) (v4 : Int) (v7 : Int) (v8 : Int) : Option ((Int × Unit)) := from_ EE R L 159 Go.Proofs.Tryz.f159 [1, 0, 1, 0] (mk 19 [(0, .dat ⟨(.sl (.sl (.pair (.sl t5) .unit))), v0, .sh⟩), (1, .dat ⟨.fn, v1, .sh⟩), (4, .dat ⟨(.int .i64), v4, .sh⟩), (7, .dat ⟨(.int .i64), v7, .sh⟩), (8, .dat ⟨(.int .i64), v8, .sh⟩)])
noncomputable def lp_slices_IndexFunc_____impl_Txn___impl_Txn__1 (R : Run EE) (L : Loops) (v0 : List (List ((List (d26) × Unit)))) (v1 : FnVal) (v4 : Int) (v5 : Int) (v7 : Int) (v8 : Int) : Option ((Int × Unit)) := from_ EE R L 159 Go.Proofs.Tryz.f159 [1, 0, 1, 0] (mk 19 [(0, .dat ⟨(.sl (.sl (.pair (.sl t5) .unit))), v0, .sh⟩), (1, .dat ⟨.fn, v1, .sh⟩), (4, .dat ⟨(.int .i64), v4, .sh⟩), (5, .dat ⟨(.int .i64), v5, .sh⟩), (7, .dat ⟨(.int .i64), v7, .sh⟩), (8, .dat ⟨(.int .i64), v8, .sh⟩)])
noncomputable def lp_slices_IndexFunc___impl_Txn_impl_Txn__0 (R : Run EE) (L : Loops) (v0 : List ((List (d26) × Unit))) (v1 : FnVal) (v4 : Int) (v7 : Int) (v8 : Int) : Option ((Int × Unit)) := from_ EE R L 186 Go.Proofs.Tryz.f186 [1, 0, 1, 0] (mk 19 [(0, .dat ⟨(.sl (.pair (.sl t5) .unit)), v0, .sh⟩), (1, .dat ⟨.fn, v1, .sh⟩), (4, .dat ⟨(.int .i64), v4, .sh⟩), (7, .dat ⟨(.int .i64), v7, .sh⟩), (8, .dat ⟨(.int .i64), v8, .sh⟩)])
noncomputable def lp_slices_IndexFunc___impl_Txn_impl_Txn__1 (R : Run EE) (L : Loops) (v0 : List ((List (d26) × Unit))) (v1 : FnVal) (v4 : Int) (v5 : Int) (v7 : Int) (v8 : Int) : Option ((Int × Unit)) := from_ EE R L 186 Go.Proofs.Tryz.f186 [1, 0, 1, 0] (mk 19 [(0, .dat ⟨(.sl (.pair (.sl t5) .unit)), v0, .sh⟩), (1, .dat ⟨.fn, v1, .sh⟩), (4, .dat ⟨(.int .i64), v4, .sh⟩), (5, .dat ⟨(.int .i64), v5, .sh⟩), (7, .dat ⟨(.int .i64), v7, .sh⟩), (8, .dat ⟨(.int .i64), v8, .sh⟩)])
noncomputable def lp_slices_IndexFunc___impl_Op_impl_Op__0 (R : Run EE) (L : Loops) (v0 : List (d26)) (v1 : FnVal) (v4 : Int) (v7 : Int) (v8 : Int) : Option ((Int × Unit)) := from_ EE R L 208 Go.Proofs.Tryz.f208 [1, 0, 1, 0] (mk 19 [(0, .dat ⟨(.sl t5), v0, .sh⟩), (1, .dat ⟨.fn, v1, .sh⟩), (4, .dat ⟨(.int .i64), v4, .sh⟩), (7, .dat ⟨(.int .i64), v7, .sh⟩), (8, .dat ⟨(.int .i64), v8, .sh⟩)])
noncomputable def lp_slices_IndexFunc___impl_Op_impl_Op__1 (R : Run EE) (L : Loops) (v0 : List (d26)) (v1 : FnVal) (v4 : Int) (v5 : Int) (v7 : Int) (v8 : Int) : Option ((Int × Unit)) := from_ EE R L 208 Go.Proofs.Tryz.f208 [1, 0, 1, 0] (mk 19 [(0, .dat ⟨(.sl t5), v0, .sh⟩), (1, .dat ⟨.fn, v1, .sh⟩), (4, .dat ⟨(.int .i64), v4, .sh⟩), (5, .dat ⟨(.int .i64), v5, .sh⟩), (7, .dat ⟨(.int .i64), v7, .sh⟩), (8, .dat ⟨(.int .i64), v8, .sh⟩)])
noncomputable def lp_slices_IndexFunc___impl_Result_impl_Result__0 (R : Run EE) (L : Loops) (v0 : List (d27)) (v1 : FnVal) (v4 : Int) (v7 : Int) (v8 : Int) : Option ((Int × Unit)) := from_ EE R L 189 Go.Proofs.Tryz.f189 [1, 0, 1, 0] (mk 19 [(0, .dat ⟨(.sl t6), v0, .sh⟩), (1, .dat ⟨.fn, v1, .sh⟩), (4, .dat ⟨(.int .i64), v4, .sh⟩), (7, .dat ⟨(.int .i64), v7, .sh⟩), (8, .dat ⟨(.int .i64), v8, .sh⟩)])
noncomputable def lp_slices_IndexFunc___impl_Result_impl_Result__1 (R : Run EE) (L : Loops) (v0 : List (d27)) (v1 : FnVal) (v4 : Int) (v5 : Int) (v7 : Int) (v8 : Int) : Option ((Int × Unit)) := from_ EE R L 189 Go.Proofs.Tryz.f189 [1, 0, 1, 0] (mk 19 [(0, .dat ⟨(.sl t6), v0, .sh⟩), (1, .dat ⟨.fn, v1, .sh⟩), (4, .dat ⟨(.int .i64), v4, .sh⟩), (5, .dat ⟨(.int .i64), v5, .sh⟩), (7, .dat ⟨(.int .i64), v7, .sh⟩), (8, .dat ⟨(.int .i64), v8, .sh⟩)])
noncomputable def lp_slices_IndexFunc___int_int__0 (R : Run EE) (L : Loops) (v0 : List (Int)) (v1 : FnVal) (v4 : Int) (v7 : Int) (v8 : Int) : Option ((Int × Unit)) := from_ EE R L 209 Go.Proofs.Tryz.f209 [1, 0, 1, 0] (mk 19 [(0, .dat ⟨(.sl (.int .i64)), v0, .sh⟩), (1, .dat ⟨.fn, v1, .sh⟩), (4, .dat ⟨(.int .i64), v4, .sh⟩), (7, .dat ⟨(.int .i64), v7, .sh⟩), (8, .dat ⟨(.int .i64), v8, .sh⟩)])
noncomputable def lp_slices_IndexFunc___int_int__1 (R : Run EE) (L : Loops) (v0 : List (Int)) (v1 : FnVal) (v4 : Int) (v5 : Int) (v7 : Int) (v8 : Int) : Option ((Int × Unit)) := from_ EE R L 209 Go.Proofs.Tryz.f209 [1, 0, 1, 0] (mk 19 [(0, .dat ⟨(.sl (.int .i64)), v0, .sh⟩), (1, .dat ⟨.fn, v1, .sh⟩), (4, .dat ⟨(.int .i64), v4, .sh⟩), (5, .dat ⟨(.int .i64), v5, .sh⟩), (7, .dat ⟨(.int .i64), v7, .sh⟩), (8, .dat ⟨(.int .i64), v8, .sh⟩)])
noncomputable def lp_impl_batchText_0 (R : Run EE) (L : Loops) (v3 : List (List UInt8)) (v9 : List ((List (d26) × Unit))) (v10 : Int) (v11 : Int) : Option ((List UInt8 × Unit)) := from_ EE R L 80 Go.Proofs.Tryz.f80 [1, 1, 0, 1, 0] (mk 36 [(3, .dat ⟨(.sl .str), v3, (.own .sh)⟩), (9, .dat ⟨(.sl (.pair (.sl t5) .unit)), v9, .sh⟩), (10, .dat ⟨(.int .i64), v10, .sh⟩), (11, .dat ⟨(.int .i64), v11, .sh⟩)])
noncomputable def lp_impl_batchText_1 (R : Run EE) (L : Loops) (v3 : List (List UInt8)) (v6 : List (List UInt8)) (v9 : List ((List (d26) × Unit))) (v10 : Int) (v11 : Int) (v16 : List (d26)) (v17 : Int) (v18 : Int) : Option ((List UInt8 × Unit)) := from_ EE R L 80 Go.Proofs.Tryz.f80 [1, 1, 0, 1, 0, 0, 1, 1, 0, 0, 1, 1, 0, 1, 0] (mk 36 [(3, .dat ⟨(.sl .str), v3, (.own .sh)⟩), (6, .dat ⟨(.sl .str), v6, (.own .sh)⟩), (9, .dat ⟨(.sl (.pair (.sl t5) .unit)), v9, .sh⟩), (10, .dat ⟨(.int .i64), v10, .sh⟩), (11, .dat ⟨(.int .i64), v11, .sh⟩), (16, .dat ⟨(.sl t5), v16, .sh⟩), (17, .dat ⟨(.int .i64), v17, .sh⟩), (18, .dat ⟨(.int .i64), v18, .sh⟩)])
noncomputable def lp_impl_World_lines_0 (R : Run EE) (L : Loops) (v1 : d28) (v3 : List (List UInt8)) (v9 : List ((Int × (Int × Unit)))) (v10 : Int) (v11 : Int) : Option (d29) := from_ EE R L 32 Go.Proofs.Tryz.f32 [1, 1, 0, 1, 0] (mk 50 [(1, .dat ⟨(.ptr t7), v1, (.own .sh)⟩), (3, .dat ⟨(.sl .str), v3, (.own .sh)⟩), (9, .dat ⟨(.sl t4), v9, .sh⟩), (10, .dat ⟨(.int .i64), v10, .sh⟩), (11, .dat ⟨(.int .i64), v11, .sh⟩)])
noncomputable def lp_impl_World_lines_1 (R : Run EE) (L : Loops) (v1 : d28) (v3 : List (List UInt8)) (v29 : List (List ((List (d26) × Unit)))) (v30 : Int) (v31 : Int) : Option (d29) := from_ EE R L 32 Go.Proofs.Tryz.f32 [1, 1, 1, 0, 1, 0] (mk 50 [(1, .dat ⟨(.ptr t7), v1, (.own .sh)⟩), (3, .dat ⟨(.sl .str), v3, (.own .sh)⟩), (29, .dat ⟨(.sl (.sl (.pair (.sl t5) .unit))), v29, .sh⟩), (30, .dat ⟨(.int .i64), v30, .sh⟩), (31, .dat ⟨(.int .i64), v31, .sh⟩)])
noncomputable def lp_laws_eqStringS_0 (R : Run EE) (L : Loops) (v0 : List (List UInt8)) (v1 : List (List UInt8)) (v4 : Bool) (v5 : Int) : Option ((Bool × Unit)) := from_ EE R L 9 Go.Proofs.Tryz.f9 [1, 1, 0, 1, 0] (mk 26 [(0, .dat ⟨(.sl .str), v0, .sh⟩), (1, .dat ⟨(.sl .str), v1, .sh⟩), (4, .dat ⟨.bool, v4, .sh⟩), (5, .dat ⟨(.int .i64), v5, .sh⟩)])
noncomputable def lp_laws_eqIoS_0 (R : Run EE) (L : Loops) (v0 : List (d23)) (v1 : List (d23)) (v4 : Bool) (v5 : Int) : Option ((Bool × Unit)) := from_ EE R L 82 Go.Proofs.Tryz.f82 [1, 1, 0, 1, 0] (mk 27 [(0, .dat ⟨(.sl t1), v0, .sh⟩), (1, .dat ⟨(.sl t1), v1, .sh⟩), (4, .dat ⟨.bool, v4, .sh⟩), (5, .dat ⟨(.int .i64), v5, .sh⟩)])
noncomputable def lp_laws_eqEntryS_0 (R : Run EE) (L : Loops) (v0 : List ((Int × (Int × Unit)))) (v1 : List ((Int × (Int × Unit)))) (v4 : Bool) (v5 : Int) : Option ((Bool × Unit)) := from_ EE R L 35 Go.Proofs.Tryz.f35 [1, 1, 0, 1, 0] (mk 27 [(0, .dat ⟨(.sl t4), v0, .sh⟩), (1, .dat ⟨(.sl t4), v1, .sh⟩), (4, .dat ⟨.bool, v4, .sh⟩), (5, .dat ⟨(.int .i64), v5, .sh⟩)])
noncomputable def lp_laws_eqOpS_0 (R : Run EE) (L : Loops) (v0 : List (d26)) (v1 : List (d26)) (v4 : Bool) (v5 : Int) : Option ((Bool × Unit)) := from_ EE R L 150 Go.Proofs.Tryz.f150 [1, 1, 0, 1, 0] (mk 27 [(0, .dat ⟨(.sl t5), v0, .sh⟩), (1, .dat ⟨(.sl t5), v1, .sh⟩), (4, .dat ⟨.bool, v4, .sh⟩), (5, .dat ⟨(.int .i64), v5, .sh⟩)])
noncomputable def lp_laws_eqTxnS_0 (R : Run EE) (L : Loops) (v0 : List ((List (d26) × Unit))) (v1 : List ((List (d26) × Unit))) (v4 : Bool) (v5 : Int) : Option ((Bool × Unit)) := from_ EE R L 47 Go.Proofs.Tryz.f47 [1, 1, 0, 1, 0] (mk 27 [(0, .dat ⟨(.sl (.pair (.sl t5) .unit)), v0, .sh⟩), (1, .dat ⟨(.sl (.pair (.sl t5) .unit)), v1, .sh⟩), (4, .dat ⟨.bool, v4, .sh⟩), (5, .dat ⟨(.int .i64), v5, .sh⟩)])
noncomputable def lp_laws_eqTxnSS_0 (R : Run EE) (L : Loops) (v0 : List (List ((List (d26) × Unit)))) (v1 : List (List ((List (d26) × Unit)))) (v4 : Bool) (v5 : Int) : Option ((Bool × Unit)) := from_ EE R L 36 Go.Proofs.Tryz.f36 [1, 1, 0, 1, 0] (mk 27 [(0, .dat ⟨(.sl (.sl (.pair (.sl t5) .unit))), v0, .sh⟩), (1, .dat ⟨(.sl (.sl (.pair (.sl t5) .unit))), v1, .sh⟩), (4, .dat ⟨.bool, v4, .sh⟩), (5, .dat ⟨(.int .i64), v5, .sh⟩)])
noncomputable def lp_laws_eqIntS_0 (R : Run EE) (L : Loops) (v0 : List (Int)) (v1 : List (Int)) (v4 : Bool) (v5 : Int) : Option ((Bool × Unit)) := from_ EE R L 48 Go.Proofs.Tryz.f48 [1, 1, 0, 1, 0] (mk 26 [(0, .dat ⟨(.sl (.int .i64)), v0, .sh⟩), (1, .dat ⟨(.sl (.int .i64)), v1, .sh⟩), (4, .dat ⟨.bool, v4, .sh⟩), (5, .dat ⟨(.int .i64), v5, .sh⟩)])
noncomputable def lp_laws_eqResultS_0 (R : Run EE) (L : Loops) (v0 : List (d27)) (v1 : List (d27)) (v4 : Bool) (v5 : Int) : Option ((Bool × Unit)) := from_ EE R L 37 Go.Proofs.Tryz.f37 [1, 1, 0, 1, 0] (mk 27 [(0, .dat ⟨(.sl t6), v0, .sh⟩), (1, .dat ⟨(.sl t6), v1, .sh⟩), (4, .dat ⟨.bool, v4, .sh⟩), (5, .dat ⟨(.int .i64), v5, .sh⟩)])
noncomputable def lp_laws_markText_0 (R : Run EE) (L : Loops) (v0 : Int) (v2 : List UInt8) (v3 : List UInt8) : Option ((List UInt8 × Unit)) := from_ EE R L 43 Go.Proofs.Tryz.f43 [1, 1, 1, 0, 0] (mk 20 [(0, .dat ⟨(.int .i64), v0, .sh⟩), (2, .dat ⟨.str, v2, .sh⟩), (3, .dat ⟨.str, v3, .sh⟩)])
noncomputable def lp_laws_markStringS_0 (R : Run EE) (L : Loops) (v0 : List (List UInt8)) (v1 : Int) (v4 : Int) (v5 : Int) : Option (d36) := from_ EE R L 12 Go.Proofs.Tryz.f12 [1, 0, 1, 0] (mk 20 [(0, .dat ⟨(.sl .str), v0, (.pin 0 (.own .sh))⟩), (1, .dat ⟨(.int .i64), v1, .sh⟩), (4, .dat ⟨(.int .i64), v4, .sh⟩), (5, .dat ⟨(.int .i64), v5, .sh⟩)])
noncomputable def lp_laws_markIoS_0 (R : Run EE) (L : Loops) (v0 : List (d23)) (v1 : Int) (v4 : Int) (v5 : Int) : Option (d37) := from_ EE R L 85 Go.Proofs.Tryz.f85 [1, 0, 1, 0] (mk 28 [(0, .dat ⟨(.sl t1), v0, (.pin 0 (.own .sh))⟩), (1, .dat ⟨(.int .i64), v1, .sh⟩), (4, .dat ⟨(.int .i64), v4, .sh⟩), (5, .dat ⟨(.int .i64), v5, .sh⟩)])
noncomputable def lp_laws_markEntryS_0 (R : Run EE) (L : Loops) (v0 : List ((Int × (Int × Unit)))) (v1 : Int) (v4 : Int) (v5 : Int) : Option (d38) := from_ EE R L 40 Go.Proofs.Tryz.f40 [1, 0, 1, 0] (mk 27 [(0, .dat ⟨(.sl t4), v0, (.pin 0 (.own .sh))⟩), (1, .dat ⟨(.int .i64), v1, .sh⟩), (4, .dat ⟨(.int .i64), v4, .sh⟩), (5, .dat ⟨(.int .i64), v5, .sh⟩)])
noncomputable def lp_laws_markOpS_0 (R : Run EE) (L : Loops) (v0 : List (d26)) (v1 : Int) (v4 : Int) (v5 : Int) : Option (d39) := from_ EE R L 101 Go.Proofs.Tryz.f101 [1, 0, 1, 0] (mk 34 [(0, .dat ⟨(.sl t5), v0, (.pin 0 (.own .sh))⟩), (1, .dat ⟨(.int .i64), v1, .sh⟩), (4, .dat ⟨(.int .i64), v4, .sh⟩), (5, .dat ⟨(.int .i64), v5, .sh⟩)])
noncomputable def lp_laws_markTxnS_0 (R : Run EE) (L : Loops) (v0 : List ((List (d26) × Unit))) (v1 : Int) (v4 : Int) (v5 : Int) : Option (d40) := from_ EE R L 49 Go.Proofs.Tryz.f49 [1, 0, 1, 0] (mk 20 [(0, .dat ⟨(.sl (.pair (.sl t5) .unit)), v0, (.pin 0 (.own (.pr (.own .sh) .sh)))⟩), (1, .dat ⟨(.int .i64), v1, .sh⟩), (4, .dat ⟨(.int .i64), v4, .sh⟩), (5, .dat ⟨(.int .i64), v5, .sh⟩)])
noncomputable def lp_laws_markTxnSS_0 (R : Run EE) (L : Loops) (v0 : List (List ((List (d26) × Unit)))) (v1 : Int) (v4 : Int) (v5 : Int) : Option (d41) := from_ EE R L 41 Go.Proofs.Tryz.f41 [1, 0, 1, 0] (mk 19 [(0, .dat ⟨(.sl (.sl (.pair (.sl t5) .unit))), v0, (.pin 0 (.own (.own (.pr (.own .sh) .sh))))⟩), (1, .dat ⟨(.int .i64), v1, .sh⟩), (4, .dat ⟨(.int .i64), v4, .sh⟩), (5, .dat ⟨(.int .i64), v5, .sh⟩)])
noncomputable def lp_laws_markIntS_0 (R : Run EE) (L : Loops) (v0 : List (Int)) (v1 : Int) (v4 : Int) (v5 : Int) : Option (d27) := from_ EE R L 50 Go.Proofs.Tryz.f50 [1, 0, 1, 0] (mk 19 [(0, .dat ⟨(.sl (.int .i64)), v0, (.pin 0 (.own .sh))⟩), (1, .dat ⟨(.int .i64), v1, .sh⟩), (4, .dat ⟨(.int .i64), v4, .sh⟩), (5, .dat ⟨(.int .i64), v5, .sh⟩)])
noncomputable def lp_laws_markResultS_0 (R : Run EE) (L : Loops) (v0 : List (d27)) (v1 : Int) (v4 : Int) (v5 : Int) : Option (d42) := from_ EE R L 42 Go.Proofs.Tryz.f42 [1, 0, 1, 0] (mk 27 [(0, .dat ⟨(.sl t6), v0, (.pin 0 (.own (.pr .sh (.pr (.own .sh) .sh))))⟩), (1, .dat ⟨(.int .i64), v1, .sh⟩), (4, .dat ⟨(.int .i64), v4, .sh⟩), (5, .dat ⟨(.int .i64), v5, .sh⟩)])
noncomputable def lp_laws_heldStringS_0 (R : Run EE) (L : Loops) (v0 : List (List UInt8)) (v1 : Int) (v4 : Int) (v5 : Int) : Option ((Int × Unit)) := from_ EE R L 13 Go.Proofs.Tryz.f13 [1, 0, 1, 0] (mk 22 [(0, .dat ⟨(.sl .str), v0, .sh⟩), (1, .dat ⟨(.int .i64), v1, .sh⟩), (4, .dat ⟨(.int .i64), v4, .sh⟩), (5, .dat ⟨(.int .i64), v5, .sh⟩)])

/-- loop.example/g00548/laws.szRegister -/
theorem q_laws_szRegister (R : Run EE) (L : Loops) (x0 : d22) (x1 : Int) : @Eq (Option ((Int × Unit))) (bodyK EE R L 53 [⟨t0, x0⟩, ⟨(.int .i64), x1⟩]) (
  cond (decide ((Go.IntKind.wrap .i64 (x1 - (((List.length x0.2.2.2.2.1) : Nat) : Int))) < (0 : Int)))
  (some ((-(1 : Int)), ()))
  (cond (decide ((Go.IntKind.wrap .i64 ((Go.IntKind.wrap .i64 (x1 - (((List.length x0.2.2.2.2.1) : Nat) : Int))) - (((List.length x0.2.2.2.2.2.1) : Nat) : Int))) < (0 : Int)))
    (some ((-(1 : Int)), ()))
    (cond (decide ((Go.IntKind.wrap .i64 ((Go.IntKind.wrap .i64 ((Go.IntKind.wrap .i64 (x1 - (((List.length x0.2.2.2.2.1) : Nat) : Int))) - (((List.length x0.2.2.2.2.2.1) : Nat) : Int))) - (((List.length x0.2.2.2.2.2.2.1) : Nat) : Int))) < (0 : Int)))
      (some ((-(1 : Int)), ()))
      (some ((Go.IntKind.wrap .i64 ((Go.IntKind.wrap .i64 ((Go.IntKind.wrap .i64 (x1 - (((List.length x0.2.2.2.2.1) : Nat) : Int))) - (((List.length x0.2.2.2.2.2.1) : Nat) : Int))) - (((List.length x0.2.2.2.2.2.2.1) : Nat) : Int))), ()))))) := by kernel_rfl
/-- loop.example/g00548/laws.szStringS -/
theorem q_laws_szStringS (R : Run EE) (L : Loops) (x0 : List (List UInt8)) (x1 : Int) : @Eq (Option ((Int × Unit))) (bodyK EE R L 54 [⟨(.sl .str), x0⟩, ⟨(.int .i64), x1⟩]) (
  cond (decide ((Go.IntKind.wrap .i64 (x1 - (((List.length x0) : Nat) : Int))) < (0 : Int)))
  (some ((-(1 : Int)), ()))
  (lp_laws_szStringS_0 R L x0 (Go.IntKind.wrap .i64 (x1 - (((List.length x0) : Nat) : Int))) (0 : Int) (0 : Int))) := by kernel_rfl
theorem q_laws_szStringS_0 (R : Run EE) (L : Loops) (v0 : List (List UInt8)) (v1 : Int) (v4 : Int) (v5 : Int) : @Eq (Option ((Int × Unit))) (from_ EE R L 54 Go.Proofs.Tryz.f54 [1, 1, 1, 0, 1, 0, 0] (mk 28 [(0, .dat ⟨(.sl .str), v0, .sh⟩), (1, .dat ⟨(.int .i64), v1, .sh⟩), (4, .dat ⟨(.int .i64), v4, .sh⟩), (5, .dat ⟨(.int .i64), v5, .sh⟩)])) (
  cond (decide (v5 < (((List.length v0) : Nat) : Int)))
  (cond (Go.Rf.nonneg v5)
    (cond (Nat.blt (Int.toNat v5) (List.length v0))
      (cond (decide ((Go.IntKind.wrap .i64 (v1 - (((List.length (List.getD v0 (Int.toNat v5) ([] : List (UInt8)))) : Nat) : Int))) < (0 : Int)))
        (some ((-(1 : Int)), ()))
        (lp_laws_szStringS_0 R L v0 (Go.IntKind.wrap .i64 (v1 - (((List.length (List.getD v0 (Int.toNat v5) ([] : List (UInt8)))) : Nat) : Int))) v4 (Go.IntKind.wrap .i64 (v5 + (1 : Int)))))
      (none))
    (none))
  (some (v1, ()))) := by kernel_rfl
/-- loop.example/g00548/laws.szIo -/
theorem q_laws_szIo (R : Run EE) (L : Loops) (x0 : d23) (x1 : Int) : @Eq (Option ((Int × Unit))) (bodyK EE R L 103 [⟨t1, x0⟩, ⟨(.int .i64), x1⟩]) (
  cond (decide ((Go.IntKind.wrap .i64 (x1 - (((List.length x0.2.1) : Nat) : Int))) < (0 : Int)))
  (some ((-(1 : Int)), ()))
  (some ((Go.IntKind.wrap .i64 (x1 - (((List.length x0.2.1) : Nat) : Int))), ()))) := by kernel_rfl
/-- loop.example/g00548/laws.szIoS -/
theorem q_laws_szIoS (R : Run EE) (L : Loops) (x0 : List (d23)) (x1 : Int) : @Eq (Option ((Int × Unit))) (bodyK EE R L 55 [⟨(.sl t1), x0⟩, ⟨(.int .i64), x1⟩]) (
  cond (decide ((Go.IntKind.wrap .i64 (x1 - (((List.length x0) : Nat) : Int))) < (0 : Int)))
  (some ((-(1 : Int)), ()))
  (lp_laws_szIoS_0 R L x0 (Go.IntKind.wrap .i64 (x1 - (((List.length x0) : Nat) : Int))) (0 : Int) (0 : Int))) := by kernel_rfl
theorem q_laws_szIoS_0 (R : Run EE) (L : Loops) (v0 : List (d23)) (v1 : Int) (v4 : Int) (v5 : Int) : @Eq (Option ((Int × Unit))) (from_ EE R L 55 Go.Proofs.Tryz.f55 [1, 1, 1, 0, 1, 0, 0] (mk 27 [(0, .dat ⟨(.sl t1), v0, .sh⟩), (1, .dat ⟨(.int .i64), v1, .sh⟩), (4, .dat ⟨(.int .i64), v4, .sh⟩), (5, .dat ⟨(.int .i64), v5, .sh⟩)])) (
  cond (decide (v5 < (((List.length v0) : Nat) : Int)))
  (cond (Go.Rf.nonneg v5)
    (cond (Nat.blt (Int.toNat v5) (List.length v0))
      ((c_laws_szIo R (List.getD v0 (Int.toNat v5) ((0 : Int), (([] : List (UInt8)), ()))) v1).bind fun r0 =>
        cond (decide (r0.1 < (0 : Int)))
        (some ((-(1 : Int)), ()))
        (lp_laws_szIoS_0 R L v0 r0.1 v4 (Go.IntKind.wrap .i64 (v5 + (1 : Int)))))
      (none))
    (none))
  (some (v1, ()))) := by kernel_rfl
/-- loop.example/g00548/laws.szDevice -/
theorem q_laws_szDevice (R : Run EE) (L : Loops) (x0 : d24) (x1 : Int) : @Eq (Option ((Int × Unit))) (bodyK EE R L 20 [⟨t2, x0⟩, ⟨(.int .i64), x1⟩]) (
  (c_laws_szStringS R x0.1 x1).bind fun r0 =>
  cond (decide (r0.1 < (0 : Int)))
  (some ((-(1 : Int)), ()))
  ((c_laws_szIoS R x0.2.1 r0.1).bind fun r1 =>
    cond (decide (r1.1 < (0 : Int)))
    (some ((-(1 : Int)), ()))
    (some (r1.1, ())))) := by kernel_rfl
/-- loop.example/g00548/laws.szStore -/
theorem q_laws_szStore (R : Run EE) (L : Loops) (x0 : d25) (x1 : Int) : @Eq (Option ((Int × Unit))) (bodyK EE R L 19 [⟨t3, x0⟩, ⟨(.int .i64), x1⟩]) (
  cond (decide ((Go.IntKind.wrap .i64 (x1 - (((List.length x0.1) : Nat) : Int))) < (0 : Int)))
  (some ((-(1 : Int)), ()))
  ((c_laws_szRegister R x0.2.1 (Go.IntKind.wrap .i64 (x1 - (((List.length x0.1) : Nat) : Int)))).bind fun r0 =>
    cond (decide (r0.1 < (0 : Int)))
    (some ((-(1 : Int)), ()))
    ((c_laws_szDevice R x0.2.2.1 r0.1).bind fun r1 =>
      cond (decide (r1.1 < (0 : Int)))
      (some ((-(1 : Int)), ()))
      (some (r1.1, ()))))) := by kernel_rfl
/-- loop.example/g00548/laws.szEntryS -/
theorem q_laws_szEntryS (R : Run EE) (L : Loops) (x0 : List ((Int × (Int × Unit)))) (x1 : Int) : @Eq (Option ((Int × Unit))) (bodyK EE R L 21 [⟨(.sl t4), x0⟩, ⟨(.int .i64), x1⟩]) (
  cond (decide ((Go.IntKind.wrap .i64 (x1 - (((List.length x0) : Nat) : Int))) < (0 : Int)))
  (some ((-(1 : Int)), ()))
  (some ((Go.IntKind.wrap .i64 (x1 - (((List.length x0) : Nat) : Int))), ()))) := by kernel_rfl
/-- loop.example/g00548/laws.szOpS -/
theorem q_laws_szOpS (R : Run EE) (L : Loops) (x0 : List (d26)) (x1 : Int) : @Eq (Option ((Int × Unit))) (bodyK EE R L 151 [⟨(.sl t5), x0⟩, ⟨(.int .i64), x1⟩]) (
  cond (decide ((Go.IntKind.wrap .i64 (x1 - (((List.length x0) : Nat) : Int))) < (0 : Int)))
  (some ((-(1 : Int)), ()))
  (some ((Go.IntKind.wrap .i64 (x1 - (((List.length x0) : Nat) : Int))), ()))) := by kernel_rfl
/-- loop.example/g00548/laws.szTxn -/
theorem q_laws_szTxn (R : Run EE) (L : Loops) (x0 : (List (d26) × Unit)) (x1 : Int) : @Eq (Option ((Int × Unit))) (bodyK EE R L 104 [⟨(.pair (.sl t5) .unit), x0⟩, ⟨(.int .i64), x1⟩]) (
  (c_laws_szOpS R x0.1 x1).bind fun r0 =>
  cond (decide (r0.1 < (0 : Int)))
  (some ((-(1 : Int)), ()))
  (some (r0.1, ()))) := by kernel_rfl
/-- loop.example/g00548/laws.szTxnS -/
theorem q_laws_szTxnS (R : Run EE) (L : Loops) (x0 : List ((List (d26) × Unit))) (x1 : Int) : @Eq (Option ((Int × Unit))) (bodyK EE R L 56 [⟨(.sl (.pair (.sl t5) .unit)), x0⟩, ⟨(.int .i64), x1⟩]) (
  cond (decide ((Go.IntKind.wrap .i64 (x1 - (((List.length x0) : Nat) : Int))) < (0 : Int)))
  (some ((-(1 : Int)), ()))
  (lp_laws_szTxnS_0 R L x0 (Go.IntKind.wrap .i64 (x1 - (((List.length x0) : Nat) : Int))) (0 : Int) (0 : Int))) := by kernel_rfl
theorem q_laws_szTxnS_0 (R : Run EE) (L : Loops) (v0 : List ((List (d26) × Unit))) (v1 : Int) (v4 : Int) (v5 : Int) : @Eq (Option ((Int × Unit))) (from_ EE R L 56 Go.Proofs.Tryz.f56 [1, 1, 1, 0, 1, 0, 0] (mk 27 [(0, .dat ⟨(.sl (.pair (.sl t5) .unit)), v0, .sh⟩), (1, .dat ⟨(.int .i64), v1, .sh⟩), (4, .dat ⟨(.int .i64), v4, .sh⟩), (5, .dat ⟨(.int .i64), v5, .sh⟩)])) (
  cond (decide (v5 < (((List.length v0) : Nat) : Int)))
  (cond (Go.Rf.nonneg v5)
    (cond (Nat.blt (Int.toNat v5) (List.length v0))
      ((c_laws_szTxn R (List.getD v0 (Int.toNat v5) (([] : List (d26)), ())) v1).bind fun r0 =>
        cond (decide (r0.1 < (0 : Int)))
        (some ((-(1 : Int)), ()))
        (lp_laws_szTxnS_0 R L v0 r0.1 v4 (Go.IntKind.wrap .i64 (v5 + (1 : Int)))))
      (none))
    (none))
  (some (v1, ()))) := by kernel_rfl
/-- loop.example/g00548/laws.szTxnSS -/
theorem q_laws_szTxnSS (R : Run EE) (L : Loops) (x0 : List (List ((List (d26) × Unit)))) (x1 : Int) : @Eq (Option ((Int × Unit))) (bodyK EE R L 22 [⟨(.sl (.sl (.pair (.sl t5) .unit))), x0⟩, ⟨(.int .i64), x1⟩]) (
  cond (decide ((Go.IntKind.wrap .i64 (x1 - (((List.length x0) : Nat) : Int))) < (0 : Int)))
  (some ((-(1 : Int)), ()))
  (lp_laws_szTxnSS_0 R L x0 (Go.IntKind.wrap .i64 (x1 - (((List.length x0) : Nat) : Int))) (0 : Int) (0 : Int))) := by kernel_rfl
theorem q_laws_szTxnSS_0 (R : Run EE) (L : Loops) (v0 : List (List ((List (d26) × Unit)))) (v1 : Int) (v4 : Int) (v5 : Int) : @Eq (Option ((Int × Unit))) (from_ EE R L 22 Go.Proofs.Tryz.f22 [1, 1, 1, 0, 1, 0, 0] (mk 27 [(0, .dat ⟨(.sl (.sl (.pair (.sl t5) .unit))), v0, .sh⟩), (1, .dat ⟨(.int .i64), v1, .sh⟩), (4, .dat ⟨(.int .i64), v4, .sh⟩), (5, .dat ⟨(.int .i64), v5, .sh⟩)])) (
  cond (decide (v5 < (((List.length v0) : Nat) : Int)))
  (cond (Go.Rf.nonneg v5)
    (cond (Nat.blt (Int.toNat v5) (List.length v0))
      ((c_laws_szTxnS R (List.getD v0 (Int.toNat v5) ([] : List ((List (d26) × Unit)))) v1).bind fun r0 =>
        cond (decide (r0.1 < (0 : Int)))
        (some ((-(1 : Int)), ()))
        (lp_laws_szTxnSS_0 R L v0 r0.1 v4 (Go.IntKind.wrap .i64 (v5 + (1 : Int)))))
      (none))
    (none))
  (some (v1, ()))) := by kernel_rfl
/-- loop.example/g00548/laws.szIntS -/
theorem q_laws_szIntS (R : Run EE) (L : Loops) (x0 : List (Int)) (x1 : Int) : @Eq (Option ((Int × Unit))) (bodyK EE R L 105 [⟨(.sl (.int .i64)), x0⟩, ⟨(.int .i64), x1⟩]) (
  cond (decide ((Go.IntKind.wrap .i64 (x1 - (((List.length x0) : Nat) : Int))) < (0 : Int)))
  (some ((-(1 : Int)), ()))
  (some ((Go.IntKind.wrap .i64 (x1 - (((List.length x0) : Nat) : Int))), ()))) := by kernel_rfl
/-- loop.example/g00548/laws.szResult -/
theorem q_laws_szResult (R : Run EE) (L : Loops) (x0 : d27) (x1 : Int) : @Eq (Option ((Int × Unit))) (bodyK EE R L 57 [⟨t6, x0⟩, ⟨(.int .i64), x1⟩]) (
  (c_laws_szIntS R x0.2.1 x1).bind fun r0 =>
  cond (decide (r0.1 < (0 : Int)))
  (some ((-(1 : Int)), ()))
  (some (r0.1, ()))) := by kernel_rfl
/-- loop.example/g00548/laws.szResultS -/
theorem q_laws_szResultS (R : Run EE) (L : Loops) (x0 : List (d27)) (x1 : Int) : @Eq (Option ((Int × Unit))) (bodyK EE R L 23 [⟨(.sl t6), x0⟩, ⟨(.int .i64), x1⟩]) (
  cond (decide ((Go.IntKind.wrap .i64 (x1 - (((List.length x0) : Nat) : Int))) < (0 : Int)))
  (some ((-(1 : Int)), ()))
  (lp_laws_szResultS_0 R L x0 (Go.IntKind.wrap .i64 (x1 - (((List.length x0) : Nat) : Int))) (0 : Int) (0 : Int))) := by kernel_rfl
theorem q_laws_szResultS_0 (R : Run EE) (L : Loops) (v0 : List (d27)) (v1 : Int) (v4 : Int) (v5 : Int) : @Eq (Option ((Int × Unit))) (from_ EE R L 23 Go.Proofs.Tryz.f23 [1, 1, 1, 0, 1, 0, 0] (mk 27 [(0, .dat ⟨(.sl t6), v0, .sh⟩), (1, .dat ⟨(.int .i64), v1, .sh⟩), (4, .dat ⟨(.int .i64), v4, .sh⟩), (5, .dat ⟨(.int .i64), v5, .sh⟩)])) (
  cond (decide (v5 < (((List.length v0) : Nat) : Int)))
  (cond (Go.Rf.nonneg v5)
    (cond (Nat.blt (Int.toNat v5) (List.length v0))
      ((c_laws_szResult R (List.getD v0 (Int.toNat v5) ((0 : Int), (([] : List (Int)), ()))) v1).bind fun r0 =>
        cond (decide (r0.1 < (0 : Int)))
        (some ((-(1 : Int)), ()))
        (lp_laws_szResultS_0 R L v0 r0.1 v4 (Go.IntKind.wrap .i64 (v5 + (1 : Int)))))
      (none))
    (none))
  (some (v1, ()))) := by kernel_rfl
/-- loop.example/g00548/laws.szWorld -/
theorem q_laws_szWorld (R : Run EE) (L : Loops) (x0 : d28) (x1 : Int) : @Eq (Option ((Int × Unit))) (bodyK EE R L 5 [⟨t7, x0⟩, ⟨(.int .i64), x1⟩]) (
  (c_laws_szStore R x0.1 x1).bind fun r0 =>
  cond (decide (r0.1 < (0 : Int)))
  (some ((-(1 : Int)), ()))
  ((c_laws_szDevice R x0.2.1 r0.1).bind fun r1 =>
    cond (decide (r1.1 < (0 : Int)))
    (some ((-(1 : Int)), ()))
    ((c_laws_szEntryS R x0.2.2.1 r1.1).bind fun r2 =>
      cond (decide (r2.1 < (0 : Int)))
      (some ((-(1 : Int)), ()))
      ((c_laws_szTxnSS R x0.2.2.2.1 r2.1).bind fun r3 =>
        cond (decide (r3.1 < (0 : Int)))
        (some ((-(1 : Int)), ()))
        ((c_laws_szResultS R x0.2.2.2.2.1 r3.1).bind fun r4 =>
          cond (decide (r4.1 < (0 : Int)))
          (some ((-(1 : Int)), ()))
          (some (r4.1, ()))))))) := by kernel_rfl
/-- loop.example/g00548/laws.toRegister -/
theorem q_laws_toRegister (R : Run EE) (L : Loops) (x0 : d22) : @Eq (Option ((d22 × Unit))) (bodyK EE R L 66 [⟨t0, x0⟩]) (
  some ((x0.1, (x0.2.1, (x0.2.2.1, (x0.2.2.2.1, (x0.2.2.2.2.1, (x0.2.2.2.2.2.1, (x0.2.2.2.2.2.2.1, ()))))))), ())) := by kernel_rfl
/-- loop.example/g00548/laws.toStringS -/
theorem q_laws_toStringS (R : Run EE) (L : Loops) (x0 : List (List UInt8)) : @Eq (Option (d29)) (bodyK EE R L 67 [⟨(.sl .str), x0⟩]) (
  cond (Go.Rf.leI (((List.length x0) : Nat) : Int) (((List.length x0) : Nat) : Int))
  (cond (Go.Rf.lenOK (Int.toNat (((List.length x0) : Nat) : Int)))
    (lp_laws_toStringS_0 R L x0 ([] : List (List (UInt8))) (List.replicate (Int.toNat (((List.length x0) : Nat) : Int)) ([] : List (UInt8))) (0 : Int))
    (none))
  (none)) := by kernel_rfl
theorem q_laws_toStringS_0 (R : Run EE) (L : Loops) (v0 : List (List UInt8)) (v2 : List (List UInt8)) (v3 : List (List UInt8)) (v4 : Int) : @Eq (Option (d29)) (from_ EE R L 67 Go.Proofs.Tryz.f67 [1, 1, 0, 1, 0, 0] (mk 22 [(0, .dat ⟨(.sl .str), v0, .sh⟩), (2, .dat ⟨(.sl .str), v2, (.own .sh)⟩), (3, .dat ⟨(.sl .str), v3, (.own .sh)⟩), (4, .dat ⟨(.int .i64), v4, .sh⟩)])) (
  cond (decide (v4 < (((List.length v0) : Nat) : Int)))
  (cond (Go.Rf.nonneg v4)
    (cond (Nat.blt (Int.toNat v4) (List.length v0))
      (cond (Go.Rf.nonneg v4)
        (cond (Nat.blt (Int.toNat v4) (List.length v3))
          (lp_laws_toStringS_0 R L v0 v2 (List.set v3 (Int.toNat v4) (List.getD v0 (Int.toNat v4) ([] : List (UInt8)))) (Go.IntKind.wrap .i64 (v4 + (1 : Int))))
          (none))
        (none))
      (none))
    (none))
  (some (v3, ()))) := by kernel_rfl
/-- loop.example/g00548/laws.toIo -/
theorem q_laws_toIo (R : Run EE) (L : Loops) (x0 : d23) : @Eq (Option ((d23 × Unit))) (bodyK EE R L 112 [⟨t1, x0⟩]) (
  some ((x0.1, (x0.2.1, ())), ())) := by kernel_rfl
/-- loop.example/g00548/laws.toIoS -/
theorem q_laws_toIoS (R : Run EE) (L : Loops) (x0 : List (d23)) : @Eq (Option ((List (d23) × Unit))) (bodyK EE R L 68 [⟨(.sl t1), x0⟩]) (
  cond (Go.Rf.leI (((List.length x0) : Nat) : Int) (((List.length x0) : Nat) : Int))
  (cond (Go.Rf.lenOK (Int.toNat (((List.length x0) : Nat) : Int)))
    (lp_laws_toIoS_0 R L x0 ([] : List (d43)) (List.replicate (Int.toNat (((List.length x0) : Nat) : Int)) ((0 : Int), (([] : List (UInt8)), ()))) (0 : Int))
    (none))
  (none)) := by kernel_rfl
theorem q_laws_toIoS_0 (R : Run EE) (L : Loops) (v0 : List (d23)) (v2 : List (d23)) (v3 : List (d23)) (v4 : Int) : @Eq (Option ((List (d23) × Unit))) (from_ EE R L 68 Go.Proofs.Tryz.f68 [1, 1, 0, 1, 0, 0] (mk 23 [(0, .dat ⟨(.sl t1), v0, .sh⟩), (2, .dat ⟨(.sl t1), v2, (.own .sh)⟩), (3, .dat ⟨(.sl t1), v3, (.own .sh)⟩), (4, .dat ⟨(.int .i64), v4, .sh⟩)])) (
  cond (decide (v4 < (((List.length v0) : Nat) : Int)))
  (cond (Go.Rf.nonneg v4)
    (cond (Nat.blt (Int.toNat v4) (List.length v0))
      ((c_laws_toIo R (List.getD v0 (Int.toNat v4) ((0 : Int), (([] : List (UInt8)), ())))).bind fun r0 =>
        cond (Go.Rf.nonneg v4)
        (cond (Nat.blt (Int.toNat v4) (List.length v3))
          (lp_laws_toIoS_0 R L v0 v2 (List.set v3 (Int.toNat v4) r0.1) (Go.IntKind.wrap .i64 (v4 + (1 : Int))))
          (none))
        (none))
      (none))
    (none))
  (some (v3, ()))) := by kernel_rfl
/-- loop.example/g00548/laws.toDevice -/
theorem q_laws_toDevice (R : Run EE) (L : Loops) (x0 : d24) : @Eq (Option ((d24 × Unit))) (bodyK EE R L 27 [⟨t2, x0⟩]) (
  (c_laws_toStringS R x0.1).bind fun r0 =>
  (c_laws_toIoS R x0.2.1).bind fun r1 =>
  some ((r0.1, (r1.1, ())), ())) := by kernel_rfl
/-- loop.example/g00548/laws.toStore -/
theorem q_laws_toStore (R : Run EE) (L : Loops) (x0 : d25) : @Eq (Option ((d25 × Unit))) (bodyK EE R L 26 [⟨t3, x0⟩]) (
  (c_laws_toRegister R x0.2.1).bind fun r0 =>
  (c_laws_toDevice R x0.2.2.1).bind fun r1 =>
  some ((x0.1, (r0.1, (r1.1, (x0.2.2.2.1, (x0.2.2.2.2.1, ()))))), ())) := by kernel_rfl
/-- loop.example/g00548/laws.toEntry -/
theorem q_laws_toEntry (R : Run EE) (L : Loops) (x0 : (Int × (Int × Unit))) : @Eq (Option (d30)) (bodyK EE R L 69 [⟨t4, x0⟩]) (
  some ((x0.1, (x0.2.1, ())), ())) := by kernel_rfl
/-- loop.example/g00548/laws.toEntryS -/
theorem q_laws_toEntryS (R : Run EE) (L : Loops) (x0 : List ((Int × (Int × Unit)))) : @Eq (Option (d31)) (bodyK EE R L 28 [⟨(.sl t4), x0⟩]) (
  cond (Go.Rf.leI (((List.length x0) : Nat) : Int) (((List.length x0) : Nat) : Int))
  (cond (Go.Rf.lenOK (Int.toNat (((List.length x0) : Nat) : Int)))
    (lp_laws_toEntryS_0 R L x0 ([] : List ((Int × (Int × Unit)))) (List.replicate (Int.toNat (((List.length x0) : Nat) : Int)) ((0 : Int), ((0 : Int), ()))) (0 : Int))
    (none))
  (none)) := by kernel_rfl
theorem q_laws_toEntryS_0 (R : Run EE) (L : Loops) (v0 : List ((Int × (Int × Unit)))) (v2 : List ((Int × (Int × Unit)))) (v3 : List ((Int × (Int × Unit)))) (v4 : Int) : @Eq (Option (d31)) (from_ EE R L 28 Go.Proofs.Tryz.f28 [1, 1, 0, 1, 0, 0] (mk 23 [(0, .dat ⟨(.sl t4), v0, .sh⟩), (2, .dat ⟨(.sl t4), v2, (.own .sh)⟩), (3, .dat ⟨(.sl t4), v3, (.own .sh)⟩), (4, .dat ⟨(.int .i64), v4, .sh⟩)])) (
  cond (decide (v4 < (((List.length v0) : Nat) : Int)))
  (cond (Go.Rf.nonneg v4)
    (cond (Nat.blt (Int.toNat v4) (List.length v0))
      ((c_laws_toEntry R (List.getD v0 (Int.toNat v4) ((0 : Int), ((0 : Int), ())))).bind fun r0 =>
        cond (Go.Rf.nonneg v4)
        (cond (Nat.blt (Int.toNat v4) (List.length v3))
          (lp_laws_toEntryS_0 R L v0 v2 (List.set v3 (Int.toNat v4) r0.1) (Go.IntKind.wrap .i64 (v4 + (1 : Int))))
          (none))
        (none))
      (none))
    (none))
  (some (v3, ()))) := by kernel_rfl
/-- loop.example/g00548/laws.toOp -/
theorem q_laws_toOp (R : Run EE) (L : Loops) (x0 : d26) : @Eq (Option ((d26 × Unit))) (bodyK EE R L 183 [⟨t5, x0⟩]) (
  some ((x0.1, (x0.2.1, (x0.2.2.1, ()))), ())) := by kernel_rfl
/-- loop.example/g00548/laws.toOpS -/
theorem q_laws_toOpS (R : Run EE) (L : Loops) (x0 : List (d26)) : @Eq (Option ((List (d26) × Unit))) (bodyK EE R L 154 [⟨(.sl t5), x0⟩]) (
  cond (Go.Rf.leI (((List.length x0) : Nat) : Int) (((List.length x0) : Nat) : Int))
  (cond (Go.Rf.lenOK (Int.toNat (((List.length x0) : Nat) : Int)))
    (lp_laws_toOpS_0 R L x0 ([] : List (d26)) (List.replicate (Int.toNat (((List.length x0) : Nat) : Int)) ((0 : Int), ((0 : Int), ((0 : Int), ())))) (0 : Int))
    (none))
  (none)) := by kernel_rfl
theorem q_laws_toOpS_0 (R : Run EE) (L : Loops) (v0 : List (d26)) (v2 : List (d26)) (v3 : List (d26)) (v4 : Int) : @Eq (Option ((List (d26) × Unit))) (from_ EE R L 154 Go.Proofs.Tryz.f154 [1, 1, 0, 1, 0, 0] (mk 23 [(0, .dat ⟨(.sl t5), v0, .sh⟩), (2, .dat ⟨(.sl t5), v2, (.own .sh)⟩), (3, .dat ⟨(.sl t5), v3, (.own .sh)⟩), (4, .dat ⟨(.int .i64), v4, .sh⟩)])) (
  cond (decide (v4 < (((List.length v0) : Nat) : Int)))
  (cond (Go.Rf.nonneg v4)
    (cond (Nat.blt (Int.toNat v4) (List.length v0))
      ((c_laws_toOp R (List.getD v0 (Int.toNat v4) ((0 : Int), ((0 : Int), ((0 : Int), ()))))).bind fun r0 =>
        cond (Go.Rf.nonneg v4)
        (cond (Nat.blt (Int.toNat v4) (List.length v3))
          (lp_laws_toOpS_0 R L v0 v2 (List.set v3 (Int.toNat v4) r0.1) (Go.IntKind.wrap .i64 (v4 + (1 : Int))))
          (none))
        (none))
      (none))
    (none))
  (some (v3, ()))) := by kernel_rfl
/-- loop.example/g00548/laws.toTxn -/
theorem q_laws_toTxn (R : Run EE) (L : Loops) (x0 : (List (d26) × Unit)) : @Eq (Option (d32)) (bodyK EE R L 113 [⟨(.pair (.sl t5) .unit), x0⟩]) (
  (c_laws_toOpS R x0.1).bind fun r0 =>
  some ((r0.1, ()), ())) := by kernel_rfl
/-- loop.example/g00548/laws.toTxnS -/
theorem q_laws_toTxnS (R : Run EE) (L : Loops) (x0 : List ((List (d26) × Unit))) : @Eq (Option (d33)) (bodyK EE R L 70 [⟨(.sl (.pair (.sl t5) .unit)), x0⟩]) (
  cond (Go.Rf.leI (((List.length x0) : Nat) : Int) (((List.length x0) : Nat) : Int))
  (cond (Go.Rf.lenOK (Int.toNat (((List.length x0) : Nat) : Int)))
    (lp_laws_toTxnS_0 R L x0 ([] : List ((List (d26) × Unit))) (List.replicate (Int.toNat (((List.length x0) : Nat) : Int)) (([] : List (d26)), ())) (0 : Int))
    (none))
  (none)) := by kernel_rfl
theorem q_laws_toTxnS_0 (R : Run EE) (L : Loops) (v0 : List ((List (d26) × Unit))) (v2 : List ((List (d26) × Unit))) (v3 : List ((List (d26) × Unit))) (v4 : Int) : @Eq (Option (d33)) (from_ EE R L 70 Go.Proofs.Tryz.f70 [1, 1, 0, 1, 0, 0] (mk 23 [(0, .dat ⟨(.sl (.pair (.sl t5) .unit)), v0, .sh⟩), (2, .dat ⟨(.sl (.pair (.sl t5) .unit)), v2, (.own (.pr (.own .sh) .sh))⟩), (3, .dat ⟨(.sl (.pair (.sl t5) .unit)), v3, (.own (.pr (.own .sh) .sh))⟩), (4, .dat ⟨(.int .i64), v4, .sh⟩)])) (
  cond (decide (v4 < (((List.length v0) : Nat) : Int)))
  (cond (Go.Rf.nonneg v4)
    (cond (Nat.blt (Int.toNat v4) (List.length v0))
      ((c_laws_toTxn R (List.getD v0 (Int.toNat v4) (([] : List (d26)), ()))).bind fun r0 =>
        cond (Go.Rf.nonneg v4)
        (cond (Nat.blt (Int.toNat v4) (List.length v3))
          (lp_laws_toTxnS_0 R L v0 v2 (List.set v3 (Int.toNat v4) r0.1) (Go.IntKind.wrap .i64 (v4 + (1 : Int))))
          (none))
        (none))
      (none))
    (none))
  (some (v3, ()))) := by kernel_rfl
/-- loop.example/g00548/laws.toTxnSS -/
theorem q_laws_toTxnSS (R : Run EE) (L : Loops) (x0 : List (List ((List (d26) × Unit)))) : @Eq (Option (d34)) (bodyK EE R L 29 [⟨(.sl (.sl (.pair (.sl t5) .unit))), x0⟩]) (
  cond (Go.Rf.leI (((List.length x0) : Nat) : Int) (((List.length x0) : Nat) : Int))
  (cond (Go.Rf.lenOK (Int.toNat (((List.length x0) : Nat) : Int)))
    (lp_laws_toTxnSS_0 R L x0 ([] : List (List ((List (d26) × Unit)))) (List.replicate (Int.toNat (((List.length x0) : Nat) : Int)) ([] : List ((List (d26) × Unit)))) (0 : Int))
    (none))
  (none)) := by kernel_rfl
theorem q_laws_toTxnSS_0 (R : Run EE) (L : Loops) (v0 : List (List ((List (d26) × Unit)))) (v2 : List (List ((List (d26) × Unit)))) (v3 : List (List ((List (d26) × Unit)))) (v4 : Int) : @Eq (Option (d34)) (from_ EE R L 29 Go.Proofs.Tryz.f29 [1, 1, 0, 1, 0, 0] (mk 23 [(0, .dat ⟨(.sl (.sl (.pair (.sl t5) .unit))), v0, .sh⟩), (2, .dat ⟨(.sl (.sl (.pair (.sl t5) .unit))), v2, (.own (.own .sh))⟩), (3, .dat ⟨(.sl (.sl (.pair (.sl t5) .unit))), v3, (.own (.own (.pr (.own .sh) .sh)))⟩), (4, .dat ⟨(.int .i64), v4, .sh⟩)])) (
  cond (decide (v4 < (((List.length v0) : Nat) : Int)))
  (cond (Go.Rf.nonneg v4)
    (cond (Nat.blt (Int.toNat v4) (List.length v0))
      ((c_laws_toTxnS R (List.getD v0 (Int.toNat v4) ([] : List ((List (d26) × Unit))))).bind fun r0 =>
        cond (Go.Rf.nonneg v4)
        (cond (Nat.blt (Int.toNat v4) (List.length v3))
          (lp_laws_toTxnSS_0 R L v0 v2 (List.set v3 (Int.toNat v4) r0.1) (Go.IntKind.wrap .i64 (v4 + (1 : Int))))
          (none))
        (none))
      (none))
    (none))
  (some (v3, ()))) := by kernel_rfl
/-- loop.example/g00548/laws.toIntS -/
theorem q_laws_toIntS (R : Run EE) (L : Loops) (x0 : List (Int)) : @Eq (Option ((List (Int) × Unit))) (bodyK EE R L 114 [⟨(.sl (.int .i64)), x0⟩]) (
  cond (Go.Rf.leI (((List.length x0) : Nat) : Int) (((List.length x0) : Nat) : Int))
  (cond (Go.Rf.lenOK (Int.toNat (((List.length x0) : Nat) : Int)))
    (lp_laws_toIntS_0 R L x0 ([] : List (Int)) (List.replicate (Int.toNat (((List.length x0) : Nat) : Int)) (0 : Int)) (0 : Int))
    (none))
  (none)) := by kernel_rfl
theorem q_laws_toIntS_0 (R : Run EE) (L : Loops) (v0 : List (Int)) (v2 : List (Int)) (v3 : List (Int)) (v4 : Int) : @Eq (Option ((List (Int) × Unit))) (from_ EE R L 114 Go.Proofs.Tryz.f114 [1, 1, 0, 1, 0, 0] (mk 22 [(0, .dat ⟨(.sl (.int .i64)), v0, .sh⟩), (2, .dat ⟨(.sl (.int .i64)), v2, (.own .sh)⟩), (3, .dat ⟨(.sl (.int .i64)), v3, (.own .sh)⟩), (4, .dat ⟨(.int .i64), v4, .sh⟩)])) (
  cond (decide (v4 < (((List.length v0) : Nat) : Int)))
  (cond (Go.Rf.nonneg v4)
    (cond (Nat.blt (Int.toNat v4) (List.length v0))
      (cond (Go.Rf.nonneg v4)
        (cond (Nat.blt (Int.toNat v4) (List.length v3))
          (lp_laws_toIntS_0 R L v0 v2 (List.set v3 (Int.toNat v4) (List.getD v0 (Int.toNat v4) (0 : Int))) (Go.IntKind.wrap .i64 (v4 + (1 : Int))))
          (none))
        (none))
      (none))
    (none))
  (some (v3, ()))) := by kernel_rfl
/-- loop.example/g00548/laws.toResult -/
theorem q_laws_toResult (R : Run EE) (L : Loops) (x0 : d27) : @Eq (Option ((d27 × Unit))) (bodyK EE R L 71 [⟨t6, x0⟩]) (
  (c_laws_toIntS R x0.2.1).bind fun r0 =>
  some ((x0.1, (r0.1, ())), ())) := by kernel_rfl
/-- loop.example/g00548/laws.toResultS -/
theorem q_laws_toResultS (R : Run EE) (L : Loops) (x0 : List (d27)) : @Eq (Option ((List (d27) × Unit))) (bodyK EE R L 30 [⟨(.sl t6), x0⟩]) (
  cond (Go.Rf.leI (((List.length x0) : Nat) : Int) (((List.length x0) : Nat) : Int))
  (cond (Go.Rf.lenOK (Int.toNat (((List.length x0) : Nat) : Int)))
    (lp_laws_toResultS_0 R L x0 ([] : List (d27)) (List.replicate (Int.toNat (((List.length x0) : Nat) : Int)) ((0 : Int), (([] : List (Int)), ()))) (0 : Int))
    (none))
  (none)) := by kernel_rfl
theorem q_laws_toResultS_0 (R : Run EE) (L : Loops) (v0 : List (d27)) (v2 : List (d27)) (v3 : List (d27)) (v4 : Int) : @Eq (Option ((List (d27) × Unit))) (from_ EE R L 30 Go.Proofs.Tryz.f30 [1, 1, 0, 1, 0, 0] (mk 23 [(0, .dat ⟨(.sl t6), v0, .sh⟩), (2, .dat ⟨(.sl t6), v2, (.own (.pr .sh (.pr (.own .sh) .sh)))⟩), (3, .dat ⟨(.sl t6), v3, (.own (.pr .sh (.pr (.own .sh) .sh)))⟩), (4, .dat ⟨(.int .i64), v4, .sh⟩)])) (
  cond (decide (v4 < (((List.length v0) : Nat) : Int)))
  (cond (Go.Rf.nonneg v4)
    (cond (Nat.blt (Int.toNat v4) (List.length v0))
      ((c_laws_toResult R (List.getD v0 (Int.toNat v4) ((0 : Int), (([] : List (Int)), ())))).bind fun r0 =>
        cond (Go.Rf.nonneg v4)
        (cond (Nat.blt (Int.toNat v4) (List.length v3))
          (lp_laws_toResultS_0 R L v0 v2 (List.set v3 (Int.toNat v4) r0.1) (Go.IntKind.wrap .i64 (v4 + (1 : Int))))
          (none))
        (none))
      (none))
    (none))
  (some (v3, ()))) := by kernel_rfl
/-- loop.example/g00548/laws.toWorld -/
theorem q_laws_toWorld (R : Run EE) (L : Loops) (x0 : d28) : @Eq (Option ((d28 × Unit))) (bodyK EE R L 7 [⟨t7, x0⟩]) (
  (c_laws_toStore R x0.1).bind fun r0 =>
  (c_laws_toDevice R x0.2.1).bind fun r1 =>
  (c_laws_toEntryS R x0.2.2.1).bind fun r2 =>
  (c_laws_toTxnSS R x0.2.2.2.1).bind fun r3 =>
  (c_laws_toResultS R x0.2.2.2.2.1).bind fun r4 =>
  some ((r0.1, (r1.1, (r2.1, (r3.1, (r4.1, (x0.2.2.2.2.2.1, ())))))), ())) := by kernel_rfl
/-- loop.example/g00548/spec.l01In -/
theorem q_spec_l01In (R : Run EE) (L : Loops) (x0 : Int) (x1 : Int) (x2 : Int) : @Eq (Option ((Bool × Unit))) (bodyK EE R L 108 [⟨(.int .i64), x0⟩, ⟨(.int .i64), x1⟩, ⟨(.int .i64), x2⟩]) (
  cond (decide (x1 ≤ x0))
  (some ((decide (x0 ≤ x2)), ()))
  (some (false, ()))) := by kernel_rfl
/-- loop.example/g00548/spec.RegisterOK -/
theorem q_spec_RegisterOK (R : Run EE) (L : Loops) (x0 : d22) : @Eq (Option ((Bool × Unit))) (bodyK EE R L 106 [⟨t0, x0⟩]) (
  (c_spec_l01In R x0.1 (0 : Int) (1000000 : Int)).bind fun r0 =>
  cond r0.1
  ((c_spec_l01In R x0.2.1 (0 : Int) (1 : Int)).bind fun r1 =>
    cond r1.1
    ((c_spec_l01In R x0.2.2.2.1 (0 : Int) (1000000 : Int)).bind fun r2 =>
      cond r2.1
      ((c_spec_l01In R x0.2.2.1 x0.1 (Go.Rf.minI (Go.IntKind.wrap .i64 (x0.1 + (4 : Int))) (1000000 : Int))).bind fun r3 =>
        cond r3.1
        (cond (Go.Rf.eqI (((List.length x0.2.2.2.2.1) : Nat) : Int) (32 : Int))
          (cond (Go.Rf.eqI (((List.length x0.2.2.2.2.2.1) : Nat) : Int) (32 : Int))
            (cond (Go.Rf.eqI (((List.length x0.2.2.2.2.2.2.1) : Nat) : Int) (32 : Int))
              (cond (decide (x0.1 < x0.2.2.1))
                (some (true, ()))
                (some ((Go.Rf.eqS x0.2.2.2.2.1 x0.2.2.2.2.2.1), ())))
              (some (false, ())))
            (some (false, ())))
          (some (false, ())))
        (some (false, ())))
      (some (false, ())))
    (some (false, ())))
  (some (false, ()))) := by kernel_rfl
/-- loop.example/g00548/spec.l05In -/
theorem q_spec_l05In (R : Run EE) (L : Loops) (x0 : Int) : @Eq (Option ((Bool × Unit))) (bodyK EE R L 107 [⟨(.int .i64), x0⟩]) (
  (c_spec_l01In R x0 (0 : Int) (39 : Int)).bind fun r0 =>
  some (r0.1, ())) := by kernel_rfl
/-- loop.example/g00548/spec.DeviceOK -/
theorem q_spec_DeviceOK (R : Run EE) (L : Loops) (x0 : d24) : @Eq (Option ((Bool × Unit))) (bodyK EE R L 59 [⟨t2, x0⟩]) (
  cond (!(Go.Rf.eqI (((List.length x0.1) : Nat) : Int) (40 : Int)))
  (some (false, ()))
  (cond (decide ((60 : Int) < (((List.length x0.2.1) : Nat) : Int)))
    (some (false, ()))
    (lp_spec_DeviceOK_0 R L x0 x0 false (0 : Int)))) := by kernel_rfl
theorem q_spec_DeviceOK_0 (R : Run EE) (L : Loops) (v0 : d24) (v1 : d24) (v2 : Bool) (v3 : Int) : @Eq (Option ((Bool × Unit))) (from_ EE R L 59 Go.Proofs.Tryz.f59 [1, 1, 0, 1, 0, 0] (mk 54 [(0, .dat ⟨t2, v0, .sh⟩), (1, .dat ⟨(.ptr t2), v1, (.own .sh)⟩), (2, .dat ⟨.bool, v2, .sh⟩), (3, .dat ⟨(.int .i64), v3, .sh⟩)])) (
  cond (decide (v3 < (((List.length v1.1) : Nat) : Int)))
  (cond (Go.Rf.nonneg v3)
    (cond (Nat.blt (Int.toNat v3) (List.length v1.1))
      (cond (decide ((700 : Int) < (((List.length (List.getD v1.1 (Int.toNat v3) ([] : List (UInt8)))) : Nat) : Int)))
        (some (false, ()))
        (lp_spec_DeviceOK_0 R L v0 v1 v2 (Go.IntKind.wrap .i64 (v3 + (1 : Int)))))
      (none))
    (none))
  (lp_spec_DeviceOK_1 R L v0 v1 v2 v3 (0 : Int))) := by kernel_rfl
theorem q_spec_DeviceOK_1 (R : Run EE) (L : Loops) (v0 : d24) (v1 : d24) (v2 : Bool) (v3 : Int) (v4 : Int) : @Eq (Option ((Bool × Unit))) (from_ EE R L 59 Go.Proofs.Tryz.f59 [1, 1, 1, 0, 1, 0, 0] (mk 54 [(0, .dat ⟨t2, v0, .sh⟩), (1, .dat ⟨(.ptr t2), v1, (.own .sh)⟩), (2, .dat ⟨.bool, v2, .sh⟩), (3, .dat ⟨(.int .i64), v3, .sh⟩), (4, .dat ⟨(.int .i64), v4, .sh⟩)])) (
  cond (decide (v4 < (((List.length v1.2.1) : Nat) : Int)))
  (cond (Go.Rf.nonneg v4)
    (cond (Nat.blt (Int.toNat v4) (List.length v1.2.1))
      ((c_spec_l05In R (List.getD v1.2.1 (Int.toNat v4) ((0 : Int), (([] : List (UInt8)), ()))).1).bind fun r0 =>
        cond (!r0.1)
        (some (false, ()))
        (cond (Go.Rf.nonneg v4)
          (cond (Nat.blt (Int.toNat v4) (List.length v1.2.1))
            (cond (decide ((700 : Int) < (((List.length (List.getD v1.2.1 (Int.toNat v4) ((0 : Int), (([] : List (UInt8)), ()))).2.1) : Nat) : Int)))
              (some (false, ()))
              (lp_spec_DeviceOK_1 R L v0 v1 v2 v3 (Go.IntKind.wrap .i64 (v4 + (1 : Int)))))
            (none))
          (none)))
      (none))
    (none))
  (some (true, ()))) := by kernel_rfl
/-- loop.example/g00548/spec.StoreOK -/
theorem q_spec_StoreOK (R : Run EE) (L : Loops) (x0 : d25) : @Eq (Option ((Bool × Unit))) (bodyK EE R L 58 [⟨t3, x0⟩]) (
  cond (Go.Rf.eqI (((List.length x0.1) : Nat) : Int) (32 : Int))
  ((c_spec_RegisterOK R x0.2.1).bind fun r0 =>
    cond r0.1
    ((c_spec_DeviceOK R x0.2.2.1).bind fun r1 =>
      cond r1.1
      (cond (Go.Rf.eqI (((List.length x0.2.2.1.2.1) : Nat) : Int) (0 : Int))
        (cond x0.2.2.2.1
          (some ((!x0.2.2.2.2.1), ()))
          (some ((!false), ())))
        (some (false, ())))
      (some (false, ())))
    (some (false, ())))
  (some (false, ()))) := by kernel_rfl
/-- loop.example/g00548/spec.MapOK -/
theorem q_spec_MapOK (R : Run EE) (L : Loops) (x0 : List ((Int × (Int × Unit)))) : @Eq (Option ((Bool × Unit))) (bodyK EE R L 60 [⟨(.sl t4), x0⟩]) (
  cond (decide ((4096 : Int) < (((List.length x0) : Nat) : Int)))
  (some (false, ()))
  (lp_spec_MapOK_0 R L x0 false (0 : Int))) := by kernel_rfl
theorem q_spec_MapOK_0 (R : Run EE) (L : Loops) (v0 : List ((Int × (Int × Unit)))) (v2 : Bool) (v3 : Int) : @Eq (Option ((Bool × Unit))) (from_ EE R L 60 Go.Proofs.Tryz.f60 [1, 1, 0, 1, 0, 0] (mk 50 [(0, .dat ⟨(.sl t4), v0, .sh⟩), (2, .dat ⟨.bool, v2, .sh⟩), (3, .dat ⟨(.int .i64), v3, .sh⟩)])) (
  cond (decide (v3 < (((List.length v0) : Nat) : Int)))
  (cond (Go.Rf.nonneg v3)
    (cond (Nat.blt (Int.toNat v3) (List.length v0))
      ((c_spec_l01In R (List.getD v0 (Int.toNat v3) ((0 : Int), ((0 : Int), ()))).1 (1 : Int) (9999 : Int)).bind fun r0 =>
        cond (!r0.1)
        (some (false, ()))
        (cond (Go.Rf.nonneg v3)
          (cond (Nat.blt (Int.toNat v3) (List.length v0))
            ((c_spec_l01In R (List.getD v0 (Int.toNat v3) ((0 : Int), ((0 : Int), ()))).2.1 (0 : Int) (999999 : Int)).bind fun r1 =>
              cond (!r1.1)
              (some (false, ()))
              (cond (decide ((0 : Int) < v3))
                (cond (Go.Rf.nonneg (Go.IntKind.wrap .i64 (v3 - (1 : Int))))
                  (cond (Nat.blt (Int.toNat (Go.IntKind.wrap .i64 (v3 - (1 : Int)))) (List.length v0))
                    (cond (Go.Rf.nonneg v3)
                      (cond (Nat.blt (Int.toNat v3) (List.length v0))
                        (cond (decide ((List.getD v0 (Int.toNat v3) ((0 : Int), ((0 : Int), ()))).1 ≤ (List.getD v0 (Int.toNat (Go.IntKind.wrap .i64 (v3 - (1 : Int)))) ((0 : Int), ((0 : Int), ()))).1))
                          (some (false, ()))
                          (lp_spec_MapOK_0 R L v0 v2 (Go.IntKind.wrap .i64 (v3 + (1 : Int)))))
                        (none))
                      (none))
                    (none))
                  (none))
                (lp_spec_MapOK_0 R L v0 v2 (Go.IntKind.wrap .i64 (v3 + (1 : Int))))))
            (none))
          (none)))
      (none))
    (none))
  (some ((decide ((((List.length v0) : Nat) : Int) ≤ (11 : Int))), ()))) := by kernel_rfl
/-- loop.example/g00548/spec.l10ResultOK -/
theorem q_spec_l10ResultOK (R : Run EE) (L : Loops) (x0 : d27) : @Eq (Option ((Bool × Unit))) (bodyK EE R L 109 [⟨t6, x0⟩]) (
  (c_spec_l01In R x0.1 (0 : Int) (19 : Int)).bind fun r0 =>
  cond (!r0.1)
  (some (false, ()))
  (cond (decide ((32 : Int) < (((List.length x0.2.1) : Nat) : Int)))
    (some (false, ()))
    (cond (!(Go.Rf.eqI x0.1 (0 : Int)))
      (cond (decide ((0 : Int) < (((List.length x0.2.1) : Nat) : Int)))
        (some (false, ()))
        (lp_spec_l10ResultOK_0 R L x0 x0 false (0 : Int)))
      (lp_spec_l10ResultOK_0 R L x0 x0 false (0 : Int))))) := by kernel_rfl
theorem q_spec_l10ResultOK_0 (R : Run EE) (L : Loops) (v0 : d27) (v1 : d27) (v2 : Bool) (v3 : Int) : @Eq (Option ((Bool × Unit))) (from_ EE R L 109 Go.Proofs.Tryz.f109 [1, 1, 0, 1, 0, 0] (mk 39 [(0, .dat ⟨t6, v0, .sh⟩), (1, .dat ⟨(.ptr t6), v1, (.own .sh)⟩), (2, .dat ⟨.bool, v2, .sh⟩), (3, .dat ⟨(.int .i64), v3, .sh⟩)])) (
  cond (decide (v3 < (((List.length v1.2.1) : Nat) : Int)))
  (cond (Go.Rf.nonneg v3)
    (cond (Nat.blt (Int.toNat v3) (List.length v1.2.1))
      ((c_spec_l01In R (List.getD v1.2.1 (Int.toNat v3) (0 : Int)) (0 : Int) (999999 : Int)).bind fun r0 =>
        cond (!r0.1)
        (some (false, ()))
        (lp_spec_l10ResultOK_0 R L v0 v1 v2 (Go.IntKind.wrap .i64 (v3 + (1 : Int)))))
      (none))
    (none))
  (some (true, ()))) := by kernel_rfl
/-- loop.example/g00548/spec.l12Results -/
theorem q_spec_l12Results (R : Run EE) (L : Loops) (x0 : List (d27)) : @Eq (Option ((Bool × Unit))) (bodyK EE R L 61 [⟨(.sl t6), x0⟩]) (
  lp_spec_l12Results_0 R L x0 false (0 : Int)) := by kernel_rfl
theorem q_spec_l12Results_0 (R : Run EE) (L : Loops) (v0 : List (d27)) (v2 : Bool) (v3 : Int) : @Eq (Option ((Bool × Unit))) (from_ EE R L 61 Go.Proofs.Tryz.f61 [1, 0, 1, 0, 0] (mk 19 [(0, .dat ⟨(.sl t6), v0, .sh⟩), (2, .dat ⟨.bool, v2, .sh⟩), (3, .dat ⟨(.int .i64), v3, .sh⟩)])) (
  cond (decide (v3 < (((List.length v0) : Nat) : Int)))
  (cond (Go.Rf.nonneg v3)
    (cond (Nat.blt (Int.toNat v3) (List.length v0))
      ((c_spec_l10ResultOK R (List.getD v0 (Int.toNat v3) ((0 : Int), (([] : List (Int)), ())))).bind fun r0 =>
        cond (!r0.1)
        (some (false, ()))
        (lp_spec_l12Results_0 R L v0 v2 (Go.IntKind.wrap .i64 (v3 + (1 : Int)))))
      (none))
    (none))
  (some ((decide ((((List.length v0) : Nat) : Int) ≤ (2 : Int))), ()))) := by kernel_rfl
/-- loop.example/g00548/spec.OpOK -/
theorem q_spec_OpOK (R : Run EE) (L : Loops) (x0 : d26) : @Eq (Option ((Bool × Unit))) (bodyK EE R L 152 [⟨t5, x0⟩]) (
  (c_spec_l01In R x0.1 (1 : Int) (6 : Int)).bind fun r0 =>
  cond (!r0.1)
  (some (false, ()))
  ((c_spec_l01In R x0.2.1 (1 : Int) (9999 : Int)).bind fun r1 =>
    cond (!r1.1)
    (some (false, ()))
    (cond (Go.Rf.eqI x0.1 (1 : Int))
      (some ((Go.Rf.eqI x0.2.2.1 (0 : Int)), ()))
      (cond (Go.Rf.eqI x0.1 (3 : Int))
        (some ((Go.Rf.eqI x0.2.2.1 (0 : Int)), ()))
        (cond (Go.Rf.eqI x0.1 (6 : Int))
          ((c_spec_l01In R x0.2.2.1 (1 : Int) (4 : Int)).bind fun r2 =>
            some (r2.1, ()))
          ((c_spec_l01In R x0.2.2.1 (0 : Int) (999999 : Int)).bind fun r2 =>
            some (r2.1, ()))))))) := by kernel_rfl
/-- loop.example/g00548/spec.l09Txn -/
theorem q_spec_l09Txn (R : Run EE) (L : Loops) (x0 : (List (d26) × Unit)) : @Eq (Option ((Bool × Unit))) (bodyK EE R L 110 [⟨(.pair (.sl t5) .unit), x0⟩]) (
  lp_spec_l09Txn_0 R L x0 x0 false (0 : Int)) := by kernel_rfl
theorem q_spec_l09Txn_0 (R : Run EE) (L : Loops) (v0 : (List (d26) × Unit)) (v1 : (List (d26) × Unit)) (v2 : Bool) (v3 : Int) : @Eq (Option ((Bool × Unit))) (from_ EE R L 110 Go.Proofs.Tryz.f110 [1, 0, 1, 0, 0] (mk 22 [(0, .dat ⟨(.pair (.sl t5) .unit), v0, .sh⟩), (1, .dat ⟨(.ptr (.pair (.sl t5) .unit)), v1, (.own .sh)⟩), (2, .dat ⟨.bool, v2, .sh⟩), (3, .dat ⟨(.int .i64), v3, .sh⟩)])) (
  cond (decide (v3 < (((List.length v1.1) : Nat) : Int)))
  (cond (Go.Rf.nonneg v3)
    (cond (Nat.blt (Int.toNat v3) (List.length v1.1))
      ((c_spec_OpOK R (List.getD v1.1 (Int.toNat v3) ((0 : Int), ((0 : Int), ((0 : Int), ()))))).bind fun r0 =>
        cond (!r0.1)
        (some (false, ()))
        (lp_spec_l09Txn_0 R L v0 v1 v2 (Go.IntKind.wrap .i64 (v3 + (1 : Int)))))
      (none))
    (none))
  ((c_spec_l01In R (((List.length v1.1) : Nat) : Int) (1 : Int) (4 : Int)).bind fun r0 =>
    some (r0.1, ()))) := by kernel_rfl
/-- loop.example/g00548/spec.BatchOK -/
theorem q_spec_BatchOK (R : Run EE) (L : Loops) (x0 : List ((List (d26) × Unit))) : @Eq (Option ((Bool × Unit))) (bodyK EE R L 62 [⟨(.sl (.pair (.sl t5) .unit)), x0⟩]) (
  cond (decide ((4096 : Int) < (((List.length x0) : Nat) : Int)))
  (some (false, ()))
  ((c_spec_l01In R (((List.length x0) : Nat) : Int) (1 : Int) (2 : Int)).bind fun r0 =>
    cond (!r0.1)
    (some (false, ()))
    (lp_spec_BatchOK_0 R L x0 false (0 : Int)))) := by kernel_rfl
theorem q_spec_BatchOK_0 (R : Run EE) (L : Loops) (v0 : List ((List (d26) × Unit))) (v2 : Bool) (v3 : Int) : @Eq (Option ((Bool × Unit))) (from_ EE R L 62 Go.Proofs.Tryz.f62 [1, 1, 1, 0, 1, 0, 0] (mk 23 [(0, .dat ⟨(.sl (.pair (.sl t5) .unit)), v0, .sh⟩), (2, .dat ⟨.bool, v2, .sh⟩), (3, .dat ⟨(.int .i64), v3, .sh⟩)])) (
  cond (decide (v3 < (((List.length v0) : Nat) : Int)))
  (cond (Go.Rf.nonneg v3)
    (cond (Nat.blt (Int.toNat v3) (List.length v0))
      ((c_spec_l09Txn R (List.getD v0 (Int.toNat v3) (([] : List (d26)), ()))).bind fun r0 =>
        cond (!r0.1)
        (some (false, ()))
        (lp_spec_BatchOK_0 R L v0 v2 (Go.IntKind.wrap .i64 (v3 + (1 : Int)))))
      (none))
    (none))
  (some (true, ()))) := by kernel_rfl
/-- loop.example/g00548/spec.WorldOK -/
theorem q_spec_WorldOK (R : Run EE) (L : Loops) (x0 : d28) : @Eq (Option ((Bool × Unit))) (bodyK EE R L 24 [⟨t7, x0⟩]) (
  (c_spec_StoreOK R x0.1).bind fun r0 =>
  cond (!r0.1)
  (some (false, ()))
  ((c_spec_DeviceOK R x0.2.1).bind fun r1 =>
    cond (!r1.1)
    (some (false, ()))
    (cond (decide ((0 : Int) < (((List.length x0.2.1.2.1) : Nat) : Int)))
      (some (false, ()))
      ((c_spec_MapOK R x0.2.2.1).bind fun r2 =>
        cond (!r2.1)
        (some (false, ()))
        (cond (!(Go.Rf.eqI (((List.length x0.2.2.2.1) : Nat) : Int) (Go.IntKind.wrap .i64 (x0.1.2.1.2.2.1 - x0.1.2.1.1))))
          (some (false, ()))
          ((c_spec_l12Results R x0.2.2.2.2.1).bind fun r3 =>
            cond (!r3.1)
            (some (false, ()))
            (lp_spec_WorldOK_0 R L x0 x0 false (0 : Int)))))))) := by kernel_rfl
theorem q_spec_WorldOK_0 (R : Run EE) (L : Loops) (v0 : d28) (v1 : d28) (v2 : Bool) (v3 : Int) : @Eq (Option ((Bool × Unit))) (from_ EE R L 24 Go.Proofs.Tryz.f24 [1, 1, 0, 1, 0, 0] (mk 62 [(0, .dat ⟨t7, v0, .sh⟩), (1, .dat ⟨(.ptr t7), v1, (.own .sh)⟩), (2, .dat ⟨.bool, v2, .sh⟩), (3, .dat ⟨(.int .i64), v3, .sh⟩)])) (
  cond (decide (v3 < (((List.length v1.2.2.2.1) : Nat) : Int)))
  (cond (Go.Rf.nonneg v3)
    (cond (Nat.blt (Int.toNat v3) (List.length v1.2.2.2.1))
      ((c_spec_BatchOK R (List.getD v1.2.2.2.1 (Int.toNat v3) ([] : List ((List (d26) × Unit))))).bind fun r0 =>
        cond (!r0.1)
        (some (false, ()))
        (lp_spec_WorldOK_0 R L v0 v1 v2 (Go.IntKind.wrap .i64 (v3 + (1 : Int)))))
      (none))
    (none))
  (some (true, ()))) := by kernel_rfl
/-- loop.example/g00548/spec.l00Digits -/
theorem q_spec_l00Digits (R : Run EE) (L : Loops) (x0 : Int) : @Eq (Option ((List UInt8 × Unit))) (bodyK EE R L 63 [⟨(.int .i64), x0⟩]) (
  cond (Go.Rf.eqI x0 (-(9223372036854775808 : Int)))
  (some (((45 : UInt8) :: ((57 : UInt8) :: ((50 : UInt8) :: ((50 : UInt8) :: ((51 : UInt8) :: ((51 : UInt8) :: ((55 : UInt8) :: ((50 : UInt8) :: ((48 : UInt8) :: ((51 : UInt8) :: ((54 : UInt8) :: ((56 : UInt8) :: ((53 : UInt8) :: ((52 : UInt8) :: ((55 : UInt8) :: ((55 : UInt8) :: ((53 : UInt8) :: ((56 : UInt8) :: ((48 : UInt8) :: ((56 : UInt8) :: ([] : List (UInt8)))))))))))))))))))))), ()))
  (cond (decide (x0 < (0 : Int)))
    ((c_spec_l00Digits R (Go.Rf.negI .i64 x0)).bind fun r0 =>
      cond (Go.Rf.lenOK ((List.length ((45 : UInt8) :: ([] : List (UInt8)))) + (List.length r0.1)))
      (some ((((45 : UInt8) :: ([] : List (UInt8))) ++ r0.1), ()))
      (none))
    (cond (decide (x0 < (10 : Int)))
      (some ((List.map (fun (n : Int) => (UInt8.ofNat (Int.toNat n))) ((Go.IntKind.wrap .u8 (Go.IntKind.wrap .i64 ((48 : Int) + x0))) :: ([] : List (Int)))), ()))
      ((c_spec_l00Digits R (Go.IntKind.wrap .i64 (Int.tdiv x0 (10 : Int)))).bind fun r0 =>
        cond (Go.Rf.lenOK ((List.length r0.1) + (List.length (List.map (fun (n : Int) => (UInt8.ofNat (Int.toNat n))) ((Go.IntKind.wrap .u8 (Go.IntKind.wrap .i64 ((48 : Int) + (Int.tmod x0 (10 : Int))))) :: ([] : List (Int)))))))
        (some ((r0.1 ++ (List.map (fun (n : Int) => (UInt8.ofNat (Int.toNat n))) ((Go.IntKind.wrap .u8 (Go.IntKind.wrap .i64 ((48 : Int) + (Int.tmod x0 (10 : Int))))) :: ([] : List (Int))))), ()))
        (none))))) := by kernel_rfl
/-- loop.example/g00548/spec.l09Words -/
theorem q_spec_l09Words (R : Run EE) (L : Loops)  : @Eq (Option (d29)) (bodyK EE R L 153 []) (
  some ((([] : List (UInt8)) :: (((103 : UInt8) :: ((101 : UInt8) :: ((116 : UInt8) :: ([] : List (UInt8))))) :: (((112 : UInt8) :: ((117 : UInt8) :: ((116 : UInt8) :: ([] : List (UInt8))))) :: (((100 : UInt8) :: ((114 : UInt8) :: ((111 : UInt8) :: ((112 : UInt8) :: ([] : List (UInt8)))))) :: (((99 : UInt8) :: ((104 : UInt8) :: ((101 : UInt8) :: ((99 : UInt8) :: ((107 : UInt8) :: ([] : List (UInt8))))))) :: (((97 : UInt8) :: ((100 : UInt8) :: ((100 : UInt8) :: ([] : List (UInt8))))) :: (((115 : UInt8) :: ((99 : UInt8) :: ((97 : UInt8) :: ((110 : UInt8) :: ([] : List (UInt8)))))) :: ([] : List (List (UInt8)))))))))), ())) := by kernel_rfl
/-- loop.example/g00548/spec.l09Op -/
theorem q_spec_l09Op (R : Run EE) (L : Loops) (x0 : d26) : @Eq (Option ((List UInt8 × Unit))) (bodyK EE R L 111 [⟨t5, x0⟩]) (
  (c_spec_l09Words R ).bind fun r0 =>
  cond (Go.Rf.nonneg x0.1)
  (cond (Nat.blt (Int.toNat x0.1) (List.length r0.1))
    (cond (Go.Rf.lenOK ((List.length (List.getD r0.1 (Int.toNat x0.1) ([] : List (UInt8)))) + (List.length ((32 : UInt8) :: ([] : List (UInt8))))))
      ((c_spec_l00Digits R x0.2.1).bind fun r1 =>
        cond (Go.Rf.lenOK ((List.length ((List.getD r0.1 (Int.toNat x0.1) ([] : List (UInt8))) ++ ((32 : UInt8) :: ([] : List (UInt8))))) + (List.length r1.1)))
        (cond (!(Go.Rf.eqI x0.1 (1 : Int)))
          (cond (!(Go.Rf.eqI x0.1 (3 : Int)))
            ((c_spec_l00Digits R x0.2.2.1).bind fun r2 =>
              cond (Go.Rf.lenOK ((List.length ((32 : UInt8) :: ([] : List (UInt8)))) + (List.length r2.1)))
              (cond (Go.Rf.lenOK ((List.length (((List.getD r0.1 (Int.toNat x0.1) ([] : List (UInt8))) ++ ((32 : UInt8) :: ([] : List (UInt8)))) ++ r1.1)) + (List.length (((32 : UInt8) :: ([] : List (UInt8))) ++ r2.1))))
                (some (((((List.getD r0.1 (Int.toNat x0.1) ([] : List (UInt8))) ++ ((32 : UInt8) :: ([] : List (UInt8)))) ++ r1.1) ++ (((32 : UInt8) :: ([] : List (UInt8))) ++ r2.1)), ()))
                (none))
              (none))
            (some ((((List.getD r0.1 (Int.toNat x0.1) ([] : List (UInt8))) ++ ((32 : UInt8) :: ([] : List (UInt8)))) ++ r1.1), ())))
          (some ((((List.getD r0.1 (Int.toNat x0.1) ([] : List (UInt8))) ++ ((32 : UInt8) :: ([] : List (UInt8)))) ++ r1.1), ())))
        (none))
      (none))
    (none))
  (none)) := by kernel_rfl
/-- loop.example/g00548/spec.l00Join -/
theorem q_spec_l00Join (R : Run EE) (L : Loops) (x0 : List (List UInt8)) (x1 : List UInt8) : @Eq (Option ((List UInt8 × Unit))) (bodyK EE R L 88 [⟨(.sl .str), x0⟩, ⟨.str, x1⟩]) (
  lp_spec_l00Join_0 R L x0 x1 ([] : List (UInt8)) ([] : List (UInt8)) (0 : Int)) := by kernel_rfl
theorem q_spec_l00Join_0 (R : Run EE) (L : Loops) (v0 : List (List UInt8)) (v1 : List UInt8) (v4 : List UInt8) (v5 : List UInt8) (v6 : Int) : @Eq (Option ((List UInt8 × Unit))) (from_ EE R L 88 Go.Proofs.Tryz.f88 [1, 1, 0, 1, 0, 0] (mk 25 [(0, .dat ⟨(.sl .str), v0, .sh⟩), (1, .dat ⟨.str, v1, .sh⟩), (4, .dat ⟨.str, v4, .sh⟩), (5, .dat ⟨.str, v5, .sh⟩), (6, .dat ⟨(.int .i64), v6, .sh⟩)])) (
  cond (decide (v6 < (((List.length v0) : Nat) : Int)))
  (cond (decide ((0 : Int) < v6))
    (cond (Go.Rf.lenOK ((List.length v5) + (List.length v1)))
      (cond (Go.Rf.nonneg v6)
        (cond (Nat.blt (Int.toNat v6) (List.length v0))
          (cond (Go.Rf.lenOK ((List.length (v5 ++ v1)) + (List.length (List.getD v0 (Int.toNat v6) ([] : List (UInt8))))))
            (lp_spec_l00Join_0 R L v0 v1 v4 ((v5 ++ v1) ++ (List.getD v0 (Int.toNat v6) ([] : List (UInt8)))) (Go.IntKind.wrap .i64 (v6 + (1 : Int))))
            (none))
          (none))
        (none))
      (none))
    (cond (Go.Rf.nonneg v6)
      (cond (Nat.blt (Int.toNat v6) (List.length v0))
        (cond (Go.Rf.lenOK ((List.length v5) + (List.length (List.getD v0 (Int.toNat v6) ([] : List (UInt8))))))
          (lp_spec_l00Join_0 R L v0 v1 v4 (v5 ++ (List.getD v0 (Int.toNat v6) ([] : List (UInt8)))) (Go.IntKind.wrap .i64 (v6 + (1 : Int))))
          (none))
        (none))
      (none)))
  (some (v5, ()))) := by kernel_rfl
/-- loop.example/g00548/spec.l09Text -/
theorem q_spec_l09Text (R : Run EE) (L : Loops) (x0 : List ((List (d26) × Unit))) : @Eq (Option ((List UInt8 × Unit))) (bodyK EE R L 64 [⟨(.sl (.pair (.sl t5) .unit)), x0⟩]) (
  lp_spec_l09Text_0 R L x0 ([] : List (UInt8)) ([] : List (List (UInt8))) (0 : Int)) := by kernel_rfl
theorem q_spec_l09Text_0 (R : Run EE) (L : Loops) (v0 : List ((List (d26) × Unit))) (v2 : List UInt8) (v3 : List (List UInt8)) (v4 : Int) : @Eq (Option ((List UInt8 × Unit))) (from_ EE R L 64 Go.Proofs.Tryz.f64 [1, 1, 0, 1, 0, 0] (mk 44 [(0, .dat ⟨(.sl (.pair (.sl t5) .unit)), v0, .sh⟩), (2, .dat ⟨.str, v2, .sh⟩), (3, .dat ⟨(.sl .str), v3, (.own .sh)⟩), (4, .dat ⟨(.int .i64), v4, .sh⟩)])) (
  cond (decide (v4 < (((List.length v0) : Nat) : Int)))
  (lp_spec_l09Text_1 R L v0 v2 v3 v4 ([] : List (List (UInt8))) (0 : Int))
  ((c_spec_l00Join R v3 ((32 : UInt8) :: ((124 : UInt8) :: ((32 : UInt8) :: ([] : List (UInt8)))))).bind fun r0 =>
    some (r0.1, ()))) := by kernel_rfl
theorem q_spec_l09Text_1 (R : Run EE) (L : Loops) (v0 : List ((List (d26) × Unit))) (v2 : List UInt8) (v3 : List (List UInt8)) (v4 : Int) (v5 : List (List UInt8)) (v6 : Int) : @Eq (Option ((List UInt8 × Unit))) (from_ EE R L 64 Go.Proofs.Tryz.f64 [1, 1, 0, 1, 0, 0, 1, 0, 0, 1, 0, 1, 0, 0] (mk 44 [(0, .dat ⟨(.sl (.pair (.sl t5) .unit)), v0, .sh⟩), (2, .dat ⟨.str, v2, .sh⟩), (3, .dat ⟨(.sl .str), v3, (.own .sh)⟩), (4, .dat ⟨(.int .i64), v4, .sh⟩), (5, .dat ⟨(.sl .str), v5, (.own .sh)⟩), (6, .dat ⟨(.int .i64), v6, .sh⟩)])) (
  cond (Go.Rf.nonneg v4)
  (cond (Nat.blt (Int.toNat v4) (List.length v0))
    (cond (decide (v6 < (((List.length (List.getD v0 (Int.toNat v4) (([] : List (d26)), ())).1) : Nat) : Int)))
      (cond (Go.Rf.nonneg v4)
        (cond (Nat.blt (Int.toNat v4) (List.length v0))
          (cond (Go.Rf.nonneg v6)
            (cond (Nat.blt (Int.toNat v6) (List.length (List.getD v0 (Int.toNat v4) (([] : List (d26)), ())).1))
              ((c_spec_l09Op R (List.getD (List.getD v0 (Int.toNat v4) (([] : List (d26)), ())).1 (Int.toNat v6) ((0 : Int), ((0 : Int), ((0 : Int), ()))))).bind fun r0 =>
                cond (Go.Rf.lenOK ((List.length v5) + (List.length (r0.1 :: ([] : List (List (UInt8)))))))
                (lp_spec_l09Text_1 R L v0 v2 v3 v4 (v5 ++ (r0.1 :: ([] : List (List (UInt8))))) (Go.IntKind.wrap .i64 (v6 + (1 : Int))))
                (none))
              (none))
            (none))
          (none))
        (none))
      ((c_spec_l00Join R v5 ((59 : UInt8) :: ((32 : UInt8) :: ([] : List (UInt8))))).bind fun r0 =>
        cond (Go.Rf.lenOK ((List.length v3) + (List.length (r0.1 :: ([] : List (List (UInt8)))))))
        (lp_spec_l09Text_2 R L v0 v2 (v3 ++ (r0.1 :: ([] : List (List (UInt8))))) (Go.IntKind.wrap .i64 (v4 + (1 : Int))) v5 v6)
        (none)))
    (none))
  (none)) := by kernel_rfl
theorem q_spec_l09Text_2 (R : Run EE) (L : Loops) (v0 : List ((List (d26) × Unit))) (v2 : List UInt8) (v3 : List (List UInt8)) (v4 : Int) (v5 : List (List UInt8)) (v6 : Int) : @Eq (Option ((List UInt8 × Unit))) (from_ EE R L 64 Go.Proofs.Tryz.f64 [1, 1, 0, 1, 0, 0] (mk 44 [(0, .dat ⟨(.sl (.pair (.sl t5) .unit)), v0, .sh⟩), (2, .dat ⟨.str, v2, .sh⟩), (3, .dat ⟨(.sl .str), v3, (.own .sh)⟩), (4, .dat ⟨(.int .i64), v4, .sh⟩), (5, .dat ⟨(.sl .str), v5, (.own .sh)⟩), (6, .dat ⟨(.int .i64), v6, .sh⟩)])) (
  cond (decide (v4 < (((List.length v0) : Nat) : Int)))
  (lp_spec_l09Text_1 R L v0 v2 v3 v4 ([] : List (List (UInt8))) (0 : Int))
  ((c_spec_l00Join R v3 ((32 : UInt8) :: ((124 : UInt8) :: ((32 : UInt8) :: ([] : List (UInt8)))))).bind fun r0 =>
    some (r0.1, ()))) := by kernel_rfl
/-- loop.example/g00548/spec.l01Bit -/
theorem q_spec_l01Bit (R : Run EE) (L : Loops) (x0 : Bool) : @Eq (Option ((Int × Unit))) (bodyK EE R L 65 [⟨.bool, x0⟩]) (
  cond x0
  (some ((1 : Int), ()))
  (some ((0 : Int), ()))) := by kernel_rfl
/-- loop.example/g00548/spec.l15World -/
theorem q_spec_l15World (R : Run EE) (L : Loops) (x0 : d28) : @Eq (Option (d29)) (bodyK EE R L 25 [⟨t7, x0⟩]) (
  lp_spec_l15World_0 R L x0 x0 ([] : List (List (UInt8))) ([] : List (List (UInt8))) (0 : Int)) := by kernel_rfl
theorem q_spec_l15World_0 (R : Run EE) (L : Loops) (v0 : d28) (v1 : d28) (v2 : List (List UInt8)) (v3 : List (List UInt8)) (v4 : Int) : @Eq (Option (d29)) (from_ EE R L 25 Go.Proofs.Tryz.f25 [1, 1, 0, 1, 0, 0] (mk 61 [(0, .dat ⟨t7, v0, .sh⟩), (1, .dat ⟨(.ptr t7), v1, (.own .sh)⟩), (2, .dat ⟨(.sl .str), v2, (.own .sh)⟩), (3, .dat ⟨(.sl .str), v3, (.own .sh)⟩), (4, .dat ⟨(.int .i64), v4, .sh⟩)])) (
  cond (decide (v4 < (((List.length v1.2.2.1) : Nat) : Int)))
  (cond (Go.Rf.nonneg v4)
    (cond (Nat.blt (Int.toNat v4) (List.length v1.2.2.1))
      ((c_spec_l00Digits R (List.getD v1.2.2.1 (Int.toNat v4) ((0 : Int), ((0 : Int), ()))).1).bind fun r0 =>
        cond (Go.Rf.lenOK ((List.length ((107 : UInt8) :: ((101 : UInt8) :: ((121 : UInt8) :: ((32 : UInt8) :: ([] : List (UInt8))))))) + (List.length r0.1)))
        (cond (Go.Rf.lenOK ((List.length (((107 : UInt8) :: ((101 : UInt8) :: ((121 : UInt8) :: ((32 : UInt8) :: ([] : List (UInt8)))))) ++ r0.1)) + (List.length ((32 : UInt8) :: ((118 : UInt8) :: ((97 : UInt8) :: ((108 : UInt8) :: ((117 : UInt8) :: ((101 : UInt8) :: ((32 : UInt8) :: ([] : List (UInt8))))))))))))
          (cond (Go.Rf.nonneg v4)
            (cond (Nat.blt (Int.toNat v4) (List.length v1.2.2.1))
              ((c_spec_l00Digits R (List.getD v1.2.2.1 (Int.toNat v4) ((0 : Int), ((0 : Int), ()))).2.1).bind fun r1 =>
                cond (Go.Rf.lenOK ((List.length ((((107 : UInt8) :: ((101 : UInt8) :: ((121 : UInt8) :: ((32 : UInt8) :: ([] : List (UInt8)))))) ++ r0.1) ++ ((32 : UInt8) :: ((118 : UInt8) :: ((97 : UInt8) :: ((108 : UInt8) :: ((117 : UInt8) :: ((101 : UInt8) :: ((32 : UInt8) :: ([] : List (UInt8))))))))))) + (List.length r1.1)))
                (cond (Go.Rf.lenOK ((List.length v3) + (List.length ((((((107 : UInt8) :: ((101 : UInt8) :: ((121 : UInt8) :: ((32 : UInt8) :: ([] : List (UInt8)))))) ++ r0.1) ++ ((32 : UInt8) :: ((118 : UInt8) :: ((97 : UInt8) :: ((108 : UInt8) :: ((117 : UInt8) :: ((101 : UInt8) :: ((32 : UInt8) :: ([] : List (UInt8)))))))))) ++ r1.1) :: ([] : List (List (UInt8)))))))
                  (lp_spec_l15World_0 R L v0 v1 v2 (v3 ++ ((((((107 : UInt8) :: ((101 : UInt8) :: ((121 : UInt8) :: ((32 : UInt8) :: ([] : List (UInt8)))))) ++ r0.1) ++ ((32 : UInt8) :: ((118 : UInt8) :: ((97 : UInt8) :: ((108 : UInt8) :: ((117 : UInt8) :: ((101 : UInt8) :: ((32 : UInt8) :: ([] : List (UInt8)))))))))) ++ r1.1) :: ([] : List (List (UInt8))))) (Go.IntKind.wrap .i64 (v4 + (1 : Int))))
                  (none))
                (none))
              (none))
            (none))
          (none))
        (none))
      (none))
    (none))
  (lp_spec_l15World_1 R L v0 v1 v2 v3 v4 (0 : Int))) := by kernel_rfl
theorem q_spec_l15World_1 (R : Run EE) (L : Loops) (v0 : d28) (v1 : d28) (v2 : List (List UInt8)) (v3 : List (List UInt8)) (v4 : Int) (v5 : Int) : @Eq (Option (d29)) (from_ EE R L 25 Go.Proofs.Tryz.f25 [1, 1, 1, 0, 1, 0, 0] (mk 61 [(0, .dat ⟨t7, v0, .sh⟩), (1, .dat ⟨(.ptr t7), v1, (.own .sh)⟩), (2, .dat ⟨(.sl .str), v2, (.own .sh)⟩), (3, .dat ⟨(.sl .str), v3, (.own .sh)⟩), (4, .dat ⟨(.int .i64), v4, .sh⟩), (5, .dat ⟨(.int .i64), v5, .sh⟩)])) (
  cond (decide (v5 < (((List.length v1.2.2.2.1) : Nat) : Int)))
  (cond (Go.Rf.nonneg v5)
    (cond (Nat.blt (Int.toNat v5) (List.length v1.2.2.2.1))
      ((c_spec_l09Text R (List.getD v1.2.2.2.1 (Int.toNat v5) ([] : List ((List (d26) × Unit))))).bind fun r0 =>
        cond (Go.Rf.lenOK ((List.length ((119 : UInt8) :: ((97 : UInt8) :: ((105 : UInt8) :: ((116 : UInt8) :: ((115 : UInt8) :: ((32 : UInt8) :: ([] : List (UInt8))))))))) + (List.length r0.1)))
        (cond (Go.Rf.lenOK ((List.length v3) + (List.length ((((119 : UInt8) :: ((97 : UInt8) :: ((105 : UInt8) :: ((116 : UInt8) :: ((115 : UInt8) :: ((32 : UInt8) :: ([] : List (UInt8)))))))) ++ r0.1) :: ([] : List (List (UInt8)))))))
          (lp_spec_l15World_1 R L v0 v1 v2 (v3 ++ ((((119 : UInt8) :: ((97 : UInt8) :: ((105 : UInt8) :: ((116 : UInt8) :: ((115 : UInt8) :: ((32 : UInt8) :: ([] : List (UInt8)))))))) ++ r0.1) :: ([] : List (List (UInt8))))) v4 (Go.IntKind.wrap .i64 (v5 + (1 : Int))))
          (none))
        (none))
      (none))
    (none))
  ((c_spec_l01Bit R v1.2.2.2.2.2.1).bind fun r0 =>
    cond (Go.Rf.nonneg r0.1)
    (cond (Nat.blt (Int.toNat r0.1) (List.length (((110 : UInt8) :: ((111 : UInt8) :: ([] : List (UInt8)))) :: (((121 : UInt8) :: ((101 : UInt8) :: ((115 : UInt8) :: ([] : List (UInt8))))) :: ([] : List (List (UInt8)))))))
      (cond (Go.Rf.lenOK ((List.length ((97 : UInt8) :: ((103 : UInt8) :: ((114 : UInt8) :: ((101 : UInt8) :: ((101 : UInt8) :: ((32 : UInt8) :: ([] : List (UInt8))))))))) + (List.length (List.getD (((110 : UInt8) :: ((111 : UInt8) :: ([] : List (UInt8)))) :: (((121 : UInt8) :: ((101 : UInt8) :: ((115 : UInt8) :: ([] : List (UInt8))))) :: ([] : List (List (UInt8))))) (Int.toNat r0.1) ([] : List (UInt8))))))
        (cond (Go.Rf.lenOK ((List.length v3) + (List.length ((((97 : UInt8) :: ((103 : UInt8) :: ((114 : UInt8) :: ((101 : UInt8) :: ((101 : UInt8) :: ((32 : UInt8) :: ([] : List (UInt8)))))))) ++ (List.getD (((110 : UInt8) :: ((111 : UInt8) :: ([] : List (UInt8)))) :: (((121 : UInt8) :: ((101 : UInt8) :: ((115 : UInt8) :: ([] : List (UInt8))))) :: ([] : List (List (UInt8))))) (Int.toNat r0.1) ([] : List (UInt8)))) :: ([] : List (List (UInt8)))))))
          (some ((v3 ++ ((((97 : UInt8) :: ((103 : UInt8) :: ((114 : UInt8) :: ((101 : UInt8) :: ((101 : UInt8) :: ((32 : UInt8) :: ([] : List (UInt8)))))))) ++ (List.getD (((110 : UInt8) :: ((111 : UInt8) :: ([] : List (UInt8)))) :: (((121 : UInt8) :: ((101 : UInt8) :: ((115 : UInt8) :: ([] : List (UInt8))))) :: ([] : List (List (UInt8))))) (Int.toNat r0.1) ([] : List (UInt8)))) :: ([] : List (List (UInt8))))), ()))
          (none))
        (none))
      (none))
    (none))) := by kernel_rfl
/-- loop.example/g00548/spec.WorldLines -/
theorem q_spec_WorldLines (R : Run EE) (L : Loops) (x0 : d28) : @Eq (Option (d35)) (bodyK EE R L 6 [⟨t7, x0⟩]) (
  (c_spec_WorldOK R x0).bind fun r0 =>
  cond (!r0.1)
  (some (([] : List (List (UInt8))), ((1 : Int), ())))
  ((c_spec_l15World R x0).bind fun r1 =>
    some (r1.1, ((0 : Int), ())))) := by kernel_rfl
/-- loop.example/g00548/impl.within -/
theorem q_impl_within (R : Run EE) (L : Loops) (x0 : Int) (x1 : Int) (x2 : Int) : @Eq (Option ((Bool × Unit))) (bodyK EE R L 121 [⟨(.int .i64), x0⟩, ⟨(.int .i64), x1⟩, ⟨(.int .i64), x2⟩]) (
  cond (decide (x1 ≤ x0))
  (some ((decide (x0 ≤ x2)), ()))
  (some (false, ()))) := by kernel_rfl
/-- loop.example/g00548/impl.isDigest -/
theorem q_impl_isDigest (R : Run EE) (L : Loops) (x0 : List UInt8) : @Eq (Option ((Bool × Unit))) (bodyK EE R L 155 [⟨.str, x0⟩]) (
  some ((Go.Rf.eqI (((List.length x0) : Nat) : Int) (32 : Int)), ())) := by kernel_rfl
/-- (loop.example/g00548/impl.Register).waiting -/
theorem q_impl_Register_waiting (R : Run EE) (L : Loops) (x0 : d22) : @Eq (Option ((Int × Unit))) (bodyK EE R L 75 [⟨t0, x0⟩]) (
  some ((Go.IntKind.wrap .i64 (x0.2.2.1 - x0.1)), ())) := by kernel_rfl
/-- loop.example/g00548/impl.RegisterOK -/
theorem q_impl_RegisterOK (R : Run EE) (L : Loops) (x0 : d22) : @Eq (Option ((Bool × Unit))) (bodyK EE R L 115 [⟨t0, x0⟩]) (
  (c_impl_within R x0.1 (0 : Int) (1000000 : Int)).bind fun r0 =>
  cond r0.1
  ((c_impl_within R x0.2.1 (0 : Int) (1 : Int)).bind fun r1 =>
    cond r1.1
    ((c_impl_within R x0.2.2.1 x0.1 (Go.Rf.minI (Go.IntKind.wrap .i64 (x0.1 + (4 : Int))) (1000000 : Int))).bind fun r2 =>
      cond r2.1
      ((c_impl_within R x0.2.2.2.1 (0 : Int) (1000000 : Int)).bind fun r3 =>
        cond r3.1
        ((c_impl_isDigest R x0.2.2.2.2.1).bind fun r4 =>
          cond r4.1
          ((c_impl_isDigest R x0.2.2.2.2.2.1).bind fun r5 =>
            cond r5.1
            ((c_impl_isDigest R x0.2.2.2.2.2.2.1).bind fun r6 =>
              cond r6.1
              ((c_impl_Register_waiting R x0).bind fun r7 =>
                cond (decide ((0 : Int) < r7.1))
                (some (true, ()))
                (some ((Go.Rf.eqS x0.2.2.2.2.1 x0.2.2.2.2.2.1), ())))
              (some (false, ())))
            (some (false, ())))
          (some (false, ())))
        (some (false, ())))
      (some (false, ())))
    (some (false, ())))
  (some (false, ()))) := by kernel_rfl
/-- loop.example/g00548/impl.areAll[string]$1 -/
theorem q_impl_areAll_string__1 (R : Run EE) (L : Loops) (x0 : List UInt8) (x1 : FnVal) : @Eq (Option ((Bool × Unit))) (bodyK EE R L 136 [⟨.str, x0⟩, ⟨(.ptr .fn), x1⟩]) (
  (callVB EE R x1 [⟨.str, (x0 : List UInt8)⟩]).bind fun (r0 : Bool) =>
  some ((!r0), ())) := by kernel_rfl
/-- slices.IndexFunc[[]string,string] -/
theorem q_slices_IndexFunc___string_string_ (R : Run EE) (L : Loops) (x0 : List (List UInt8)) (x1 : FnVal) : @Eq (Option ((Int × Unit))) (bodyK EE R L 175 [⟨(.sl .str), x0⟩, ⟨.fn, x1⟩]) (
  lp_slices_IndexFunc___string_string__0 R L x0 x1 (0 : Int) (((List.length x0) : Nat) : Int) (0 : Int)) := by kernel_rfl
theorem q_slices_IndexFunc___string_string__0 (R : Run EE) (L : Loops) (v0 : List (List UInt8)) (v1 : FnVal) (v4 : Int) (v7 : Int) (v8 : Int) : @Eq (Option ((Int × Unit))) (from_ EE R L 175 Go.Proofs.Tryz.f175 [1, 0, 1, 0, 0] (mk 19 [(0, .dat ⟨(.sl .str), v0, .sh⟩), (1, .dat ⟨.fn, v1, .sh⟩), (4, .dat ⟨(.int .i64), v4, .sh⟩), (7, .dat ⟨(.int .i64), v7, .sh⟩), (8, .dat ⟨(.int .i64), v8, .sh⟩)])) (
  cond (decide (v8 < v7))
  (cond (Go.Rf.nonneg v8)
    (cond (Nat.blt (Int.toNat v8) (List.length v0))
      ((callVB EE R v1 [⟨.str, ((List.getD v0 (Int.toNat v8) ([] : List (UInt8))) : List UInt8)⟩]).bind fun (r0 : Bool) =>
        cond r0
        (some (v8, ()))
        (lp_slices_IndexFunc___string_string__1 R L v0 v1 v4 v8 v7 (Go.IntKind.wrap .i64 (v8 + (1 : Int)))))
      (none))
    (none))
  (some ((-(1 : Int)), ()))) := by kernel_rfl
theorem q_slices_IndexFunc___string_string__1 (R : Run EE) (L : Loops) (v0 : List (List UInt8)) (v1 : FnVal) (v4 : Int) (v5 : Int) (v7 : Int) (v8 : Int) : @Eq (Option ((Int × Unit))) (from_ EE R L 175 Go.Proofs.Tryz.f175 [1, 0, 1, 0, 0] (mk 19 [(0, .dat ⟨(.sl .str), v0, .sh⟩), (1, .dat ⟨.fn, v1, .sh⟩), (4, .dat ⟨(.int .i64), v4, .sh⟩), (5, .dat ⟨(.int .i64), v5, .sh⟩), (7, .dat ⟨(.int .i64), v7, .sh⟩), (8, .dat ⟨(.int .i64), v8, .sh⟩)])) (
  cond (decide (v8 < v7))
  (cond (Go.Rf.nonneg v8)
    (cond (Nat.blt (Int.toNat v8) (List.length v0))
      ((callVB EE R v1 [⟨.str, ((List.getD v0 (Int.toNat v8) ([] : List (UInt8))) : List UInt8)⟩]).bind fun (r0 : Bool) =>
        cond r0
        (some (v8, ()))
        (lp_slices_IndexFunc___string_string__1 R L v0 v1 v4 v8 v7 (Go.IntKind.wrap .i64 (v8 + (1 : Int)))))
      (none))
    (none))
  (some ((-(1 : Int)), ()))) := by kernel_rfl
/-- slices.ContainsFunc[[]string,string] -/
theorem q_slices_ContainsFunc___string_string_ (R : Run EE) (L : Loops) (x0 : List (List UInt8)) (x1 : FnVal) : @Eq (Option ((Bool × Unit))) (bodyK EE R L 135 [⟨(.sl .str), x0⟩, ⟨.fn, x1⟩]) (
  (c_slices_IndexFunc___string_string_ R x0 x1).bind fun r0 =>
  some ((decide ((0 : Int) ≤ r0.1)), ())) := by kernel_rfl
/-- loop.example/g00548/impl.areAll[string] -/
theorem q_impl_areAll_string_ (R : Run EE) (L : Loops) (x0 : List (List UInt8)) (x1 : FnVal) : @Eq (Option ((Bool × Unit))) (bodyK EE R L 92 [⟨(.sl .str), x0⟩, ⟨.fn, x1⟩]) (
  (c_slices_ContainsFunc___string_string_ R x0 (Go.Rf.FnVal.mk (136 : Nat) (Go.Rf.FCaps.fn x1 (Go.Rf.FCaps.nil)))).bind fun r0 =>
  some ((!r0.1), ())) := by kernel_rfl
/-- loop.example/g00548/impl.isContent -/
theorem q_impl_isContent (R : Run EE) (L : Loops) (x0 : List UInt8) : @Eq (Option ((Bool × Unit))) (bodyK EE R L 156 [⟨.str, x0⟩]) (
  some ((decide ((((List.length x0) : Nat) : Int) ≤ (700 : Int))), ())) := by kernel_rfl
/-- loop.example/g00548/impl.areAll[loop.example/g00548/impl.Io]$1 -/
theorem q_impl_areAll_impl_Io__1 (R : Run EE) (L : Loops) (x0 : d23) (x1 : FnVal) : @Eq (Option ((Bool × Unit))) (bodyK EE R L 185 [⟨t1, x0⟩, ⟨(.ptr .fn), x1⟩]) (
  (callVB EE R x1 [⟨t1, (x0 : d23)⟩]).bind fun (r0 : Bool) =>
  some ((!r0), ())) := by kernel_rfl
/-- slices.IndexFunc[[]loop.example/g00548/impl.Io,loop.example/g00548/impl.Io] -/
theorem q_slices_IndexFunc___impl_Io_impl_Io_ (R : Run EE) (L : Loops) (x0 : List (d23)) (x1 : FnVal) : @Eq (Option ((Int × Unit))) (bodyK EE R L 207 [⟨(.sl t1), x0⟩, ⟨.fn, x1⟩]) (
  lp_slices_IndexFunc___impl_Io_impl_Io__0 R L x0 x1 (0 : Int) (((List.length x0) : Nat) : Int) (0 : Int)) := by kernel_rfl
theorem q_slices_IndexFunc___impl_Io_impl_Io__0 (R : Run EE) (L : Loops) (v0 : List (d23)) (v1 : FnVal) (v4 : Int) (v7 : Int) (v8 : Int) : @Eq (Option ((Int × Unit))) (from_ EE R L 207 Go.Proofs.Tryz.f207 [1, 0, 1, 0, 0] (mk 19 [(0, .dat ⟨(.sl t1), v0, .sh⟩), (1, .dat ⟨.fn, v1, .sh⟩), (4, .dat ⟨(.int .i64), v4, .sh⟩), (7, .dat ⟨(.int .i64), v7, .sh⟩), (8, .dat ⟨(.int .i64), v8, .sh⟩)])) (
  cond (decide (v8 < v7))
  (cond (Go.Rf.nonneg v8)
    (cond (Nat.blt (Int.toNat v8) (List.length v0))
      ((callVB EE R v1 [⟨t1, ((List.getD v0 (Int.toNat v8) ((0 : Int), (([] : List (UInt8)), ()))) : d23)⟩]).bind fun (r0 : Bool) =>
        cond r0
        (some (v8, ()))
        (lp_slices_IndexFunc___impl_Io_impl_Io__1 R L v0 v1 v4 v8 v7 (Go.IntKind.wrap .i64 (v8 + (1 : Int)))))
      (none))
    (none))
  (some ((-(1 : Int)), ()))) := by kernel_rfl
theorem q_slices_IndexFunc___impl_Io_impl_Io__1 (R : Run EE) (L : Loops) (v0 : List (d23)) (v1 : FnVal) (v4 : Int) (v5 : Int) (v7 : Int) (v8 : Int) : @Eq (Option ((Int × Unit))) (from_ EE R L 207 Go.Proofs.Tryz.f207 [1, 0, 1, 0, 0] (mk 19 [(0, .dat ⟨(.sl t1), v0, .sh⟩), (1, .dat ⟨.fn, v1, .sh⟩), (4, .dat ⟨(.int .i64), v4, .sh⟩), (5, .dat ⟨(.int .i64), v5, .sh⟩), (7, .dat ⟨(.int .i64), v7, .sh⟩), (8, .dat ⟨(.int .i64), v8, .sh⟩)])) (
  cond (decide (v8 < v7))
  (cond (Go.Rf.nonneg v8)
    (cond (Nat.blt (Int.toNat v8) (List.length v0))
      ((callVB EE R v1 [⟨t1, ((List.getD v0 (Int.toNat v8) ((0 : Int), (([] : List (UInt8)), ()))) : d23)⟩]).bind fun (r0 : Bool) =>
        cond r0
        (some (v8, ()))
        (lp_slices_IndexFunc___impl_Io_impl_Io__1 R L v0 v1 v4 v8 v7 (Go.IntKind.wrap .i64 (v8 + (1 : Int)))))
      (none))
    (none))
  (some ((-(1 : Int)), ()))) := by kernel_rfl
/-- slices.ContainsFunc[[]loop.example/g00548/impl.Io,loop.example/g00548/impl.Io] -/
theorem q_slices_ContainsFunc___impl_Io_impl_Io_ (R : Run EE) (L : Loops) (x0 : List (d23)) (x1 : FnVal) : @Eq (Option ((Bool × Unit))) (bodyK EE R L 184 [⟨(.sl t1), x0⟩, ⟨.fn, x1⟩]) (
  (c_slices_IndexFunc___impl_Io_impl_Io_ R x0 x1).bind fun r0 =>
  some ((decide ((0 : Int) ≤ r0.1)), ())) := by kernel_rfl
/-- loop.example/g00548/impl.areAll[loop.example/g00548/impl.Io] -/
theorem q_impl_areAll_impl_Io_ (R : Run EE) (L : Loops) (x0 : List (d23)) (x1 : FnVal) : @Eq (Option ((Bool × Unit))) (bodyK EE R L 157 [⟨(.sl t1), x0⟩, ⟨.fn, x1⟩]) (
  (c_slices_ContainsFunc___impl_Io_impl_Io_ R x0 (Go.Rf.FnVal.mk (185 : Nat) (Go.Rf.FCaps.fn x1 (Go.Rf.FCaps.nil)))).bind fun r0 =>
  some ((!r0.1), ())) := by kernel_rfl
/-- loop.example/g00548/impl.isSector -/
theorem q_impl_isSector (R : Run EE) (L : Loops) (x0 : Int) : @Eq (Option ((Bool × Unit))) (bodyK EE R L 149 [⟨(.int .i64), x0⟩]) (
  (c_impl_within R x0 (0 : Int) (39 : Int)).bind fun r0 =>
  some (r0.1, ())) := by kernel_rfl
/-- loop.example/g00548/impl.DeviceOK$1 -/
theorem q_impl_DeviceOK_1 (R : Run EE) (L : Loops) (x0 : d23) : @Eq (Option ((Bool × Unit))) (bodyK EE R L 158 [⟨t1, x0⟩]) (
  (c_impl_isSector R x0.1).bind fun r0 =>
  cond r0.1
  ((c_impl_isContent R x0.2.1).bind fun r1 =>
    some (r1.1, ()))
  (some (false, ()))) := by kernel_rfl
/-- loop.example/g00548/impl.DeviceOK -/
theorem q_impl_DeviceOK (R : Run EE) (L : Loops) (x0 : d24) : @Eq (Option ((Bool × Unit))) (bodyK EE R L 116 [⟨t2, x0⟩]) (
  cond (Go.Rf.eqI (((List.length x0.1) : Nat) : Int) (40 : Int))
  ((c_impl_areAll_string_ R x0.1 (Go.Rf.FnVal.mk (156 : Nat) (Go.Rf.FCaps.nil))).bind fun r0 =>
    cond r0.1
    (cond (decide ((((List.length x0.2.1) : Nat) : Int) ≤ (60 : Int)))
      ((c_impl_areAll_impl_Io_ R x0.2.1 (Go.Rf.FnVal.mk (158 : Nat) (Go.Rf.FCaps.nil))).bind fun r1 =>
        some (r1.1, ()))
      (some (false, ())))
    (some (false, ())))
  (some (false, ()))) := by kernel_rfl
/-- loop.example/g00548/impl.isSure -/
theorem q_impl_isSure (R : Run EE) (L : Loops) (x0 : d24) : @Eq (Option ((Bool × Unit))) (bodyK EE R L 73 [⟨t2, x0⟩]) (
  (c_impl_DeviceOK R x0).bind fun r0 =>
  cond r0.1
  (some ((Go.Rf.eqI (((List.length x0.2.1) : Nat) : Int) (0 : Int)), ()))
  (some (false, ()))) := by kernel_rfl
/-- loop.example/g00548/impl.StoreOK -/
theorem q_impl_StoreOK (R : Run EE) (L : Loops) (x0 : d25) : @Eq (Option ((Bool × Unit))) (bodyK EE R L 72 [⟨t3, x0⟩]) (
  cond (Go.Rf.eqI (((List.length x0.1) : Nat) : Int) (32 : Int))
  ((c_impl_RegisterOK R x0.2.1).bind fun r0 =>
    cond r0.1
    ((c_impl_isSure R x0.2.2.1).bind fun r1 =>
      cond r1.1
      (cond x0.2.2.2.1
        (some ((!x0.2.2.2.2.1), ()))
        (some ((!false), ())))
      (some (false, ())))
    (some (false, ())))
  (some (false, ()))) := by kernel_rfl
/-- loop.example/g00548/impl.isKey -/
theorem q_impl_isKey (R : Run EE) (L : Loops) (x0 : Int) : @Eq (Option ((Bool × Unit))) (bodyK EE R L 117 [⟨(.int .i64), x0⟩]) (
  (c_impl_within R x0 (1 : Int) (9999 : Int)).bind fun r0 =>
  some (r0.1, ())) := by kernel_rfl
/-- loop.example/g00548/impl.isValue -/
theorem q_impl_isValue (R : Run EE) (L : Loops) (x0 : Int) : @Eq (Option ((Bool × Unit))) (bodyK EE R L 118 [⟨(.int .i64), x0⟩]) (
  (c_impl_within R x0 (0 : Int) (999999 : Int)).bind fun r0 =>
  some (r0.1, ())) := by kernel_rfl
/-- loop.example/g00548/impl.MapOK -/
theorem q_impl_MapOK (R : Run EE) (L : Loops) (x0 : List ((Int × (Int × Unit)))) : @Eq (Option ((Bool × Unit))) (bodyK EE R L 74 [⟨(.sl t4), x0⟩]) (
  lp_impl_MapOK_0 R L x0 false x0 (((List.length x0) : Nat) : Int) (0 : Int)) := by kernel_rfl
theorem q_impl_MapOK_0 (R : Run EE) (L : Loops) (v0 : List ((Int × (Int × Unit)))) (v2 : Bool) (v5 : List ((Int × (Int × Unit)))) (v6 : Int) (v7 : Int) : @Eq (Option ((Bool × Unit))) (from_ EE R L 74 Go.Proofs.Tryz.f74 [1, 0, 1, 0, 0] (mk 41 [(0, .dat ⟨(.sl t4), v0, .sh⟩), (2, .dat ⟨.bool, v2, .sh⟩), (5, .dat ⟨(.sl t4), v5, .sh⟩), (6, .dat ⟨(.int .i64), v6, .sh⟩), (7, .dat ⟨(.int .i64), v7, .sh⟩)])) (
  cond (decide (v7 < v6))
  (cond (Go.Rf.nonneg v7)
    (cond (Nat.blt (Int.toNat v7) (List.length v5))
      ((c_impl_isKey R (List.getD v5 (Int.toNat v7) ((0 : Int), ((0 : Int), ()))).1).bind fun r0 =>
        cond (!r0.1)
        (some (false, ()))
        ((c_impl_isValue R (List.getD v5 (Int.toNat v7) ((0 : Int), ((0 : Int), ()))).2.1).bind fun r1 =>
          cond (!r1.1)
          (some (false, ()))
          (cond (decide ((0 : Int) < v7))
            (cond (Go.Rf.nonneg (Go.IntKind.wrap .i64 (v7 - (1 : Int))))
              (cond (Nat.blt (Int.toNat (Go.IntKind.wrap .i64 (v7 - (1 : Int)))) (List.length v0))
                (cond (decide ((List.getD v5 (Int.toNat v7) ((0 : Int), ((0 : Int), ()))).1 ≤ (List.getD v0 (Int.toNat (Go.IntKind.wrap .i64 (v7 - (1 : Int)))) ((0 : Int), ((0 : Int), ()))).1))
                  (some (false, ()))
                  (lp_impl_MapOK_1 R L v0 v2 v7 (List.getD v5 (Int.toNat v7) ((0 : Int), ((0 : Int), ()))) v5 v6 (Go.IntKind.wrap .i64 (v7 + (1 : Int)))))
                (none))
              (none))
            (lp_impl_MapOK_1 R L v0 v2 v7 (List.getD v5 (Int.toNat v7) ((0 : Int), ((0 : Int), ()))) v5 v6 (Go.IntKind.wrap .i64 (v7 + (1 : Int)))))))
      (none))
    (none))
  (some ((decide ((((List.length v0) : Nat) : Int) ≤ (11 : Int))), ()))) := by kernel_rfl
theorem q_impl_MapOK_1 (R : Run EE) (L : Loops) (v0 : List ((Int × (Int × Unit)))) (v2 : Bool) (v3 : Int) (v4 : (Int × (Int × Unit))) (v5 : List ((Int × (Int × Unit)))) (v6 : Int) (v7 : Int) : @Eq (Option ((Bool × Unit))) (from_ EE R L 74 Go.Proofs.Tryz.f74 [1, 0, 1, 0, 0] (mk 41 [(0, .dat ⟨(.sl t4), v0, .sh⟩), (2, .dat ⟨.bool, v2, .sh⟩), (3, .dat ⟨(.int .i64), v3, .sh⟩), (4, .dat ⟨(.ptr t4), v4, (.own .sh)⟩), (5, .dat ⟨(.sl t4), v5, .sh⟩), (6, .dat ⟨(.int .i64), v6, .sh⟩), (7, .dat ⟨(.int .i64), v7, .sh⟩)])) (
  cond (decide (v7 < v6))
  (cond (Go.Rf.nonneg v7)
    (cond (Nat.blt (Int.toNat v7) (List.length v5))
      ((c_impl_isKey R (List.getD v5 (Int.toNat v7) ((0 : Int), ((0 : Int), ()))).1).bind fun r0 =>
        cond (!r0.1)
        (some (false, ()))
        ((c_impl_isValue R (List.getD v5 (Int.toNat v7) ((0 : Int), ((0 : Int), ()))).2.1).bind fun r1 =>
          cond (!r1.1)
          (some (false, ()))
          (cond (decide ((0 : Int) < v7))
            (cond (Go.Rf.nonneg (Go.IntKind.wrap .i64 (v7 - (1 : Int))))
              (cond (Nat.blt (Int.toNat (Go.IntKind.wrap .i64 (v7 - (1 : Int)))) (List.length v0))
                (cond (decide ((List.getD v5 (Int.toNat v7) ((0 : Int), ((0 : Int), ()))).1 ≤ (List.getD v0 (Int.toNat (Go.IntKind.wrap .i64 (v7 - (1 : Int)))) ((0 : Int), ((0 : Int), ()))).1))
                  (some (false, ()))
                  (lp_impl_MapOK_1 R L v0 v2 v7 (List.getD v5 (Int.toNat v7) ((0 : Int), ((0 : Int), ()))) v5 v6 (Go.IntKind.wrap .i64 (v7 + (1 : Int)))))
                (none))
              (none))
            (lp_impl_MapOK_1 R L v0 v2 v7 (List.getD v5 (Int.toNat v7) ((0 : Int), ((0 : Int), ()))) v5 v6 (Go.IntKind.wrap .i64 (v7 + (1 : Int)))))))
      (none))
    (none))
  (some ((decide ((((List.length v0) : Nat) : Int) ≤ (11 : Int))), ()))) := by kernel_rfl
/-- loop.example/g00548/impl.areAll[[]loop.example/g00548/impl.Txn]$1 -/
theorem q_impl_areAll___impl_Txn__1 (R : Run EE) (L : Loops) (x0 : List ((List (d26) × Unit))) (x1 : FnVal) : @Eq (Option ((Bool × Unit))) (bodyK EE R L 120 [⟨(.sl (.pair (.sl t5) .unit)), x0⟩, ⟨(.ptr .fn), x1⟩]) (
  (callVB EE R x1 [⟨(.sl (.pair (.sl t5) .unit)), (x0 : List ((List (d26) × Unit)))⟩]).bind fun (r0 : Bool) =>
  some ((!r0), ())) := by kernel_rfl
/-- slices.IndexFunc[[][]loop.example/g00548/impl.Txn,[]loop.example/g00548/impl.Txn] -/
theorem q_slices_IndexFunc_____impl_Txn___impl_Txn_ (R : Run EE) (L : Loops) (x0 : List (List ((List (d26) × Unit)))) (x1 : FnVal) : @Eq (Option ((Int × Unit))) (bodyK EE R L 159 [⟨(.sl (.sl (.pair (.sl t5) .unit))), x0⟩, ⟨.fn, x1⟩]) (
  lp_slices_IndexFunc_____impl_Txn___impl_Txn__0 R L x0 x1 (0 : Int) (((List.length x0) : Nat) : Int) (0 : Int)) := by kernel_rfl
theorem q_slices_IndexFunc_____impl_Txn___impl_Txn__0 (R : Run EE) (L : Loops) (v0 : List (List ((List (d26) × Unit)))) (v1 : FnVal) (v4 : Int) (v7 : Int) (v8 : Int) : @Eq (Option ((Int × Unit))) (from_ EE R L 159 Go.Proofs.Tryz.f159 [1, 0, 1, 0, 0] (mk 19 [(0, .dat ⟨(.sl (.sl (.pair (.sl t5) .unit))), v0, .sh⟩), (1, .dat ⟨.fn, v1, .sh⟩), (4, .dat ⟨(.int .i64), v4, .sh⟩), (7, .dat ⟨(.int .i64), v7, .sh⟩), (8, .dat ⟨(.int .i64), v8, .sh⟩)])) (
  cond (decide (v8 < v7))
  (cond (Go.Rf.nonneg v8)
    (cond (Nat.blt (Int.toNat v8) (List.length v0))
      ((callVB EE R v1 [⟨(.sl (.pair (.sl t5) .unit)), ((List.getD v0 (Int.toNat v8) ([] : List ((List (d26) × Unit)))) : List ((List (d26) × Unit)))⟩]).bind fun (r0 : Bool) =>
        cond r0
        (some (v8, ()))
        (lp_slices_IndexFunc_____impl_Txn___impl_Txn__1 R L v0 v1 v4 v8 v7 (Go.IntKind.wrap .i64 (v8 + (1 : Int)))))
      (none))
    (none))
  (some ((-(1 : Int)), ()))) := by kernel_rfl
theorem q_slices_IndexFunc_____impl_Txn___impl_Txn__1 (R : Run EE) (L : Loops) (v0 : List (List ((List (d26) × Unit)))) (v1 : FnVal) (v4 : Int) (v5 : Int) (v7 : Int) (v8 : Int) : @Eq (Option ((Int × Unit))) (from_ EE R L 159 Go.Proofs.Tryz.f159 [1, 0, 1, 0, 0] (mk 19 [(0, .dat ⟨(.sl (.sl (.pair (.sl t5) .unit))), v0, .sh⟩), (1, .dat ⟨.fn, v1, .sh⟩), (4, .dat ⟨(.int .i64), v4, .sh⟩), (5, .dat ⟨(.int .i64), v5, .sh⟩), (7, .dat ⟨(.int .i64), v7, .sh⟩), (8, .dat ⟨(.int .i64), v8, .sh⟩)])) (
  cond (decide (v8 < v7))
  (cond (Go.Rf.nonneg v8)
    (cond (Nat.blt (Int.toNat v8) (List.length v0))
      ((callVB EE R v1 [⟨(.sl (.pair (.sl t5) .unit)), ((List.getD v0 (Int.toNat v8) ([] : List ((List (d26) × Unit)))) : List ((List (d26) × Unit)))⟩]).bind fun (r0 : Bool) =>
        cond r0
        (some (v8, ()))
        (lp_slices_IndexFunc_____impl_Txn___impl_Txn__1 R L v0 v1 v4 v8 v7 (Go.IntKind.wrap .i64 (v8 + (1 : Int)))))
      (none))
    (none))
  (some ((-(1 : Int)), ()))) := by kernel_rfl
/-- slices.ContainsFunc[[][]loop.example/g00548/impl.Txn,[]loop.example/g00548/impl.Txn] -/
theorem q_slices_ContainsFunc_____impl_Txn___impl_Txn_ (R : Run EE) (L : Loops) (x0 : List (List ((List (d26) × Unit)))) (x1 : FnVal) : @Eq (Option ((Bool × Unit))) (bodyK EE R L 119 [⟨(.sl (.sl (.pair (.sl t5) .unit))), x0⟩, ⟨.fn, x1⟩]) (
  (c_slices_IndexFunc_____impl_Txn___impl_Txn_ R x0 x1).bind fun r0 =>
  some ((decide ((0 : Int) ≤ r0.1)), ())) := by kernel_rfl
/-- loop.example/g00548/impl.areAll[[]loop.example/g00548/impl.Txn] -/
theorem q_impl_areAll___impl_Txn_ (R : Run EE) (L : Loops) (x0 : List (List ((List (d26) × Unit)))) (x1 : FnVal) : @Eq (Option ((Bool × Unit))) (bodyK EE R L 76 [⟨(.sl (.sl (.pair (.sl t5) .unit))), x0⟩, ⟨.fn, x1⟩]) (
  (c_slices_ContainsFunc_____impl_Txn___impl_Txn_ R x0 (Go.Rf.FnVal.mk (120 : Nat) (Go.Rf.FCaps.fn x1 (Go.Rf.FCaps.nil)))).bind fun r0 =>
  some ((!r0.1), ())) := by kernel_rfl
/-- loop.example/g00548/impl.areAll[loop.example/g00548/impl.Txn]$1 -/
theorem q_impl_areAll_impl_Txn__1 (R : Run EE) (L : Loops) (x0 : (List (d26) × Unit)) (x1 : FnVal) : @Eq (Option ((Bool × Unit))) (bodyK EE R L 161 [⟨(.pair (.sl t5) .unit), x0⟩, ⟨(.ptr .fn), x1⟩]) (
  (callVB EE R x1 [⟨(.pair (.sl t5) .unit), (x0 : (List (d26) × Unit))⟩]).bind fun (r0 : Bool) =>
  some ((!r0), ())) := by kernel_rfl
/-- slices.IndexFunc[[]loop.example/g00548/impl.Txn,loop.example/g00548/impl.Txn] -/
theorem q_slices_IndexFunc___impl_Txn_impl_Txn_ (R : Run EE) (L : Loops) (x0 : List ((List (d26) × Unit))) (x1 : FnVal) : @Eq (Option ((Int × Unit))) (bodyK EE R L 186 [⟨(.sl (.pair (.sl t5) .unit)), x0⟩, ⟨.fn, x1⟩]) (
  lp_slices_IndexFunc___impl_Txn_impl_Txn__0 R L x0 x1 (0 : Int) (((List.length x0) : Nat) : Int) (0 : Int)) := by kernel_rfl
theorem q_slices_IndexFunc___impl_Txn_impl_Txn__0 (R : Run EE) (L : Loops) (v0 : List ((List (d26) × Unit))) (v1 : FnVal) (v4 : Int) (v7 : Int) (v8 : Int) : @Eq (Option ((Int × Unit))) (from_ EE R L 186 Go.Proofs.Tryz.f186 [1, 0, 1, 0, 0] (mk 19 [(0, .dat ⟨(.sl (.pair (.sl t5) .unit)), v0, .sh⟩), (1, .dat ⟨.fn, v1, .sh⟩), (4, .dat ⟨(.int .i64), v4, .sh⟩), (7, .dat ⟨(.int .i64), v7, .sh⟩), (8, .dat ⟨(.int .i64), v8, .sh⟩)])) (
  cond (decide (v8 < v7))
  (cond (Go.Rf.nonneg v8)
    (cond (Nat.blt (Int.toNat v8) (List.length v0))
      ((callVB EE R v1 [⟨(.pair (.sl t5) .unit), ((List.getD v0 (Int.toNat v8) (([] : List (d26)), ())) : (List (d26) × Unit))⟩]).bind fun (r0 : Bool) =>
        cond r0
        (some (v8, ()))
        (lp_slices_IndexFunc___impl_Txn_impl_Txn__1 R L v0 v1 v4 v8 v7 (Go.IntKind.wrap .i64 (v8 + (1 : Int)))))
      (none))
    (none))
  (some ((-(1 : Int)), ()))) := by kernel_rfl
theorem q_slices_IndexFunc___impl_Txn_impl_Txn__1 (R : Run EE) (L : Loops) (v0 : List ((List (d26) × Unit))) (v1 : FnVal) (v4 : Int) (v5 : Int) (v7 : Int) (v8 : Int) : @Eq (Option ((Int × Unit))) (from_ EE R L 186 Go.Proofs.Tryz.f186 [1, 0, 1, 0, 0] (mk 19 [(0, .dat ⟨(.sl (.pair (.sl t5) .unit)), v0, .sh⟩), (1, .dat ⟨.fn, v1, .sh⟩), (4, .dat ⟨(.int .i64), v4, .sh⟩), (5, .dat ⟨(.int .i64), v5, .sh⟩), (7, .dat ⟨(.int .i64), v7, .sh⟩), (8, .dat ⟨(.int .i64), v8, .sh⟩)])) (
  cond (decide (v8 < v7))
  (cond (Go.Rf.nonneg v8)
    (cond (Nat.blt (Int.toNat v8) (List.length v0))
      ((callVB EE R v1 [⟨(.pair (.sl t5) .unit), ((List.getD v0 (Int.toNat v8) (([] : List (d26)), ())) : (List (d26) × Unit))⟩]).bind fun (r0 : Bool) =>
        cond r0
        (some (v8, ()))
        (lp_slices_IndexFunc___impl_Txn_impl_Txn__1 R L v0 v1 v4 v8 v7 (Go.IntKind.wrap .i64 (v8 + (1 : Int)))))
      (none))
    (none))
  (some ((-(1 : Int)), ()))) := by kernel_rfl
/-- slices.ContainsFunc[[]loop.example/g00548/impl.Txn,loop.example/g00548/impl.Txn] -/
theorem q_slices_ContainsFunc___impl_Txn_impl_Txn_ (R : Run EE) (L : Loops) (x0 : List ((List (d26) × Unit))) (x1 : FnVal) : @Eq (Option ((Bool × Unit))) (bodyK EE R L 160 [⟨(.sl (.pair (.sl t5) .unit)), x0⟩, ⟨.fn, x1⟩]) (
  (c_slices_IndexFunc___impl_Txn_impl_Txn_ R x0 x1).bind fun r0 =>
  some ((decide ((0 : Int) ≤ r0.1)), ())) := by kernel_rfl
/-- loop.example/g00548/impl.areAll[loop.example/g00548/impl.Txn] -/
theorem q_impl_areAll_impl_Txn_ (R : Run EE) (L : Loops) (x0 : List ((List (d26) × Unit))) (x1 : FnVal) : @Eq (Option ((Bool × Unit))) (bodyK EE R L 122 [⟨(.sl (.pair (.sl t5) .unit)), x0⟩, ⟨.fn, x1⟩]) (
  (c_slices_ContainsFunc___impl_Txn_impl_Txn_ R x0 (Go.Rf.FnVal.mk (161 : Nat) (Go.Rf.FCaps.fn x1 (Go.Rf.FCaps.nil)))).bind fun r0 =>
  some ((!r0.1), ())) := by kernel_rfl
/-- loop.example/g00548/impl.areAll[loop.example/g00548/impl.Op]$1 -/
theorem q_impl_areAll_impl_Op__1 (R : Run EE) (L : Loops) (x0 : d26) (x1 : FnVal) : @Eq (Option ((Bool × Unit))) (bodyK EE R L 188 [⟨t5, x0⟩, ⟨(.ptr .fn), x1⟩]) (
  (callVB EE R x1 [⟨t5, (x0 : d26)⟩]).bind fun (r0 : Bool) =>
  some ((!r0), ())) := by kernel_rfl
/-- slices.IndexFunc[[]loop.example/g00548/impl.Op,loop.example/g00548/impl.Op] -/
theorem q_slices_IndexFunc___impl_Op_impl_Op_ (R : Run EE) (L : Loops) (x0 : List (d26)) (x1 : FnVal) : @Eq (Option ((Int × Unit))) (bodyK EE R L 208 [⟨(.sl t5), x0⟩, ⟨.fn, x1⟩]) (
  lp_slices_IndexFunc___impl_Op_impl_Op__0 R L x0 x1 (0 : Int) (((List.length x0) : Nat) : Int) (0 : Int)) := by kernel_rfl
theorem q_slices_IndexFunc___impl_Op_impl_Op__0 (R : Run EE) (L : Loops) (v0 : List (d26)) (v1 : FnVal) (v4 : Int) (v7 : Int) (v8 : Int) : @Eq (Option ((Int × Unit))) (from_ EE R L 208 Go.Proofs.Tryz.f208 [1, 0, 1, 0, 0] (mk 19 [(0, .dat ⟨(.sl t5), v0, .sh⟩), (1, .dat ⟨.fn, v1, .sh⟩), (4, .dat ⟨(.int .i64), v4, .sh⟩), (7, .dat ⟨(.int .i64), v7, .sh⟩), (8, .dat ⟨(.int .i64), v8, .sh⟩)])) (
  cond (decide (v8 < v7))
  (cond (Go.Rf.nonneg v8)
    (cond (Nat.blt (Int.toNat v8) (List.length v0))
      ((callVB EE R v1 [⟨t5, ((List.getD v0 (Int.toNat v8) ((0 : Int), ((0 : Int), ((0 : Int), ())))) : d26)⟩]).bind fun (r0 : Bool) =>
        cond r0
        (some (v8, ()))
        (lp_slices_IndexFunc___impl_Op_impl_Op__1 R L v0 v1 v4 v8 v7 (Go.IntKind.wrap .i64 (v8 + (1 : Int)))))
      (none))
    (none))
  (some ((-(1 : Int)), ()))) := by kernel_rfl
theorem q_slices_IndexFunc___impl_Op_impl_Op__1 (R : Run EE) (L : Loops) (v0 : List (d26)) (v1 : FnVal) (v4 : Int) (v5 : Int) (v7 : Int) (v8 : Int) : @Eq (Option ((Int × Unit))) (from_ EE R L 208 Go.Proofs.Tryz.f208 [1, 0, 1, 0, 0] (mk 19 [(0, .dat ⟨(.sl t5), v0, .sh⟩), (1, .dat ⟨.fn, v1, .sh⟩), (4, .dat ⟨(.int .i64), v4, .sh⟩), (5, .dat ⟨(.int .i64), v5, .sh⟩), (7, .dat ⟨(.int .i64), v7, .sh⟩), (8, .dat ⟨(.int .i64), v8, .sh⟩)])) (
  cond (decide (v8 < v7))
  (cond (Go.Rf.nonneg v8)
    (cond (Nat.blt (Int.toNat v8) (List.length v0))
      ((callVB EE R v1 [⟨t5, ((List.getD v0 (Int.toNat v8) ((0 : Int), ((0 : Int), ((0 : Int), ())))) : d26)⟩]).bind fun (r0 : Bool) =>
        cond r0
        (some (v8, ()))
        (lp_slices_IndexFunc___impl_Op_impl_Op__1 R L v0 v1 v4 v8 v7 (Go.IntKind.wrap .i64 (v8 + (1 : Int)))))
      (none))
    (none))
  (some ((-(1 : Int)), ()))) := by kernel_rfl
/-- slices.ContainsFunc[[]loop.example/g00548/impl.Op,loop.example/g00548/impl.Op] -/
theorem q_slices_ContainsFunc___impl_Op_impl_Op_ (R : Run EE) (L : Loops) (x0 : List (d26)) (x1 : FnVal) : @Eq (Option ((Bool × Unit))) (bodyK EE R L 187 [⟨(.sl t5), x0⟩, ⟨.fn, x1⟩]) (
  (c_slices_IndexFunc___impl_Op_impl_Op_ R x0 x1).bind fun r0 =>
  some ((decide ((0 : Int) ≤ r0.1)), ())) := by kernel_rfl
/-- loop.example/g00548/impl.areAll[loop.example/g00548/impl.Op] -/
theorem q_impl_areAll_impl_Op_ (R : Run EE) (L : Loops) (x0 : List (d26)) (x1 : FnVal) : @Eq (Option ((Bool × Unit))) (bodyK EE R L 162 [⟨(.sl t5), x0⟩, ⟨.fn, x1⟩]) (
  (c_slices_ContainsFunc___impl_Op_impl_Op_ R x0 (Go.Rf.FnVal.mk (188 : Nat) (Go.Rf.FCaps.fn x1 (Go.Rf.FCaps.nil)))).bind fun r0 =>
  some ((!r0.1), ())) := by kernel_rfl
/-- loop.example/g00548/impl.isBare -/
theorem q_impl_isBare (R : Run EE) (L : Loops) (x0 : Int) : @Eq (Option ((Bool × Unit))) (bodyK EE R L 170 [⟨(.int .i64), x0⟩]) (
  cond (Go.Rf.eqI x0 (1 : Int))
  (some (true, ()))
  (some ((Go.Rf.eqI x0 (3 : Int)), ()))) := by kernel_rfl
/-- loop.example/g00548/impl.OpOK -/
theorem q_impl_OpOK (R : Run EE) (L : Loops) (x0 : d26) : @Eq (Option ((Bool × Unit))) (bodyK EE R L 163 [⟨t5, x0⟩]) (
  (c_impl_within R x0.1 (1 : Int) (6 : Int)).bind fun r0 =>
  cond (!r0.1)
  (some (false, ()))
  ((c_impl_isKey R x0.2.1).bind fun r1 =>
    cond (!r1.1)
    (some (false, ()))
    ((c_impl_isBare R x0.1).bind fun r2 =>
      cond r2.1
      (some ((Go.Rf.eqI x0.2.2.1 (0 : Int)), ()))
      (cond (Go.Rf.eqI x0.1 (6 : Int))
        ((c_impl_within R x0.2.2.1 (1 : Int) (4 : Int)).bind fun r3 =>
          some (r3.1, ()))
        ((c_impl_isValue R x0.2.2.1).bind fun r3 =>
          some (r3.1, ())))))) := by kernel_rfl
/-- loop.example/g00548/impl.isTxn -/
theorem q_impl_isTxn (R : Run EE) (L : Loops) (x0 : (List (d26) × Unit)) : @Eq (Option ((Bool × Unit))) (bodyK EE R L 123 [⟨(.pair (.sl t5) .unit), x0⟩]) (
  (c_impl_within R (((List.length x0.1) : Nat) : Int) (1 : Int) (4 : Int)).bind fun r0 =>
  cond r0.1
  ((c_impl_areAll_impl_Op_ R x0.1 (Go.Rf.FnVal.mk (163 : Nat) (Go.Rf.FCaps.nil))).bind fun r1 =>
    some (r1.1, ()))
  (some (false, ()))) := by kernel_rfl
/-- loop.example/g00548/impl.BatchOK -/
theorem q_impl_BatchOK (R : Run EE) (L : Loops) (x0 : List ((List (d26) × Unit))) : @Eq (Option ((Bool × Unit))) (bodyK EE R L 77 [⟨(.sl (.pair (.sl t5) .unit)), x0⟩]) (
  (c_impl_within R (((List.length x0) : Nat) : Int) (1 : Int) (2 : Int)).bind fun r0 =>
  cond r0.1
  ((c_impl_areAll_impl_Txn_ R x0 (Go.Rf.FnVal.mk (123 : Nat) (Go.Rf.FCaps.nil))).bind fun r1 =>
    some (r1.1, ()))
  (some (false, ()))) := by kernel_rfl
/-- loop.example/g00548/impl.areAll[loop.example/g00548/impl.Result]$1 -/
theorem q_impl_areAll_impl_Result__1 (R : Run EE) (L : Loops) (x0 : d27) (x1 : FnVal) : @Eq (Option ((Bool × Unit))) (bodyK EE R L 165 [⟨t6, x0⟩, ⟨(.ptr .fn), x1⟩]) (
  (callVB EE R x1 [⟨t6, (x0 : d27)⟩]).bind fun (r0 : Bool) =>
  some ((!r0), ())) := by kernel_rfl
/-- slices.IndexFunc[[]loop.example/g00548/impl.Result,loop.example/g00548/impl.Result] -/
theorem q_slices_IndexFunc___impl_Result_impl_Result_ (R : Run EE) (L : Loops) (x0 : List (d27)) (x1 : FnVal) : @Eq (Option ((Int × Unit))) (bodyK EE R L 189 [⟨(.sl t6), x0⟩, ⟨.fn, x1⟩]) (
  lp_slices_IndexFunc___impl_Result_impl_Result__0 R L x0 x1 (0 : Int) (((List.length x0) : Nat) : Int) (0 : Int)) := by kernel_rfl
theorem q_slices_IndexFunc___impl_Result_impl_Result__0 (R : Run EE) (L : Loops) (v0 : List (d27)) (v1 : FnVal) (v4 : Int) (v7 : Int) (v8 : Int) : @Eq (Option ((Int × Unit))) (from_ EE R L 189 Go.Proofs.Tryz.f189 [1, 0, 1, 0, 0] (mk 19 [(0, .dat ⟨(.sl t6), v0, .sh⟩), (1, .dat ⟨.fn, v1, .sh⟩), (4, .dat ⟨(.int .i64), v4, .sh⟩), (7, .dat ⟨(.int .i64), v7, .sh⟩), (8, .dat ⟨(.int .i64), v8, .sh⟩)])) (
  cond (decide (v8 < v7))
  (cond (Go.Rf.nonneg v8)
    (cond (Nat.blt (Int.toNat v8) (List.length v0))
      ((callVB EE R v1 [⟨t6, ((List.getD v0 (Int.toNat v8) ((0 : Int), (([] : List (Int)), ()))) : d27)⟩]).bind fun (r0 : Bool) =>
        cond r0
        (some (v8, ()))
        (lp_slices_IndexFunc___impl_Result_impl_Result__1 R L v0 v1 v4 v8 v7 (Go.IntKind.wrap .i64 (v8 + (1 : Int)))))
      (none))
    (none))
  (some ((-(1 : Int)), ()))) := by kernel_rfl
theorem q_slices_IndexFunc___impl_Result_impl_Result__1 (R : Run EE) (L : Loops) (v0 : List (d27)) (v1 : FnVal) (v4 : Int) (v5 : Int) (v7 : Int) (v8 : Int) : @Eq (Option ((Int × Unit))) (from_ EE R L 189 Go.Proofs.Tryz.f189 [1, 0, 1, 0, 0] (mk 19 [(0, .dat ⟨(.sl t6), v0, .sh⟩), (1, .dat ⟨.fn, v1, .sh⟩), (4, .dat ⟨(.int .i64), v4, .sh⟩), (5, .dat ⟨(.int .i64), v5, .sh⟩), (7, .dat ⟨(.int .i64), v7, .sh⟩), (8, .dat ⟨(.int .i64), v8, .sh⟩)])) (
  cond (decide (v8 < v7))
  (cond (Go.Rf.nonneg v8)
    (cond (Nat.blt (Int.toNat v8) (List.length v0))
      ((callVB EE R v1 [⟨t6, ((List.getD v0 (Int.toNat v8) ((0 : Int), (([] : List (Int)), ()))) : d27)⟩]).bind fun (r0 : Bool) =>
        cond r0
        (some (v8, ()))
        (lp_slices_IndexFunc___impl_Result_impl_Result__1 R L v0 v1 v4 v8 v7 (Go.IntKind.wrap .i64 (v8 + (1 : Int)))))
      (none))
    (none))
  (some ((-(1 : Int)), ()))) := by kernel_rfl
/-- slices.ContainsFunc[[]loop.example/g00548/impl.Result,loop.example/g00548/impl.Result] -/
theorem q_slices_ContainsFunc___impl_Result_impl_Result_ (R : Run EE) (L : Loops) (x0 : List (d27)) (x1 : FnVal) : @Eq (Option ((Bool × Unit))) (bodyK EE R L 164 [⟨(.sl t6), x0⟩, ⟨.fn, x1⟩]) (
  (c_slices_IndexFunc___impl_Result_impl_Result_ R x0 x1).bind fun r0 =>
  some ((decide ((0 : Int) ≤ r0.1)), ())) := by kernel_rfl
/-- loop.example/g00548/impl.areAll[loop.example/g00548/impl.Result] -/
theorem q_impl_areAll_impl_Result_ (R : Run EE) (L : Loops) (x0 : List (d27)) (x1 : FnVal) : @Eq (Option ((Bool × Unit))) (bodyK EE R L 124 [⟨(.sl t6), x0⟩, ⟨.fn, x1⟩]) (
  (c_slices_ContainsFunc___impl_Result_impl_Result_ R x0 (Go.Rf.FnVal.mk (165 : Nat) (Go.Rf.FCaps.fn x1 (Go.Rf.FCaps.nil)))).bind fun r0 =>
  some ((!r0.1), ())) := by kernel_rfl
/-- loop.example/g00548/impl.isCode -/
theorem q_impl_isCode (R : Run EE) (L : Loops) (x0 : Int) : @Eq (Option ((Bool × Unit))) (bodyK EE R L 166 [⟨(.int .i64), x0⟩]) (
  (c_impl_within R x0 (0 : Int) (19 : Int)).bind fun r0 =>
  some (r0.1, ())) := by kernel_rfl
/-- loop.example/g00548/impl.areAll[int]$1 -/
theorem q_impl_areAll_int__1 (R : Run EE) (L : Loops) (x0 : Int) (x1 : FnVal) : @Eq (Option ((Bool × Unit))) (bodyK EE R L 191 [⟨(.int .i64), x0⟩, ⟨(.ptr .fn), x1⟩]) (
  (callVB EE R x1 [⟨(.int .i64), (x0 : Int)⟩]).bind fun (r0 : Bool) =>
  some ((!r0), ())) := by kernel_rfl
/-- slices.IndexFunc[[]int,int] -/
theorem q_slices_IndexFunc___int_int_ (R : Run EE) (L : Loops) (x0 : List (Int)) (x1 : FnVal) : @Eq (Option ((Int × Unit))) (bodyK EE R L 209 [⟨(.sl (.int .i64)), x0⟩, ⟨.fn, x1⟩]) (
  lp_slices_IndexFunc___int_int__0 R L x0 x1 (0 : Int) (((List.length x0) : Nat) : Int) (0 : Int)) := by kernel_rfl
theorem q_slices_IndexFunc___int_int__0 (R : Run EE) (L : Loops) (v0 : List (Int)) (v1 : FnVal) (v4 : Int) (v7 : Int) (v8 : Int) : @Eq (Option ((Int × Unit))) (from_ EE R L 209 Go.Proofs.Tryz.f209 [1, 0, 1, 0, 0] (mk 19 [(0, .dat ⟨(.sl (.int .i64)), v0, .sh⟩), (1, .dat ⟨.fn, v1, .sh⟩), (4, .dat ⟨(.int .i64), v4, .sh⟩), (7, .dat ⟨(.int .i64), v7, .sh⟩), (8, .dat ⟨(.int .i64), v8, .sh⟩)])) (
  cond (decide (v8 < v7))
  (cond (Go.Rf.nonneg v8)
    (cond (Nat.blt (Int.toNat v8) (List.length v0))
      ((callVB EE R v1 [⟨(.int .i64), ((List.getD v0 (Int.toNat v8) (0 : Int)) : Int)⟩]).bind fun (r0 : Bool) =>
        cond r0
        (some (v8, ()))
        (lp_slices_IndexFunc___int_int__1 R L v0 v1 v4 v8 v7 (Go.IntKind.wrap .i64 (v8 + (1 : Int)))))
      (none))
    (none))
  (some ((-(1 : Int)), ()))) := by kernel_rfl
theorem q_slices_IndexFunc___int_int__1 (R : Run EE) (L : Loops) (v0 : List (Int)) (v1 : FnVal) (v4 : Int) (v5 : Int) (v7 : Int) (v8 : Int) : @Eq (Option ((Int × Unit))) (from_ EE R L 209 Go.Proofs.Tryz.f209 [1, 0, 1, 0, 0] (mk 19 [(0, .dat ⟨(.sl (.int .i64)), v0, .sh⟩), (1, .dat ⟨.fn, v1, .sh⟩), (4, .dat ⟨(.int .i64), v4, .sh⟩), (5, .dat ⟨(.int .i64), v5, .sh⟩), (7, .dat ⟨(.int .i64), v7, .sh⟩), (8, .dat ⟨(.int .i64), v8, .sh⟩)])) (
  cond (decide (v8 < v7))
  (cond (Go.Rf.nonneg v8)
    (cond (Nat.blt (Int.toNat v8) (List.length v0))
      ((callVB EE R v1 [⟨(.int .i64), ((List.getD v0 (Int.toNat v8) (0 : Int)) : Int)⟩]).bind fun (r0 : Bool) =>
        cond r0
        (some (v8, ()))
        (lp_slices_IndexFunc___int_int__1 R L v0 v1 v4 v8 v7 (Go.IntKind.wrap .i64 (v8 + (1 : Int)))))
      (none))
    (none))
  (some ((-(1 : Int)), ()))) := by kernel_rfl
/-- slices.ContainsFunc[[]int,int] -/
theorem q_slices_ContainsFunc___int_int_ (R : Run EE) (L : Loops) (x0 : List (Int)) (x1 : FnVal) : @Eq (Option ((Bool × Unit))) (bodyK EE R L 190 [⟨(.sl (.int .i64)), x0⟩, ⟨.fn, x1⟩]) (
  (c_slices_IndexFunc___int_int_ R x0 x1).bind fun r0 =>
  some ((decide ((0 : Int) ≤ r0.1)), ())) := by kernel_rfl
/-- loop.example/g00548/impl.areAll[int] -/
theorem q_impl_areAll_int_ (R : Run EE) (L : Loops) (x0 : List (Int)) (x1 : FnVal) : @Eq (Option ((Bool × Unit))) (bodyK EE R L 167 [⟨(.sl (.int .i64)), x0⟩, ⟨.fn, x1⟩]) (
  (c_slices_ContainsFunc___int_int_ R x0 (Go.Rf.FnVal.mk (191 : Nat) (Go.Rf.FCaps.fn x1 (Go.Rf.FCaps.nil)))).bind fun r0 =>
  some ((!r0.1), ())) := by kernel_rfl
/-- loop.example/g00548/impl.isResult -/
theorem q_impl_isResult (R : Run EE) (L : Loops) (x0 : d27) : @Eq (Option ((Bool × Unit))) (bodyK EE R L 125 [⟨t6, x0⟩]) (
  (c_impl_isCode R x0.1).bind fun r0 =>
  cond r0.1
  (cond (decide ((((List.length x0.2.1) : Nat) : Int) ≤ (32 : Int)))
    ((c_impl_areAll_int_ R x0.2.1 (Go.Rf.FnVal.mk (118 : Nat) (Go.Rf.FCaps.nil))).bind fun r1 =>
      cond r1.1
      (cond (Go.Rf.eqI x0.1 (0 : Int))
        (some (true, ()))
        (some ((Go.Rf.eqI (((List.length x0.2.1) : Nat) : Int) (0 : Int)), ())))
      (some (false, ())))
    (some (false, ())))
  (some (false, ()))) := by kernel_rfl
/-- loop.example/g00548/impl.areResults -/
theorem q_impl_areResults (R : Run EE) (L : Loops) (x0 : List (d27)) : @Eq (Option ((Bool × Unit))) (bodyK EE R L 78 [⟨(.sl t6), x0⟩]) (
  cond (decide ((((List.length x0) : Nat) : Int) ≤ (2 : Int)))
  ((c_impl_areAll_impl_Result_ R x0 (Go.Rf.FnVal.mk (125 : Nat) (Go.Rf.FCaps.nil))).bind fun r0 =>
    some (r0.1, ()))
  (some (false, ()))) := by kernel_rfl
/-- loop.example/g00548/impl.WorldOK -/
theorem q_impl_WorldOK (R : Run EE) (L : Loops) (x0 : d28) : @Eq (Option ((Bool × Unit))) (bodyK EE R L 31 [⟨t7, x0⟩]) (
  (c_impl_StoreOK R x0.1).bind fun r0 =>
  cond r0.1
  ((c_impl_isSure R x0.2.1).bind fun r1 =>
    cond r1.1
    ((c_impl_MapOK R x0.2.2.1).bind fun r2 =>
      cond r2.1
      ((c_impl_Register_waiting R x0.1.2.1).bind fun r3 =>
        cond (Go.Rf.eqI (((List.length x0.2.2.2.1) : Nat) : Int) r3.1)
        ((c_impl_areAll___impl_Txn_ R x0.2.2.2.1 (Go.Rf.FnVal.mk (77 : Nat) (Go.Rf.FCaps.nil))).bind fun r4 =>
          cond r4.1
          ((c_impl_areResults R x0.2.2.2.2.1).bind fun r5 =>
            some (r5.1, ()))
          (some (false, ())))
        (some (false, ())))
      (some (false, ())))
    (some (false, ())))
  (some (false, ()))) := by kernel_rfl
/-- loop.example/g00548/impl.opWords -/
theorem q_impl_opWords (R : Run EE) (L : Loops)  : @Eq (Option (d29)) (bodyK EE R L 169 []) (
  some ((([] : List (UInt8)) :: (((103 : UInt8) :: ((101 : UInt8) :: ((116 : UInt8) :: ([] : List (UInt8))))) :: (((112 : UInt8) :: ((117 : UInt8) :: ((116 : UInt8) :: ([] : List (UInt8))))) :: (((100 : UInt8) :: ((114 : UInt8) :: ((111 : UInt8) :: ((112 : UInt8) :: ([] : List (UInt8)))))) :: (((99 : UInt8) :: ((104 : UInt8) :: ((101 : UInt8) :: ((99 : UInt8) :: ((107 : UInt8) :: ([] : List (UInt8))))))) :: (((97 : UInt8) :: ((100 : UInt8) :: ((100 : UInt8) :: ([] : List (UInt8))))) :: (((115 : UInt8) :: ((99 : UInt8) :: ((97 : UInt8) :: ((110 : UInt8) :: ([] : List (UInt8)))))) :: ([] : List (List (UInt8)))))))))), ())) := by kernel_rfl
/-- loop.example/g00548/impl.opText -/
theorem q_impl_opText (R : Run EE) (L : Loops) (x0 : d26) : @Eq (Option ((List UInt8 × Unit))) (bodyK EE R L 127 [⟨t5, x0⟩]) (
  (c_impl_opWords R ).bind fun r0 =>
  cond (Go.Rf.nonneg x0.1)
  (cond (Nat.blt (Int.toNat x0.1) (List.length r0.1))
    (cond (Go.Rf.lenOK ((List.length (List.getD r0.1 (Int.toNat x0.1) ([] : List (UInt8)))) + (List.length ((32 : UInt8) :: ([] : List (UInt8))))))
      ((c_strconv_Itoa R x0.2.1).bind fun r1 =>
        cond (Go.Rf.lenOK ((List.length ((List.getD r0.1 (Int.toNat x0.1) ([] : List (UInt8))) ++ ((32 : UInt8) :: ([] : List (UInt8))))) + (List.length r1.1)))
        ((c_impl_isBare R x0.1).bind fun r2 =>
          cond r2.1
          (some ((((List.getD r0.1 (Int.toNat x0.1) ([] : List (UInt8))) ++ ((32 : UInt8) :: ([] : List (UInt8)))) ++ r1.1), ()))
          (cond (Go.Rf.lenOK ((List.length (((List.getD r0.1 (Int.toNat x0.1) ([] : List (UInt8))) ++ ((32 : UInt8) :: ([] : List (UInt8)))) ++ r1.1)) + (List.length ((32 : UInt8) :: ([] : List (UInt8))))))
            ((c_strconv_Itoa R x0.2.2.1).bind fun r3 =>
              cond (Go.Rf.lenOK ((List.length ((((List.getD r0.1 (Int.toNat x0.1) ([] : List (UInt8))) ++ ((32 : UInt8) :: ([] : List (UInt8)))) ++ r1.1) ++ ((32 : UInt8) :: ([] : List (UInt8))))) + (List.length r3.1)))
              (some ((((((List.getD r0.1 (Int.toNat x0.1) ([] : List (UInt8))) ++ ((32 : UInt8) :: ([] : List (UInt8)))) ++ r1.1) ++ ((32 : UInt8) :: ([] : List (UInt8)))) ++ r3.1), ()))
              (none))
            (none)))
        (none))
      (none))
    (none))
  (none)) := by kernel_rfl
/-- loop.example/g00548/impl.batchText -/
theorem q_impl_batchText (R : Run EE) (L : Loops) (x0 : List ((List (d26) × Unit))) : @Eq (Option ((List UInt8 × Unit))) (bodyK EE R L 80 [⟨(.sl (.pair (.sl t5) .unit)), x0⟩]) (
  lp_impl_batchText_0 R L ([] : List (List (UInt8))) x0 (((List.length x0) : Nat) : Int) (0 : Int)) := by kernel_rfl
theorem q_impl_batchText_0 (R : Run EE) (L : Loops) (v3 : List (List UInt8)) (v9 : List ((List (d26) × Unit))) (v10 : Int) (v11 : Int) : @Eq (Option ((List UInt8 × Unit))) (from_ EE R L 80 Go.Proofs.Tryz.f80 [1, 1, 0, 1, 0, 0] (mk 36 [(3, .dat ⟨(.sl .str), v3, (.own .sh)⟩), (9, .dat ⟨(.sl (.pair (.sl t5) .unit)), v9, .sh⟩), (10, .dat ⟨(.int .i64), v10, .sh⟩), (11, .dat ⟨(.int .i64), v11, .sh⟩)])) (
  cond (decide (v11 < v10))
  (cond (Go.Rf.nonneg v11)
    (cond (Nat.blt (Int.toNat v11) (List.length v9))
      (lp_impl_batchText_1 R L v3 ([] : List (List (UInt8))) v9 v10 v11 (List.getD v9 (Int.toNat v11) (([] : List (d26)), ())).1 (((List.length (List.getD v9 (Int.toNat v11) (([] : List (d26)), ())).1) : Nat) : Int) (0 : Int))
      (none))
    (none))
  ((c_strings_Join R v3 ((32 : UInt8) :: ((124 : UInt8) :: ((32 : UInt8) :: ([] : List (UInt8)))))).bind fun r0 =>
    some (r0.1, ()))) := by kernel_rfl
theorem q_impl_batchText_1 (R : Run EE) (L : Loops) (v3 : List (List UInt8)) (v6 : List (List UInt8)) (v9 : List ((List (d26) × Unit))) (v10 : Int) (v11 : Int) (v16 : List (d26)) (v17 : Int) (v18 : Int) : @Eq (Option ((List UInt8 × Unit))) (from_ EE R L 80 Go.Proofs.Tryz.f80 [1, 1, 0, 1, 0, 0, 1, 1, 0, 0, 1, 1, 0, 1, 0, 0] (mk 36 [(3, .dat ⟨(.sl .str), v3, (.own .sh)⟩), (6, .dat ⟨(.sl .str), v6, (.own .sh)⟩), (9, .dat ⟨(.sl (.pair (.sl t5) .unit)), v9, .sh⟩), (10, .dat ⟨(.int .i64), v10, .sh⟩), (11, .dat ⟨(.int .i64), v11, .sh⟩), (16, .dat ⟨(.sl t5), v16, .sh⟩), (17, .dat ⟨(.int .i64), v17, .sh⟩), (18, .dat ⟨(.int .i64), v18, .sh⟩)])) (
  cond (decide (v18 < v17))
  (cond (Go.Rf.nonneg v18)
    (cond (Nat.blt (Int.toNat v18) (List.length v16))
      ((c_impl_opText R (List.getD v16 (Int.toNat v18) ((0 : Int), ((0 : Int), ((0 : Int), ()))))).bind fun r0 =>
        cond (Go.Rf.lenOK ((List.length v6) + (List.length (r0.1 :: ([] : List (List (UInt8)))))))
        (lp_impl_batchText_1 R L v3 (v6 ++ (r0.1 :: ([] : List (List (UInt8))))) v9 v10 v11 v16 v17 (Go.IntKind.wrap .i64 (v18 + (1 : Int))))
        (none))
      (none))
    (none))
  ((c_strings_Join R v6 ((59 : UInt8) :: ((32 : UInt8) :: ([] : List (UInt8))))).bind fun r0 =>
    cond (Go.Rf.lenOK ((List.length v3) + (List.length (r0.1 :: ([] : List (List (UInt8)))))))
    (lp_impl_batchText_0 R L (v3 ++ (r0.1 :: ([] : List (List (UInt8))))) v9 v10 (Go.IntKind.wrap .i64 (v11 + (1 : Int))))
    (none))) := by kernel_rfl
/-- (loop.example/g00548/impl.World).lines -/
theorem q_impl_World_lines (R : Run EE) (L : Loops) (x0 : d28) : @Eq (Option (d29)) (bodyK EE R L 32 [⟨t7, x0⟩]) (
  lp_impl_World_lines_0 R L x0 ([] : List (List (UInt8))) x0.2.2.1 (((List.length x0.2.2.1) : Nat) : Int) (0 : Int)) := by kernel_rfl
theorem q_impl_World_lines_0 (R : Run EE) (L : Loops) (v1 : d28) (v3 : List (List UInt8)) (v9 : List ((Int × (Int × Unit)))) (v10 : Int) (v11 : Int) : @Eq (Option (d29)) (from_ EE R L 32 Go.Proofs.Tryz.f32 [1, 1, 0, 1, 0, 0] (mk 50 [(1, .dat ⟨(.ptr t7), v1, (.own .sh)⟩), (3, .dat ⟨(.sl .str), v3, (.own .sh)⟩), (9, .dat ⟨(.sl t4), v9, .sh⟩), (10, .dat ⟨(.int .i64), v10, .sh⟩), (11, .dat ⟨(.int .i64), v11, .sh⟩)])) (
  cond (decide (v11 < v10))
  (cond (Go.Rf.nonneg v11)
    (cond (Nat.blt (Int.toNat v11) (List.length v9))
      ((c_strconv_Itoa R (List.getD v9 (Int.toNat v11) ((0 : Int), ((0 : Int), ()))).1).bind fun r0 =>
        cond (Go.Rf.lenOK ((List.length ((107 : UInt8) :: ((101 : UInt8) :: ((121 : UInt8) :: ((32 : UInt8) :: ([] : List (UInt8))))))) + (List.length r0.1)))
        (cond (Go.Rf.lenOK ((List.length (((107 : UInt8) :: ((101 : UInt8) :: ((121 : UInt8) :: ((32 : UInt8) :: ([] : List (UInt8)))))) ++ r0.1)) + (List.length ((32 : UInt8) :: ((118 : UInt8) :: ((97 : UInt8) :: ((108 : UInt8) :: ((117 : UInt8) :: ((101 : UInt8) :: ((32 : UInt8) :: ([] : List (UInt8))))))))))))
          ((c_strconv_Itoa R (List.getD v9 (Int.toNat v11) ((0 : Int), ((0 : Int), ()))).2.1).bind fun r1 =>
            cond (Go.Rf.lenOK ((List.length ((((107 : UInt8) :: ((101 : UInt8) :: ((121 : UInt8) :: ((32 : UInt8) :: ([] : List (UInt8)))))) ++ r0.1) ++ ((32 : UInt8) :: ((118 : UInt8) :: ((97 : UInt8) :: ((108 : UInt8) :: ((117 : UInt8) :: ((101 : UInt8) :: ((32 : UInt8) :: ([] : List (UInt8))))))))))) + (List.length r1.1)))
            (cond (Go.Rf.lenOK ((List.length v3) + (List.length ((((((107 : UInt8) :: ((101 : UInt8) :: ((121 : UInt8) :: ((32 : UInt8) :: ([] : List (UInt8)))))) ++ r0.1) ++ ((32 : UInt8) :: ((118 : UInt8) :: ((97 : UInt8) :: ((108 : UInt8) :: ((117 : UInt8) :: ((101 : UInt8) :: ((32 : UInt8) :: ([] : List (UInt8)))))))))) ++ r1.1) :: ([] : List (List (UInt8)))))))
              (lp_impl_World_lines_0 R L v1 (v3 ++ ((((((107 : UInt8) :: ((101 : UInt8) :: ((121 : UInt8) :: ((32 : UInt8) :: ([] : List (UInt8)))))) ++ r0.1) ++ ((32 : UInt8) :: ((118 : UInt8) :: ((97 : UInt8) :: ((108 : UInt8) :: ((117 : UInt8) :: ((101 : UInt8) :: ((32 : UInt8) :: ([] : List (UInt8)))))))))) ++ r1.1) :: ([] : List (List (UInt8))))) v9 v10 (Go.IntKind.wrap .i64 (v11 + (1 : Int))))
              (none))
            (none))
          (none))
        (none))
      (none))
    (none))
  (lp_impl_World_lines_1 R L v1 v3 v1.2.2.2.1 (((List.length v1.2.2.2.1) : Nat) : Int) (0 : Int))) := by kernel_rfl
theorem q_impl_World_lines_1 (R : Run EE) (L : Loops) (v1 : d28) (v3 : List (List UInt8)) (v29 : List (List ((List (d26) × Unit)))) (v30 : Int) (v31 : Int) : @Eq (Option (d29)) (from_ EE R L 32 Go.Proofs.Tryz.f32 [1, 1, 1, 0, 1, 0, 0] (mk 50 [(1, .dat ⟨(.ptr t7), v1, (.own .sh)⟩), (3, .dat ⟨(.sl .str), v3, (.own .sh)⟩), (29, .dat ⟨(.sl (.sl (.pair (.sl t5) .unit))), v29, .sh⟩), (30, .dat ⟨(.int .i64), v30, .sh⟩), (31, .dat ⟨(.int .i64), v31, .sh⟩)])) (
  cond (decide (v31 < v30))
  (cond (Go.Rf.nonneg v31)
    (cond (Nat.blt (Int.toNat v31) (List.length v29))
      ((c_impl_batchText R (List.getD v29 (Int.toNat v31) ([] : List ((List (d26) × Unit))))).bind fun r0 =>
        cond (Go.Rf.lenOK ((List.length ((119 : UInt8) :: ((97 : UInt8) :: ((105 : UInt8) :: ((116 : UInt8) :: ((115 : UInt8) :: ((32 : UInt8) :: ([] : List (UInt8))))))))) + (List.length r0.1)))
        (cond (Go.Rf.lenOK ((List.length v3) + (List.length ((((119 : UInt8) :: ((97 : UInt8) :: ((105 : UInt8) :: ((116 : UInt8) :: ((115 : UInt8) :: ((32 : UInt8) :: ([] : List (UInt8)))))))) ++ r0.1) :: ([] : List (List (UInt8)))))))
          (lp_impl_World_lines_1 R L v1 (v3 ++ ((((119 : UInt8) :: ((97 : UInt8) :: ((105 : UInt8) :: ((116 : UInt8) :: ((115 : UInt8) :: ((32 : UInt8) :: ([] : List (UInt8)))))))) ++ r0.1) :: ([] : List (List (UInt8))))) v29 v30 (Go.IntKind.wrap .i64 (v31 + (1 : Int))))
          (none))
        (none))
      (none))
    (none))
  (cond v1.2.2.2.2.2.1
    (cond (Go.Rf.lenOK ((List.length v3) + (List.length (((97 : UInt8) :: ((103 : UInt8) :: ((114 : UInt8) :: ((101 : UInt8) :: ((101 : UInt8) :: ((32 : UInt8) :: ((121 : UInt8) :: ((101 : UInt8) :: ((115 : UInt8) :: ([] : List (UInt8))))))))))) :: ([] : List (List (UInt8)))))))
      (some ((v3 ++ (((97 : UInt8) :: ((103 : UInt8) :: ((114 : UInt8) :: ((101 : UInt8) :: ((101 : UInt8) :: ((32 : UInt8) :: ((121 : UInt8) :: ((101 : UInt8) :: ((115 : UInt8) :: ([] : List (UInt8))))))))))) :: ([] : List (List (UInt8))))), ()))
      (none))
    (cond (Go.Rf.lenOK ((List.length v3) + (List.length (((97 : UInt8) :: ((103 : UInt8) :: ((114 : UInt8) :: ((101 : UInt8) :: ((101 : UInt8) :: ((32 : UInt8) :: ((110 : UInt8) :: ((111 : UInt8) :: ([] : List (UInt8)))))))))) :: ([] : List (List (UInt8)))))))
      (some ((v3 ++ (((97 : UInt8) :: ((103 : UInt8) :: ((114 : UInt8) :: ((101 : UInt8) :: ((101 : UInt8) :: ((32 : UInt8) :: ((110 : UInt8) :: ((111 : UInt8) :: ([] : List (UInt8)))))))))) :: ([] : List (List (UInt8))))), ()))
      (none)))) := by kernel_rfl
/-- loop.example/g00548/impl.WorldLines -/
theorem q_impl_WorldLines (R : Run EE) (L : Loops) (x0 : d28) : @Eq (Option (d35)) (bodyK EE R L 8 [⟨t7, x0⟩]) (
  (c_impl_WorldOK R x0).bind fun r0 =>
  cond (!r0.1)
  (some (([] : List (List (UInt8))), ((1 : Int), ())))
  ((c_impl_World_lines R x0).bind fun r1 =>
    some (r1.1, ((0 : Int), ())))) := by kernel_rfl
/-- loop.example/g00548/laws.eqStringS -/
theorem q_laws_eqStringS (R : Run EE) (L : Loops) (x0 : List (List UInt8)) (x1 : List (List UInt8)) : @Eq (Option ((Bool × Unit))) (bodyK EE R L 9 [⟨(.sl .str), x0⟩, ⟨(.sl .str), x1⟩]) (
  cond (!(Go.Rf.eqI (((List.length x0) : Nat) : Int) (((List.length x1) : Nat) : Int)))
  (some (false, ()))
  (lp_laws_eqStringS_0 R L x0 x1 false (0 : Int))) := by kernel_rfl
theorem q_laws_eqStringS_0 (R : Run EE) (L : Loops) (v0 : List (List UInt8)) (v1 : List (List UInt8)) (v4 : Bool) (v5 : Int) : @Eq (Option ((Bool × Unit))) (from_ EE R L 9 Go.Proofs.Tryz.f9 [1, 1, 0, 1, 0, 0] (mk 26 [(0, .dat ⟨(.sl .str), v0, .sh⟩), (1, .dat ⟨(.sl .str), v1, .sh⟩), (4, .dat ⟨.bool, v4, .sh⟩), (5, .dat ⟨(.int .i64), v5, .sh⟩)])) (
  cond (decide (v5 < (((List.length v0) : Nat) : Int)))
  (cond (Go.Rf.nonneg v5)
    (cond (Nat.blt (Int.toNat v5) (List.length v0))
      (cond (Go.Rf.nonneg v5)
        (cond (Nat.blt (Int.toNat v5) (List.length v1))
          (cond (!(Go.Rf.eqS (List.getD v0 (Int.toNat v5) ([] : List (UInt8))) (List.getD v1 (Int.toNat v5) ([] : List (UInt8)))))
            (some (false, ()))
            (lp_laws_eqStringS_0 R L v0 v1 v4 (Go.IntKind.wrap .i64 (v5 + (1 : Int)))))
          (none))
        (none))
      (none))
    (none))
  (some (true, ()))) := by kernel_rfl
/-- loop.example/g00548/laws.eqRegister -/
theorem q_laws_eqRegister (R : Run EE) (L : Loops) (x0 : d22) (x1 : d22) : @Eq (Option ((Bool × Unit))) (bodyK EE R L 81 [⟨t0, x0⟩, ⟨t0, x1⟩]) (
  cond (!(Go.Rf.eqI x0.1 x1.1))
  (some (false, ()))
  (cond (!(Go.Rf.eqI x0.2.1 x1.2.1))
    (some (false, ()))
    (cond (!(Go.Rf.eqI x0.2.2.1 x1.2.2.1))
      (some (false, ()))
      (cond (!(Go.Rf.eqI x0.2.2.2.1 x1.2.2.2.1))
        (some (false, ()))
        (cond (!(Go.Rf.eqS x0.2.2.2.2.1 x1.2.2.2.2.1))
          (some (false, ()))
          (cond (!(Go.Rf.eqS x0.2.2.2.2.2.1 x1.2.2.2.2.2.1))
            (some (false, ()))
            (cond (!(Go.Rf.eqS x0.2.2.2.2.2.2.1 x1.2.2.2.2.2.2.1))
              (some (false, ()))
              (some (true, ()))))))))) := by kernel_rfl
/-- loop.example/g00548/laws.eqIo -/
theorem q_laws_eqIo (R : Run EE) (L : Loops) (x0 : d23) (x1 : d23) : @Eq (Option ((Bool × Unit))) (bodyK EE R L 129 [⟨t1, x0⟩, ⟨t1, x1⟩]) (
  cond (!(Go.Rf.eqI x0.1 x1.1))
  (some (false, ()))
  (cond (!(Go.Rf.eqS x0.2.1 x1.2.1))
    (some (false, ()))
    (some (true, ())))) := by kernel_rfl
/-- loop.example/g00548/laws.eqIoS -/
theorem q_laws_eqIoS (R : Run EE) (L : Loops) (x0 : List (d23)) (x1 : List (d23)) : @Eq (Option ((Bool × Unit))) (bodyK EE R L 82 [⟨(.sl t1), x0⟩, ⟨(.sl t1), x1⟩]) (
  cond (!(Go.Rf.eqI (((List.length x0) : Nat) : Int) (((List.length x1) : Nat) : Int)))
  (some (false, ()))
  (lp_laws_eqIoS_0 R L x0 x1 false (0 : Int))) := by kernel_rfl
theorem q_laws_eqIoS_0 (R : Run EE) (L : Loops) (v0 : List (d23)) (v1 : List (d23)) (v4 : Bool) (v5 : Int) : @Eq (Option ((Bool × Unit))) (from_ EE R L 82 Go.Proofs.Tryz.f82 [1, 1, 0, 1, 0, 0] (mk 27 [(0, .dat ⟨(.sl t1), v0, .sh⟩), (1, .dat ⟨(.sl t1), v1, .sh⟩), (4, .dat ⟨.bool, v4, .sh⟩), (5, .dat ⟨(.int .i64), v5, .sh⟩)])) (
  cond (decide (v5 < (((List.length v0) : Nat) : Int)))
  (cond (Go.Rf.nonneg v5)
    (cond (Nat.blt (Int.toNat v5) (List.length v0))
      (cond (Go.Rf.nonneg v5)
        (cond (Nat.blt (Int.toNat v5) (List.length v1))
          ((c_laws_eqIo R (List.getD v0 (Int.toNat v5) ((0 : Int), (([] : List (UInt8)), ()))) (List.getD v1 (Int.toNat v5) ((0 : Int), (([] : List (UInt8)), ())))).bind fun r0 =>
            cond (!r0.1)
            (some (false, ()))
            (lp_laws_eqIoS_0 R L v0 v1 v4 (Go.IntKind.wrap .i64 (v5 + (1 : Int)))))
          (none))
        (none))
      (none))
    (none))
  (some (true, ()))) := by kernel_rfl
/-- loop.example/g00548/laws.eqDevice -/
theorem q_laws_eqDevice (R : Run EE) (L : Loops) (x0 : d24) (x1 : d24) : @Eq (Option ((Bool × Unit))) (bodyK EE R L 34 [⟨t2, x0⟩, ⟨t2, x1⟩]) (
  (c_laws_eqStringS R x0.1 x1.1).bind fun r0 =>
  cond (!r0.1)
  (some (false, ()))
  ((c_laws_eqIoS R x0.2.1 x1.2.1).bind fun r1 =>
    cond (!r1.1)
    (some (false, ()))
    (some (true, ())))) := by kernel_rfl
/-- loop.example/g00548/laws.eqStore -/
theorem q_laws_eqStore (R : Run EE) (L : Loops) (x0 : d25) (x1 : d25) : @Eq (Option ((Bool × Unit))) (bodyK EE R L 33 [⟨t3, x0⟩, ⟨t3, x1⟩]) (
  cond (!(Go.Rf.eqS x0.1 x1.1))
  (some (false, ()))
  ((c_laws_eqRegister R x0.2.1 x1.2.1).bind fun r0 =>
    cond (!r0.1)
    (some (false, ()))
    ((c_laws_eqDevice R x0.2.2.1 x1.2.2.1).bind fun r1 =>
      cond (!r1.1)
      (some (false, ()))
      (cond (!(Go.Rf.eqB x0.2.2.2.1 x1.2.2.2.1))
        (some (false, ()))
        (cond (!(Go.Rf.eqB x0.2.2.2.2.1 x1.2.2.2.2.1))
          (some (false, ()))
          (some (true, ()))))))) := by kernel_rfl
/-- loop.example/g00548/laws.eqEntry -/
theorem q_laws_eqEntry (R : Run EE) (L : Loops) (x0 : (Int × (Int × Unit))) (x1 : (Int × (Int × Unit))) : @Eq (Option ((Bool × Unit))) (bodyK EE R L 83 [⟨t4, x0⟩, ⟨t4, x1⟩]) (
  cond (!(Go.Rf.eqI x0.1 x1.1))
  (some (false, ()))
  (cond (!(Go.Rf.eqI x0.2.1 x1.2.1))
    (some (false, ()))
    (some (true, ())))) := by kernel_rfl
/-- loop.example/g00548/laws.eqEntryS -/
theorem q_laws_eqEntryS (R : Run EE) (L : Loops) (x0 : List ((Int × (Int × Unit)))) (x1 : List ((Int × (Int × Unit)))) : @Eq (Option ((Bool × Unit))) (bodyK EE R L 35 [⟨(.sl t4), x0⟩, ⟨(.sl t4), x1⟩]) (
  cond (!(Go.Rf.eqI (((List.length x0) : Nat) : Int) (((List.length x1) : Nat) : Int)))
  (some (false, ()))
  (lp_laws_eqEntryS_0 R L x0 x1 false (0 : Int))) := by kernel_rfl
theorem q_laws_eqEntryS_0 (R : Run EE) (L : Loops) (v0 : List ((Int × (Int × Unit)))) (v1 : List ((Int × (Int × Unit)))) (v4 : Bool) (v5 : Int) : @Eq (Option ((Bool × Unit))) (from_ EE R L 35 Go.Proofs.Tryz.f35 [1, 1, 0, 1, 0, 0] (mk 27 [(0, .dat ⟨(.sl t4), v0, .sh⟩), (1, .dat ⟨(.sl t4), v1, .sh⟩), (4, .dat ⟨.bool, v4, .sh⟩), (5, .dat ⟨(.int .i64), v5, .sh⟩)])) (
  cond (decide (v5 < (((List.length v0) : Nat) : Int)))
  (cond (Go.Rf.nonneg v5)
    (cond (Nat.blt (Int.toNat v5) (List.length v0))
      (cond (Go.Rf.nonneg v5)
        (cond (Nat.blt (Int.toNat v5) (List.length v1))
          ((c_laws_eqEntry R (List.getD v0 (Int.toNat v5) ((0 : Int), ((0 : Int), ()))) (List.getD v1 (Int.toNat v5) ((0 : Int), ((0 : Int), ())))).bind fun r0 =>
            cond (!r0.1)
            (some (false, ()))
            (lp_laws_eqEntryS_0 R L v0 v1 v4 (Go.IntKind.wrap .i64 (v5 + (1 : Int)))))
          (none))
        (none))
      (none))
    (none))
  (some (true, ()))) := by kernel_rfl
/-- loop.example/g00548/laws.eqOp -/
theorem q_laws_eqOp (R : Run EE) (L : Loops) (x0 : d26) (x1 : d26) : @Eq (Option ((Bool × Unit))) (bodyK EE R L 182 [⟨t5, x0⟩, ⟨t5, x1⟩]) (
  cond (!(Go.Rf.eqI x0.1 x1.1))
  (some (false, ()))
  (cond (!(Go.Rf.eqI x0.2.1 x1.2.1))
    (some (false, ()))
    (cond (!(Go.Rf.eqI x0.2.2.1 x1.2.2.1))
      (some (false, ()))
      (some (true, ()))))) := by kernel_rfl
/-- loop.example/g00548/laws.eqOpS -/
theorem q_laws_eqOpS (R : Run EE) (L : Loops) (x0 : List (d26)) (x1 : List (d26)) : @Eq (Option ((Bool × Unit))) (bodyK EE R L 150 [⟨(.sl t5), x0⟩, ⟨(.sl t5), x1⟩]) (
  cond (!(Go.Rf.eqI (((List.length x0) : Nat) : Int) (((List.length x1) : Nat) : Int)))
  (some (false, ()))
  (lp_laws_eqOpS_0 R L x0 x1 false (0 : Int))) := by kernel_rfl
theorem q_laws_eqOpS_0 (R : Run EE) (L : Loops) (v0 : List (d26)) (v1 : List (d26)) (v4 : Bool) (v5 : Int) : @Eq (Option ((Bool × Unit))) (from_ EE R L 150 Go.Proofs.Tryz.f150 [1, 1, 0, 1, 0, 0] (mk 27 [(0, .dat ⟨(.sl t5), v0, .sh⟩), (1, .dat ⟨(.sl t5), v1, .sh⟩), (4, .dat ⟨.bool, v4, .sh⟩), (5, .dat ⟨(.int .i64), v5, .sh⟩)])) (
  cond (decide (v5 < (((List.length v0) : Nat) : Int)))
  (cond (Go.Rf.nonneg v5)
    (cond (Nat.blt (Int.toNat v5) (List.length v0))
      (cond (Go.Rf.nonneg v5)
        (cond (Nat.blt (Int.toNat v5) (List.length v1))
          ((c_laws_eqOp R (List.getD v0 (Int.toNat v5) ((0 : Int), ((0 : Int), ((0 : Int), ())))) (List.getD v1 (Int.toNat v5) ((0 : Int), ((0 : Int), ((0 : Int), ()))))).bind fun r0 =>
            cond (!r0.1)
            (some (false, ()))
            (lp_laws_eqOpS_0 R L v0 v1 v4 (Go.IntKind.wrap .i64 (v5 + (1 : Int)))))
          (none))
        (none))
      (none))
    (none))
  (some (true, ()))) := by kernel_rfl
/-- loop.example/g00548/laws.eqTxn -/
theorem q_laws_eqTxn (R : Run EE) (L : Loops) (x0 : (List (d26) × Unit)) (x1 : (List (d26) × Unit)) : @Eq (Option ((Bool × Unit))) (bodyK EE R L 100 [⟨(.pair (.sl t5) .unit), x0⟩, ⟨(.pair (.sl t5) .unit), x1⟩]) (
  (c_laws_eqOpS R x0.1 x1.1).bind fun r0 =>
  cond (!r0.1)
  (some (false, ()))
  (some (true, ()))) := by kernel_rfl
/-- loop.example/g00548/laws.eqTxnS -/
theorem q_laws_eqTxnS (R : Run EE) (L : Loops) (x0 : List ((List (d26) × Unit))) (x1 : List ((List (d26) × Unit))) : @Eq (Option ((Bool × Unit))) (bodyK EE R L 47 [⟨(.sl (.pair (.sl t5) .unit)), x0⟩, ⟨(.sl (.pair (.sl t5) .unit)), x1⟩]) (
  cond (!(Go.Rf.eqI (((List.length x0) : Nat) : Int) (((List.length x1) : Nat) : Int)))
  (some (false, ()))
  (lp_laws_eqTxnS_0 R L x0 x1 false (0 : Int))) := by kernel_rfl
theorem q_laws_eqTxnS_0 (R : Run EE) (L : Loops) (v0 : List ((List (d26) × Unit))) (v1 : List ((List (d26) × Unit))) (v4 : Bool) (v5 : Int) : @Eq (Option ((Bool × Unit))) (from_ EE R L 47 Go.Proofs.Tryz.f47 [1, 1, 0, 1, 0, 0] (mk 27 [(0, .dat ⟨(.sl (.pair (.sl t5) .unit)), v0, .sh⟩), (1, .dat ⟨(.sl (.pair (.sl t5) .unit)), v1, .sh⟩), (4, .dat ⟨.bool, v4, .sh⟩), (5, .dat ⟨(.int .i64), v5, .sh⟩)])) (
  cond (decide (v5 < (((List.length v0) : Nat) : Int)))
  (cond (Go.Rf.nonneg v5)
    (cond (Nat.blt (Int.toNat v5) (List.length v0))
      (cond (Go.Rf.nonneg v5)
        (cond (Nat.blt (Int.toNat v5) (List.length v1))
          ((c_laws_eqTxn R (List.getD v0 (Int.toNat v5) (([] : List (d26)), ())) (List.getD v1 (Int.toNat v5) (([] : List (d26)), ()))).bind fun r0 =>
            cond (!r0.1)
            (some (false, ()))
            (lp_laws_eqTxnS_0 R L v0 v1 v4 (Go.IntKind.wrap .i64 (v5 + (1 : Int)))))
          (none))
        (none))
      (none))
    (none))
  (some (true, ()))) := by kernel_rfl
/-- loop.example/g00548/laws.eqTxnSS -/
theorem q_laws_eqTxnSS (R : Run EE) (L : Loops) (x0 : List (List ((List (d26) × Unit)))) (x1 : List (List ((List (d26) × Unit)))) : @Eq (Option ((Bool × Unit))) (bodyK EE R L 36 [⟨(.sl (.sl (.pair (.sl t5) .unit))), x0⟩, ⟨(.sl (.sl (.pair (.sl t5) .unit))), x1⟩]) (
  cond (!(Go.Rf.eqI (((List.length x0) : Nat) : Int) (((List.length x1) : Nat) : Int)))
  (some (false, ()))
  (lp_laws_eqTxnSS_0 R L x0 x1 false (0 : Int))) := by kernel_rfl
theorem q_laws_eqTxnSS_0 (R : Run EE) (L : Loops) (v0 : List (List ((List (d26) × Unit)))) (v1 : List (List ((List (d26) × Unit)))) (v4 : Bool) (v5 : Int) : @Eq (Option ((Bool × Unit))) (from_ EE R L 36 Go.Proofs.Tryz.f36 [1, 1, 0, 1, 0, 0] (mk 27 [(0, .dat ⟨(.sl (.sl (.pair (.sl t5) .unit))), v0, .sh⟩), (1, .dat ⟨(.sl (.sl (.pair (.sl t5) .unit))), v1, .sh⟩), (4, .dat ⟨.bool, v4, .sh⟩), (5, .dat ⟨(.int .i64), v5, .sh⟩)])) (
  cond (decide (v5 < (((List.length v0) : Nat) : Int)))
  (cond (Go.Rf.nonneg v5)
    (cond (Nat.blt (Int.toNat v5) (List.length v0))
      (cond (Go.Rf.nonneg v5)
        (cond (Nat.blt (Int.toNat v5) (List.length v1))
          ((c_laws_eqTxnS R (List.getD v0 (Int.toNat v5) ([] : List ((List (d26) × Unit)))) (List.getD v1 (Int.toNat v5) ([] : List ((List (d26) × Unit))))).bind fun r0 =>
            cond (!r0.1)
            (some (false, ()))
            (lp_laws_eqTxnSS_0 R L v0 v1 v4 (Go.IntKind.wrap .i64 (v5 + (1 : Int)))))
          (none))
        (none))
      (none))
    (none))
  (some (true, ()))) := by kernel_rfl
/-- loop.example/g00548/laws.eqIntS -/
theorem q_laws_eqIntS (R : Run EE) (L : Loops) (x0 : List (Int)) (x1 : List (Int)) : @Eq (Option ((Bool × Unit))) (bodyK EE R L 48 [⟨(.sl (.int .i64)), x0⟩, ⟨(.sl (.int .i64)), x1⟩]) (
  cond (!(Go.Rf.eqI (((List.length x0) : Nat) : Int) (((List.length x1) : Nat) : Int)))
  (some (false, ()))
  (lp_laws_eqIntS_0 R L x0 x1 false (0 : Int))) := by kernel_rfl
theorem q_laws_eqIntS_0 (R : Run EE) (L : Loops) (v0 : List (Int)) (v1 : List (Int)) (v4 : Bool) (v5 : Int) : @Eq (Option ((Bool × Unit))) (from_ EE R L 48 Go.Proofs.Tryz.f48 [1, 1, 0, 1, 0, 0] (mk 26 [(0, .dat ⟨(.sl (.int .i64)), v0, .sh⟩), (1, .dat ⟨(.sl (.int .i64)), v1, .sh⟩), (4, .dat ⟨.bool, v4, .sh⟩), (5, .dat ⟨(.int .i64), v5, .sh⟩)])) (
  cond (decide (v5 < (((List.length v0) : Nat) : Int)))
  (cond (Go.Rf.nonneg v5)
    (cond (Nat.blt (Int.toNat v5) (List.length v0))
      (cond (Go.Rf.nonneg v5)
        (cond (Nat.blt (Int.toNat v5) (List.length v1))
          (cond (!(Go.Rf.eqI (List.getD v0 (Int.toNat v5) (0 : Int)) (List.getD v1 (Int.toNat v5) (0 : Int))))
            (some (false, ()))
            (lp_laws_eqIntS_0 R L v0 v1 v4 (Go.IntKind.wrap .i64 (v5 + (1 : Int)))))
          (none))
        (none))
      (none))
    (none))
  (some (true, ()))) := by kernel_rfl
/-- loop.example/g00548/laws.eqResult -/
theorem q_laws_eqResult (R : Run EE) (L : Loops) (x0 : d27) (x1 : d27) : @Eq (Option ((Bool × Unit))) (bodyK EE R L 84 [⟨t6, x0⟩, ⟨t6, x1⟩]) (
  cond (!(Go.Rf.eqI x0.1 x1.1))
  (some (false, ()))
  ((c_laws_eqIntS R x0.2.1 x1.2.1).bind fun r0 =>
    cond (!r0.1)
    (some (false, ()))
    (some (true, ())))) := by kernel_rfl
/-- loop.example/g00548/laws.eqResultS -/
theorem q_laws_eqResultS (R : Run EE) (L : Loops) (x0 : List (d27)) (x1 : List (d27)) : @Eq (Option ((Bool × Unit))) (bodyK EE R L 37 [⟨(.sl t6), x0⟩, ⟨(.sl t6), x1⟩]) (
  cond (!(Go.Rf.eqI (((List.length x0) : Nat) : Int) (((List.length x1) : Nat) : Int)))
  (some (false, ()))
  (lp_laws_eqResultS_0 R L x0 x1 false (0 : Int))) := by kernel_rfl
theorem q_laws_eqResultS_0 (R : Run EE) (L : Loops) (v0 : List (d27)) (v1 : List (d27)) (v4 : Bool) (v5 : Int) : @Eq (Option ((Bool × Unit))) (from_ EE R L 37 Go.Proofs.Tryz.f37 [1, 1, 0, 1, 0, 0] (mk 27 [(0, .dat ⟨(.sl t6), v0, .sh⟩), (1, .dat ⟨(.sl t6), v1, .sh⟩), (4, .dat ⟨.bool, v4, .sh⟩), (5, .dat ⟨(.int .i64), v5, .sh⟩)])) (
  cond (decide (v5 < (((List.length v0) : Nat) : Int)))
  (cond (Go.Rf.nonneg v5)
    (cond (Nat.blt (Int.toNat v5) (List.length v0))
      (cond (Go.Rf.nonneg v5)
        (cond (Nat.blt (Int.toNat v5) (List.length v1))
          ((c_laws_eqResult R (List.getD v0 (Int.toNat v5) ((0 : Int), (([] : List (Int)), ()))) (List.getD v1 (Int.toNat v5) ((0 : Int), (([] : List (Int)), ())))).bind fun r0 =>
            cond (!r0.1)
            (some (false, ()))
            (lp_laws_eqResultS_0 R L v0 v1 v4 (Go.IntKind.wrap .i64 (v5 + (1 : Int)))))
          (none))
        (none))
      (none))
    (none))
  (some (true, ()))) := by kernel_rfl
/-- loop.example/g00548/laws.eqWorld -/
theorem q_laws_eqWorld (R : Run EE) (L : Loops) (x0 : d28) (x1 : d28) : @Eq (Option ((Bool × Unit))) (bodyK EE R L 10 [⟨t7, x0⟩, ⟨t7, x1⟩]) (
  (c_laws_eqStore R x0.1 x1.1).bind fun r0 =>
  cond (!r0.1)
  (some (false, ()))
  ((c_laws_eqDevice R x0.2.1 x1.2.1).bind fun r1 =>
    cond (!r1.1)
    (some (false, ()))
    ((c_laws_eqEntryS R x0.2.2.1 x1.2.2.1).bind fun r2 =>
      cond (!r2.1)
      (some (false, ()))
      ((c_laws_eqTxnSS R x0.2.2.2.1 x1.2.2.2.1).bind fun r3 =>
        cond (!r3.1)
        (some (false, ()))
        ((c_laws_eqResultS R x0.2.2.2.2.1 x1.2.2.2.2.1).bind fun r4 =>
          cond (!r4.1)
          (some (false, ()))
          (cond (!(Go.Rf.eqB x0.2.2.2.2.2.1 x1.2.2.2.2.2.1))
            (some (false, ()))
            (some (true, ())))))))) := by kernel_rfl
/-- loop.example/g00548/laws.markText -/
theorem q_laws_markText (R : Run EE) (L : Loops) (x0 : Int) : @Eq (Option ((List UInt8 × Unit))) (bodyK EE R L 43 [⟨(.int .i64), x0⟩]) (
  cond (decide (x0 ≤ (0 : Int)))
  (some (((109 : UInt8) :: ((48 : UInt8) :: ([] : List (UInt8)))), ()))
  (lp_laws_markText_0 R L x0 ([] : List (UInt8)) ([] : List (UInt8)))) := by kernel_rfl
theorem q_laws_markText_0 (R : Run EE) (L : Loops) (v0 : Int) (v2 : List UInt8) (v3 : List UInt8) : @Eq (Option ((List UInt8 × Unit))) (from_ EE R L 43 Go.Proofs.Tryz.f43 [1, 1, 1, 0, 0, 0] (mk 20 [(0, .dat ⟨(.int .i64), v0, .sh⟩), (2, .dat ⟨.str, v2, .sh⟩), (3, .dat ⟨.str, v3, .sh⟩)])) (
  cond (decide ((0 : Int) < v0))
  (cond (Go.Rf.lenOK ((List.length (List.map (fun (n : Int) => (UInt8.ofNat (Int.toNat n))) ((Go.IntKind.wrap .u8 (Go.IntKind.wrap .i64 ((48 : Int) + (Int.tmod v0 (10 : Int))))) :: ([] : List (Int))))) + (List.length v3)))
    (lp_laws_markText_0 R L (Go.IntKind.wrap .i64 (Int.tdiv v0 (10 : Int))) v2 ((List.map (fun (n : Int) => (UInt8.ofNat (Int.toNat n))) ((Go.IntKind.wrap .u8 (Go.IntKind.wrap .i64 ((48 : Int) + (Int.tmod v0 (10 : Int))))) :: ([] : List (Int)))) ++ v3))
    (none))
  (cond (Go.Rf.lenOK ((List.length ((109 : UInt8) :: ([] : List (UInt8)))) + (List.length v3)))
    (some ((((109 : UInt8) :: ([] : List (UInt8))) ++ v3), ()))
    (none))) := by kernel_rfl
/-- loop.example/g00548/laws.markStringS -/
theorem q_laws_markStringS (R : Run EE) (L : Loops) (x0 : List (List UInt8)) (x1 : Int) : @Eq (Option (d36)) (bodyK EE R L 12 [⟨(.sl .str), x0⟩, ⟨(.int .i64), x1⟩]) (
  lp_laws_markStringS_0 R L x0 x1 (0 : Int) (0 : Int)) := by kernel_rfl
theorem q_laws_markStringS_0 (R : Run EE) (L : Loops) (v0 : List (List UInt8)) (v1 : Int) (v4 : Int) (v5 : Int) : @Eq (Option (d36)) (from_ EE R L 12 Go.Proofs.Tryz.f12 [1, 0, 1, 0, 0] (mk 20 [(0, .dat ⟨(.sl .str), v0, (.pin 0 (.own .sh))⟩), (1, .dat ⟨(.int .i64), v1, .sh⟩), (4, .dat ⟨(.int .i64), v4, .sh⟩), (5, .dat ⟨(.int .i64), v5, .sh⟩)])) (
  cond (decide (v5 < (((List.length v0) : Nat) : Int)))
  ((c_laws_markText R v1).bind fun r0 =>
    cond (Go.Rf.nonneg v5)
    (cond (Nat.blt (Int.toNat v5) (List.length v0))
      (lp_laws_markStringS_0 R L (List.set v0 (Int.toNat v5) r0.1) (Go.IntKind.wrap .i64 (v1 + (1 : Int))) v4 (Go.IntKind.wrap .i64 (v5 + (1 : Int))))
      (none))
    (none))
  (some (v1, (v0, ())))) := by kernel_rfl
/-- loop.example/g00548/laws.markIoS -/
theorem q_laws_markIoS (R : Run EE) (L : Loops) (x0 : List (d23)) (x1 : Int) : @Eq (Option (d37)) (bodyK EE R L 85 [⟨(.sl t1), x0⟩, ⟨(.int .i64), x1⟩]) (
  lp_laws_markIoS_0 R L x0 x1 (0 : Int) (0 : Int)) := by kernel_rfl
theorem q_laws_markIoS_0 (R : Run EE) (L : Loops) (v0 : List (d23)) (v1 : Int) (v4 : Int) (v5 : Int) : @Eq (Option (d37)) (from_ EE R L 85 Go.Proofs.Tryz.f85 [1, 0, 1, 0, 0] (mk 28 [(0, .dat ⟨(.sl t1), v0, (.pin 0 (.own .sh))⟩), (1, .dat ⟨(.int .i64), v1, .sh⟩), (4, .dat ⟨(.int .i64), v4, .sh⟩), (5, .dat ⟨(.int .i64), v5, .sh⟩)])) (
  cond (decide (v5 < (((List.length v0) : Nat) : Int)))
  (cond (Go.Rf.nonneg v5)
    (cond (Nat.blt (Int.toNat v5) (List.length v0))
      ((c_laws_markText R (Go.IntKind.wrap .i64 (v1 + (1 : Int)))).bind fun r0 =>
        cond (Go.Rf.nonneg v5)
        (cond (Nat.blt (Int.toNat v5) (List.length (List.set v0 (Int.toNat v5) (v1, (List.getD v0 (Int.toNat v5) ((0 : Int), (([] : List (UInt8)), ()))).2))))
          (lp_laws_markIoS_0 R L (List.set (List.set v0 (Int.toNat v5) (v1, (List.getD v0 (Int.toNat v5) ((0 : Int), (([] : List (UInt8)), ()))).2)) (Int.toNat v5) ((List.getD (List.set v0 (Int.toNat v5) (v1, (List.getD v0 (Int.toNat v5) ((0 : Int), (([] : List (UInt8)), ()))).2)) (Int.toNat v5) ((0 : Int), (([] : List (UInt8)), ()))).1, (r0.1, (List.getD (List.set v0 (Int.toNat v5) (v1, (List.getD v0 (Int.toNat v5) ((0 : Int), (([] : List (UInt8)), ()))).2)) (Int.toNat v5) ((0 : Int), (([] : List (UInt8)), ()))).2.2))) (Go.IntKind.wrap .i64 ((Go.IntKind.wrap .i64 (v1 + (1 : Int))) + (1 : Int))) v4 (Go.IntKind.wrap .i64 (v5 + (1 : Int))))
          (none))
        (none))
      (none))
    (none))
  (some (v1, (v0, ())))) := by kernel_rfl
/-- loop.example/g00548/laws.markDevice -/
theorem q_laws_markDevice (R : Run EE) (L : Loops) (x0 : d24) (x1 : Int) : @Eq (Option ((Int × (d24 × Unit)))) (bodyK EE R L 39 [⟨t2, x0⟩, ⟨(.int .i64), x1⟩]) (
  (c_laws_markStringS R x0.1 x1).bind fun r0 =>
  (c_laws_markIoS R x0.2.1 r0.1).bind fun r1 =>
  some (r1.1, ((r0.2.1, (r1.2.1, x0.2.2)), ()))) := by kernel_rfl
/-- loop.example/g00548/laws.markStore -/
theorem q_laws_markStore (R : Run EE) (L : Loops) (x0 : d25) (x1 : Int) : @Eq (Option ((Int × (d25 × Unit)))) (bodyK EE R L 38 [⟨t3, x0⟩, ⟨(.int .i64), x1⟩]) (
  (c_laws_markDevice R x0.2.2.1 x1).bind fun r0 =>
  some (r0.1, ((x0.1, (x0.2.1, (r0.2.1, x0.2.2.2))), ()))) := by kernel_rfl
/-- loop.example/g00548/laws.markEntryS -/
theorem q_laws_markEntryS (R : Run EE) (L : Loops) (x0 : List ((Int × (Int × Unit)))) (x1 : Int) : @Eq (Option (d38)) (bodyK EE R L 40 [⟨(.sl t4), x0⟩, ⟨(.int .i64), x1⟩]) (
  lp_laws_markEntryS_0 R L x0 x1 (0 : Int) (0 : Int)) := by kernel_rfl
theorem q_laws_markEntryS_0 (R : Run EE) (L : Loops) (v0 : List ((Int × (Int × Unit)))) (v1 : Int) (v4 : Int) (v5 : Int) : @Eq (Option (d38)) (from_ EE R L 40 Go.Proofs.Tryz.f40 [1, 0, 1, 0, 0] (mk 27 [(0, .dat ⟨(.sl t4), v0, (.pin 0 (.own .sh))⟩), (1, .dat ⟨(.int .i64), v1, .sh⟩), (4, .dat ⟨(.int .i64), v4, .sh⟩), (5, .dat ⟨(.int .i64), v5, .sh⟩)])) (
  cond (decide (v5 < (((List.length v0) : Nat) : Int)))
  (cond (Go.Rf.nonneg v5)
    (cond (Nat.blt (Int.toNat v5) (List.length v0))
      (cond (Go.Rf.nonneg v5)
        (cond (Nat.blt (Int.toNat v5) (List.length (List.set v0 (Int.toNat v5) (v1, (List.getD v0 (Int.toNat v5) ((0 : Int), ((0 : Int), ()))).2))))
          (lp_laws_markEntryS_0 R L (List.set (List.set v0 (Int.toNat v5) (v1, (List.getD v0 (Int.toNat v5) ((0 : Int), ((0 : Int), ()))).2)) (Int.toNat v5) ((List.getD (List.set v0 (Int.toNat v5) (v1, (List.getD v0 (Int.toNat v5) ((0 : Int), ((0 : Int), ()))).2)) (Int.toNat v5) ((0 : Int), ((0 : Int), ()))).1, ((Go.IntKind.wrap .i64 (v1 + (1 : Int))), (List.getD (List.set v0 (Int.toNat v5) (v1, (List.getD v0 (Int.toNat v5) ((0 : Int), ((0 : Int), ()))).2)) (Int.toNat v5) ((0 : Int), ((0 : Int), ()))).2.2))) (Go.IntKind.wrap .i64 ((Go.IntKind.wrap .i64 (v1 + (1 : Int))) + (1 : Int))) v4 (Go.IntKind.wrap .i64 (v5 + (1 : Int))))
          (none))
        (none))
      (none))
    (none))
  (some (v1, (v0, ())))) := by kernel_rfl
/-- loop.example/g00548/laws.markOpS -/
theorem q_laws_markOpS (R : Run EE) (L : Loops) (x0 : List (d26)) (x1 : Int) : @Eq (Option (d39)) (bodyK EE R L 101 [⟨(.sl t5), x0⟩, ⟨(.int .i64), x1⟩]) (
  lp_laws_markOpS_0 R L x0 x1 (0 : Int) (0 : Int)) := by kernel_rfl
theorem q_laws_markOpS_0 (R : Run EE) (L : Loops) (v0 : List (d26)) (v1 : Int) (v4 : Int) (v5 : Int) : @Eq (Option (d39)) (from_ EE R L 101 Go.Proofs.Tryz.f101 [1, 0, 1, 0, 0] (mk 34 [(0, .dat ⟨(.sl t5), v0, (.pin 0 (.own .sh))⟩), (1, .dat ⟨(.int .i64), v1, .sh⟩), (4, .dat ⟨(.int .i64), v4, .sh⟩), (5, .dat ⟨(.int .i64), v5, .sh⟩)])) (
  cond (decide (v5 < (((List.length v0) : Nat) : Int)))
  (cond (Go.Rf.nonneg v5)
    (cond (Nat.blt (Int.toNat v5) (List.length v0))
      (cond (Go.Rf.nonneg v5)
        (cond (Nat.blt (Int.toNat v5) (List.length (List.set v0 (Int.toNat v5) (v1, (List.getD v0 (Int.toNat v5) ((0 : Int), ((0 : Int), ((0 : Int), ())))).2))))
          (cond (Go.Rf.nonneg v5)
            (cond (Nat.blt (Int.toNat v5) (List.length (List.set (List.set v0 (Int.toNat v5) (v1, (List.getD v0 (Int.toNat v5) ((0 : Int), ((0 : Int), ((0 : Int), ())))).2)) (Int.toNat v5) ((List.getD (List.set v0 (Int.toNat v5) (v1, (List.getD v0 (Int.toNat v5) ((0 : Int), ((0 : Int), ((0 : Int), ())))).2)) (Int.toNat v5) ((0 : Int), ((0 : Int), ((0 : Int), ())))).1, ((Go.IntKind.wrap .i64 (v1 + (1 : Int))), (List.getD (List.set v0 (Int.toNat v5) (v1, (List.getD v0 (Int.toNat v5) ((0 : Int), ((0 : Int), ((0 : Int), ())))).2)) (Int.toNat v5) ((0 : Int), ((0 : Int), ((0 : Int), ())))).2.2)))))
              (lp_laws_markOpS_0 R L (List.set (List.set (List.set v0 (Int.toNat v5) (v1, (List.getD v0 (Int.toNat v5) ((0 : Int), ((0 : Int), ((0 : Int), ())))).2)) (Int.toNat v5) ((List.getD (List.set v0 (Int.toNat v5) (v1, (List.getD v0 (Int.toNat v5) ((0 : Int), ((0 : Int), ((0 : Int), ())))).2)) (Int.toNat v5) ((0 : Int), ((0 : Int), ((0 : Int), ())))).1, ((Go.IntKind.wrap .i64 (v1 + (1 : Int))), (List.getD (List.set v0 (Int.toNat v5) (v1, (List.getD v0 (Int.toNat v5) ((0 : Int), ((0 : Int), ((0 : Int), ())))).2)) (Int.toNat v5) ((0 : Int), ((0 : Int), ((0 : Int), ())))).2.2))) (Int.toNat v5) ((List.getD (List.set (List.set v0 (Int.toNat v5) (v1, (List.getD v0 (Int.toNat v5) ((0 : Int), ((0 : Int), ((0 : Int), ())))).2)) (Int.toNat v5) ((List.getD (List.set v0 (Int.toNat v5) (v1, (List.getD v0 (Int.toNat v5) ((0 : Int), ((0 : Int), ((0 : Int), ())))).2)) (Int.toNat v5) ((0 : Int), ((0 : Int), ((0 : Int), ())))).1, ((Go.IntKind.wrap .i64 (v1 + (1 : Int))), (List.getD (List.set v0 (Int.toNat v5) (v1, (List.getD v0 (Int.toNat v5) ((0 : Int), ((0 : Int), ((0 : Int), ())))).2)) (Int.toNat v5) ((0 : Int), ((0 : Int), ((0 : Int), ())))).2.2))) (Int.toNat v5) ((0 : Int), ((0 : Int), ((0 : Int), ())))).1, ((List.getD (List.set (List.set v0 (Int.toNat v5) (v1, (List.getD v0 (Int.toNat v5) ((0 : Int), ((0 : Int), ((0 : Int), ())))).2)) (Int.toNat v5) ((List.getD (List.set v0 (Int.toNat v5) (v1, (List.getD v0 (Int.toNat v5) ((0 : Int), ((0 : Int), ((0 : Int), ())))).2)) (Int.toNat v5) ((0 : Int), ((0 : Int), ((0 : Int), ())))).1, ((Go.IntKind.wrap .i64 (v1 + (1 : Int))), (List.getD (List.set v0 (Int.toNat v5) (v1, (List.getD v0 (Int.toNat v5) ((0 : Int), ((0 : Int), ((0 : Int), ())))).2)) (Int.toNat v5) ((0 : Int), ((0 : Int), ((0 : Int), ())))).2.2))) (Int.toNat v5) ((0 : Int), ((0 : Int), ((0 : Int), ())))).2.1, ((Go.IntKind.wrap .i64 ((Go.IntKind.wrap .i64 (v1 + (1 : Int))) + (1 : Int))), (List.getD (List.set (List.set v0 (Int.toNat v5) (v1, (List.getD v0 (Int.toNat v5) ((0 : Int), ((0 : Int), ((0 : Int), ())))).2)) (Int.toNat v5) ((List.getD (List.set v0 (Int.toNat v5) (v1, (List.getD v0 (Int.toNat v5) ((0 : Int), ((0 : Int), ((0 : Int), ())))).2)) (Int.toNat v5) ((0 : Int), ((0 : Int), ((0 : Int), ())))).1, ((Go.IntKind.wrap .i64 (v1 + (1 : Int))), (List.getD (List.set v0 (Int.toNat v5) (v1, (List.getD v0 (Int.toNat v5) ((0 : Int), ((0 : Int), ((0 : Int), ())))).2)) (Int.toNat v5) ((0 : Int), ((0 : Int), ((0 : Int), ())))).2.2))) (Int.toNat v5) ((0 : Int), ((0 : Int), ((0 : Int), ())))).2.2.2)))) (Go.IntKind.wrap .i64 ((Go.IntKind.wrap .i64 ((Go.IntKind.wrap .i64 (v1 + (1 : Int))) + (1 : Int))) + (1 : Int))) v4 (Go.IntKind.wrap .i64 (v5 + (1 : Int))))
              (none))
            (none))
          (none))
        (none))
      (none))
    (none))
  (some (v1, (v0, ())))) := by kernel_rfl
/-- loop.example/g00548/laws.markTxnS -/
theorem q_laws_markTxnS (R : Run EE) (L : Loops) (x0 : List ((List (d26) × Unit))) (x1 : Int) : @Eq (Option (d40)) (bodyK EE R L 49 [⟨(.sl (.pair (.sl t5) .unit)), x0⟩, ⟨(.int .i64), x1⟩]) (
  lp_laws_markTxnS_0 R L x0 x1 (0 : Int) (0 : Int)) := by kernel_rfl
theorem q_laws_markTxnS_0 (R : Run EE) (L : Loops) (v0 : List ((List (d26) × Unit))) (v1 : Int) (v4 : Int) (v5 : Int) : @Eq (Option (d40)) (from_ EE R L 49 Go.Proofs.Tryz.f49 [1, 0, 1, 0, 0] (mk 20 [(0, .dat ⟨(.sl (.pair (.sl t5) .unit)), v0, (.pin 0 (.own (.pr (.own .sh) .sh)))⟩), (1, .dat ⟨(.int .i64), v1, .sh⟩), (4, .dat ⟨(.int .i64), v4, .sh⟩), (5, .dat ⟨(.int .i64), v5, .sh⟩)])) (
  cond (decide (v5 < (((List.length v0) : Nat) : Int)))
  (cond (Go.Rf.nonneg v5)
    (cond (Nat.blt (Int.toNat v5) (List.length v0))
      ((c_laws_markOpS R (List.getD v0 (Int.toNat v5) (([] : List (d26)), ())).1 v1).bind fun r0 =>
        lp_laws_markTxnS_0 R L (List.set v0 (Int.toNat v5) (r0.2.1, (List.getD v0 (Int.toNat v5) (([] : List (d26)), ())).2)) r0.1 v4 (Go.IntKind.wrap .i64 (v5 + (1 : Int))))
      (none))
    (none))
  (some (v1, (v0, ())))) := by kernel_rfl
/-- loop.example/g00548/laws.markTxnSS -/
theorem q_laws_markTxnSS (R : Run EE) (L : Loops) (x0 : List (List ((List (d26) × Unit)))) (x1 : Int) : @Eq (Option (d41)) (bodyK EE R L 41 [⟨(.sl (.sl (.pair (.sl t5) .unit))), x0⟩, ⟨(.int .i64), x1⟩]) (
  lp_laws_markTxnSS_0 R L x0 x1 (0 : Int) (0 : Int)) := by kernel_rfl
theorem q_laws_markTxnSS_0 (R : Run EE) (L : Loops) (v0 : List (List ((List (d26) × Unit)))) (v1 : Int) (v4 : Int) (v5 : Int) : @Eq (Option (d41)) (from_ EE R L 41 Go.Proofs.Tryz.f41 [1, 0, 1, 0, 0] (mk 19 [(0, .dat ⟨(.sl (.sl (.pair (.sl t5) .unit))), v0, (.pin 0 (.own (.own (.pr (.own .sh) .sh))))⟩), (1, .dat ⟨(.int .i64), v1, .sh⟩), (4, .dat ⟨(.int .i64), v4, .sh⟩), (5, .dat ⟨(.int .i64), v5, .sh⟩)])) (
  cond (decide (v5 < (((List.length v0) : Nat) : Int)))
  (cond (Go.Rf.nonneg v5)
    (cond (Nat.blt (Int.toNat v5) (List.length v0))
      ((c_laws_markTxnS R (List.getD v0 (Int.toNat v5) ([] : List ((List (d26) × Unit)))) v1).bind fun r0 =>
        lp_laws_markTxnSS_0 R L (List.set v0 (Int.toNat v5) r0.2.1) r0.1 v4 (Go.IntKind.wrap .i64 (v5 + (1 : Int))))
      (none))
    (none))
  (some (v1, (v0, ())))) := by kernel_rfl
/-- loop.example/g00548/laws.markIntS -/
theorem q_laws_markIntS (R : Run EE) (L : Loops) (x0 : List (Int)) (x1 : Int) : @Eq (Option (d27)) (bodyK EE R L 50 [⟨(.sl (.int .i64)), x0⟩, ⟨(.int .i64), x1⟩]) (
  lp_laws_markIntS_0 R L x0 x1 (0 : Int) (0 : Int)) := by kernel_rfl
theorem q_laws_markIntS_0 (R : Run EE) (L : Loops) (v0 : List (Int)) (v1 : Int) (v4 : Int) (v5 : Int) : @Eq (Option (d27)) (from_ EE R L 50 Go.Proofs.Tryz.f50 [1, 0, 1, 0, 0] (mk 19 [(0, .dat ⟨(.sl (.int .i64)), v0, (.pin 0 (.own .sh))⟩), (1, .dat ⟨(.int .i64), v1, .sh⟩), (4, .dat ⟨(.int .i64), v4, .sh⟩), (5, .dat ⟨(.int .i64), v5, .sh⟩)])) (
  cond (decide (v5 < (((List.length v0) : Nat) : Int)))
  (cond (Go.Rf.nonneg v5)
    (cond (Nat.blt (Int.toNat v5) (List.length v0))
      (lp_laws_markIntS_0 R L (List.set v0 (Int.toNat v5) v1) (Go.IntKind.wrap .i64 (v1 + (1 : Int))) v4 (Go.IntKind.wrap .i64 (v5 + (1 : Int))))
      (none))
    (none))
  (some (v1, (v0, ())))) := by kernel_rfl
/-- loop.example/g00548/laws.markResultS -/
theorem q_laws_markResultS (R : Run EE) (L : Loops) (x0 : List (d27)) (x1 : Int) : @Eq (Option (d42)) (bodyK EE R L 42 [⟨(.sl t6), x0⟩, ⟨(.int .i64), x1⟩]) (
  lp_laws_markResultS_0 R L x0 x1 (0 : Int) (0 : Int)) := by kernel_rfl
theorem q_laws_markResultS_0 (R : Run EE) (L : Loops) (v0 : List (d27)) (v1 : Int) (v4 : Int) (v5 : Int) : @Eq (Option (d42)) (from_ EE R L 42 Go.Proofs.Tryz.f42 [1, 0, 1, 0, 0] (mk 27 [(0, .dat ⟨(.sl t6), v0, (.pin 0 (.own (.pr .sh (.pr (.own .sh) .sh))))⟩), (1, .dat ⟨(.int .i64), v1, .sh⟩), (4, .dat ⟨(.int .i64), v4, .sh⟩), (5, .dat ⟨(.int .i64), v5, .sh⟩)])) (
  cond (decide (v5 < (((List.length v0) : Nat) : Int)))
  (cond (Go.Rf.nonneg v5)
    (cond (Nat.blt (Int.toNat v5) (List.length v0))
      (cond (Go.Rf.nonneg v5)
        (cond (Nat.blt (Int.toNat v5) (List.length (List.set v0 (Int.toNat v5) (v1, (List.getD v0 (Int.toNat v5) ((0 : Int), (([] : List (Int)), ()))).2))))
          ((c_laws_markIntS R (List.getD (List.set v0 (Int.toNat v5) (v1, (List.getD v0 (Int.toNat v5) ((0 : Int), (([] : List (Int)), ()))).2)) (Int.toNat v5) ((0 : Int), (([] : List (Int)), ()))).2.1 (Go.IntKind.wrap .i64 (v1 + (1 : Int)))).bind fun r0 =>
            lp_laws_markResultS_0 R L (List.set (List.set v0 (Int.toNat v5) (v1, (List.getD v0 (Int.toNat v5) ((0 : Int), (([] : List (Int)), ()))).2)) (Int.toNat v5) ((List.getD (List.set v0 (Int.toNat v5) (v1, (List.getD v0 (Int.toNat v5) ((0 : Int), (([] : List (Int)), ()))).2)) (Int.toNat v5) ((0 : Int), (([] : List (Int)), ()))).1, (r0.2.1, (List.getD (List.set v0 (Int.toNat v5) (v1, (List.getD v0 (Int.toNat v5) ((0 : Int), (([] : List (Int)), ()))).2)) (Int.toNat v5) ((0 : Int), (([] : List (Int)), ()))).2.2))) r0.1 v4 (Go.IntKind.wrap .i64 (v5 + (1 : Int))))
          (none))
        (none))
      (none))
    (none))
  (some (v1, (v0, ())))) := by kernel_rfl
/-- loop.example/g00548/laws.markWorld -/
theorem q_laws_markWorld (R : Run EE) (L : Loops) (x0 : d28) (x1 : Int) : @Eq (Option ((Int × (d28 × Unit)))) (bodyK EE R L 11 [⟨t7, x0⟩, ⟨(.int .i64), x1⟩]) (
  (c_laws_markStore R x0.1 x1).bind fun r0 =>
  (c_laws_markDevice R x0.2.1 r0.1).bind fun r1 =>
  (c_laws_markEntryS R x0.2.2.1 r1.1).bind fun r2 =>
  (c_laws_markTxnSS R x0.2.2.2.1 r2.1).bind fun r3 =>
  (c_laws_markResultS R x0.2.2.2.2.1 r3.1).bind fun r4 =>
  some (r4.1, ((r0.2.1, (r1.2.1, (r2.2.1, (r3.2.1, (r4.2.1, x0.2.2.2.2.2))))), ()))) := by kernel_rfl
/-- loop.example/g00548/laws.heldStringS -/
theorem q_laws_heldStringS (R : Run EE) (L : Loops) (x0 : List (List UInt8)) (x1 : Int) : @Eq (Option ((Int × Unit))) (bodyK EE R L 13 [⟨(.sl .str), x0⟩, ⟨(.int .i64), x1⟩]) (
  lp_laws_heldStringS_0 R L x0 x1 (0 : Int) (0 : Int)) := by kernel_rfl
theorem q_laws_heldStringS_0 (R : Run EE) (L : Loops) (v0 : List (List UInt8)) (v1 : Int) (v4 : Int) (v5 : Int) : @Eq (Option ((Int × Unit))) (from_ EE R L 13 Go.Proofs.Tryz.f13 [1, 0, 1, 0, 0] (mk 22 [(0, .dat ⟨(.sl .str), v0, .sh⟩), (1, .dat ⟨(.int .i64), v1, .sh⟩), (4, .dat ⟨(.int .i64), v4, .sh⟩), (5, .dat ⟨(.int .i64), v5, .sh⟩)])) (
  cond (decide (v5 < (((List.length v0) : Nat) : Int)))
  (cond (Go.Rf.nonneg v5)
    (cond (Nat.blt (Int.toNat v5) (List.length v0))
      ((c_laws_markText R v1).bind fun r0 =>
        cond (!(Go.Rf.eqS (List.getD v0 (Int.toNat v5) ([] : List (UInt8))) r0.1))
        (some ((-(1 : Int)), ()))
        (lp_laws_heldStringS_0 R L v0 (Go.IntKind.wrap .i64 (v1 + (1 : Int))) v4 (Go.IntKind.wrap .i64 (v5 + (1 : Int)))))
      (none))
    (none))
  (some (v1, ()))) := by kernel_rfl
/-- loop.example/g00548/laws.FnExactWorldLines -/
theorem q_laws_FnExactWorldLines (R : Run EE) (L : Loops) (x0 : d28) : @Eq (Option ((Bool × Unit))) (bodyK EE R L 3 [⟨t7, x0⟩]) (
  (c_laws_szWorld R x0 (1048576 : Int)).bind fun r0 =>
  cond (decide (r0.1 < (0 : Int)))
  (some (true, ()))
  ((c_laws_toWorld R x0).bind fun r1 =>
    (c_spec_WorldLines R r1.1).bind fun r2 =>
    (c_laws_toWorld R x0).bind fun r3 =>
    (c_impl_WorldLines R r3.1).bind fun r4 =>
    (c_laws_eqStringS R r4.1 r2.1).bind fun r5 =>
    cond (!r5.1)
    (some (false, ()))
    (cond (!(Go.Rf.eqI r4.2.1 r2.2.1))
      (some (false, ()))
      ((c_laws_toWorld R x0).bind fun r6 =>
        (c_laws_eqWorld R r3.1 r6.1).bind fun r7 =>
        cond (!r7.1)
        (some (false, ()))
        ((c_laws_markWorld R r3.1 (1 : Int)).bind fun r8 =>
          cond (decide (r8.1 < (0 : Int)))
          (some (false, ()))
          ((c_laws_eqStringS R r4.1 r2.1).bind fun r9 =>
            cond (!r9.1)
            (some (false, ()))
            (cond (!(Go.Rf.eqI r4.2.1 r2.2.1))
              (some (false, ()))
              ((c_laws_markStringS R r4.1 (1 : Int)).bind fun r10 =>
                (c_laws_heldStringS R r10.2.1 (1 : Int)).bind fun r11 =>
                cond (decide (r11.1 < (0 : Int)))
                (some (false, ()))
                (cond (!(Go.Rf.eqI r11.1 r10.1))
                  (some (false, ()))
                  ((c_laws_toWorld R x0).bind fun r12 =>
                    (c_impl_WorldLines R r12.1).bind fun r13 =>
                    (c_laws_eqStringS R r13.1 r2.1).bind fun r14 =>
                    cond (!r14.1)
                    (some (false, ()))
                    (cond (!(Go.Rf.eqI r13.2.1 r2.2.1))
                      (some (false, ()))
                      ((c_laws_heldStringS R r10.2.1 (1 : Int)).bind fun r15 =>
                        cond (decide (r15.1 < (0 : Int)))
                        (some (false, ()))
                        (cond (!(Go.Rf.eqI r15.1 r10.1))
                          (some (false, ()))
                          (some (true, ()))))))))))))))) := by kernel_rfl

end Go.Rf.S
