import Derived.Test.YtkiejckaaipdkaaGreatProg
import Derived.KernelRfl
import Derived.Test.YtkiejckaaipdkaaGreatRfD
set_option linter.unusedVariables false
set_option linter.unusedSimpArgs false
open Go Go.Rf
set_option maxRecDepth 100000
namespace Go.Rf.S
abbrev t0 : Ty := (.pair (.int .i64) (.pair (.int .i64) (.pair (.int .i64) (.pair (.int .i64) (.pair .str (.pair .str (.pair .str .unit)))))))
abbrev t1 : Ty := (.pair (.int .i64) (.pair .str .unit))
abbrev t2 : Ty := (.pair (.sl .str) (.pair (.sl t1) .unit))
abbrev t3 : Ty := (.pair .str (.pair t0 (.pair t2 (.pair .bool (.pair .bool .unit)))))
abbrev t4 : Ty := (.pair (.int .i64) (.pair (.int .i64) .unit))
abbrev t5 : Ty := (.pair (.int .i64) (.pair (.int .i64) (.pair (.int .i64) .unit)))
abbrev t6 : Ty := (.pair (.int .i64) (.pair (.sl (.int .i64)) .unit))
abbrev t7 : Ty := (.pair t3 (.pair t2 (.pair (.sl t4) (.pair (.sl (.sl (.pair (.sl t5) .unit))) (.pair (.sl t6) (.pair .bool .unit))))))
abbrev t8 : Ty := (.pair (.pair (.sl t5) .unit) .unit)
abbrev t9 : Ty := (.pair (.sl (.pair (.sl t5) .unit)) .unit)
abbrev t10 : Ty := (.pair (.sl (.sl (.pair (.sl t5) .unit))) .unit)
abbrev d11 : Type := (Int × (Int × (Int × (Int × (List UInt8 × (List UInt8 × (List UInt8 × Unit)))))))
abbrev d12 : Type := (Int × (List UInt8 × Unit))
abbrev d13 : Type := (List (List UInt8) × (List (d12) × Unit))
abbrev d14 : Type := (List UInt8 × (d11 × (d13 × (Bool × (Bool × Unit)))))
abbrev d15 : Type := (Int × (Int × (Int × Unit)))
abbrev d16 : Type := (Int × (List (Int) × Unit))
abbrev d17 : Type := (d14 × (d13 × (List ((Int × (Int × Unit))) × (List (List ((List (d15) × Unit))) × (List (d16) × (Bool × Unit))))))
abbrev d18 : Type := (List (List UInt8) × Unit)
abbrev d19 : Type := ((Int × (Int × Unit)) × Unit)
abbrev d20 : Type := (List ((Int × (Int × Unit))) × Unit)
abbrev d21 : Type := ((List (d15) × Unit) × Unit)
abbrev d22 : Type := (List ((List (d15) × Unit)) × Unit)
abbrev d23 : Type := (List (List ((List (d15) × Unit))) × Unit)
abbrev d24 : Type := (Int × (List (UInt8) × Unit))
noncomputable def cfgs : List (Nat × FCfg) := [
  (123, ⟨[.ro t0, .ro (.int .i64)], 1, (.pair (.int .i64) .unit), .sh, [0, 1, 2, 4, 11, 18, 25], [(3, 0), (6, 0), (10, 1), (9, 0)]⟩),
  (124, ⟨[.ro (.sl .str), .ro (.int .i64)], 1, (.pair (.int .i64) .unit), .sh, [0, 1, 4, 5, 11, 15, 26], [(3, 0), (10, 1), (9, 0)]⟩),
  (211, ⟨[.ro t1, .ro (.int .i64)], 1, (.pair (.int .i64) .unit), .sh, [0, 1, 2, 4, 11], [(4, 1), (3, 0)]⟩),
  (125, ⟨[.ro (.sl t1), .ro (.int .i64)], 1, (.pair (.int .i64) .unit), .sh, [0, 1, 4, 5, 11, 15, 25], [(3, 0), (10, 1), (9, 0)]⟩),
  (56, ⟨[.ro t2, .ro (.int .i64)], 1, (.pair (.int .i64) .unit), .sh, [0, 1, 2, 4, 10, 16], [(3, 0), (7, 1), (6, 0)]⟩),
  (55, ⟨[.ro t3, .ro (.int .i64)], 1, (.pair (.int .i64) .unit), .sh, [0, 1, 2, 4, 11, 17, 23], [(3, 0), (6, 0), (10, 1), (9, 0)]⟩),
  (57, ⟨[.ro (.sl t4), .ro (.int .i64)], 1, (.pair (.int .i64) .unit), .sh, [0, 1, 4, 10], [(4, 1), (3, 0)]⟩),
  (83, ⟨[.ro (.sl t5), .ro (.int .i64)], 1, (.pair (.int .i64) .unit), .sh, [0, 1, 4, 10], [(4, 1), (3, 0)]⟩),
  (13, ⟨[.ro (.pair (.sl t5) .unit), .ro (.int .i64)], 1, (.pair (.int .i64) .unit), .sh, [0, 1, 2, 4, 10], [(4, 1), (3, 0)]⟩),
  (30, ⟨[.ro (.sl (.pair (.sl t5) .unit)), .ro (.int .i64)], 1, (.pair (.int .i64) .unit), .sh, [0, 1, 4, 5, 11, 15, 25], [(3, 0), (10, 1), (9, 0)]⟩),
  (58, ⟨[.ro (.sl (.sl (.pair (.sl t5) .unit))), .ro (.int .i64)], 1, (.pair (.int .i64) .unit), .sh, [0, 1, 4, 5, 11, 15, 25], [(3, 0), (10, 1), (9, 0)]⟩),
  (81, ⟨[.ro (.sl (.int .i64)), .ro (.int .i64)], 1, (.pair (.int .i64) .unit), .sh, [0, 1, 4, 10], [(4, 1), (3, 0)]⟩),
  (126, ⟨[.ro t6, .ro (.int .i64)], 1, (.pair (.int .i64) .unit), .sh, [0, 1, 2, 4, 10], [(4, 1), (3, 0)]⟩),
  (59, ⟨[.ro (.sl t6), .ro (.int .i64)], 1, (.pair (.int .i64) .unit), .sh, [0, 1, 4, 5, 11, 15, 25], [(3, 0), (10, 1), (9, 0)]⟩),
  (7, ⟨[.ro t7, .ro (.int .i64)], 1, (.pair (.int .i64) .unit), .sh, [0, 1, 2, 4, 10, 16, 22, 28, 34], [(3, 0), (6, 0), (9, 0), (12, 0), (16, 1), (15, 0)]⟩),
  (132, ⟨[.ro t0], 1, (.pair t0 .unit), .sh, [0, 1, 2, 3], [(9, 1)]⟩),
  (133, ⟨[.ro (.sl .str)], 1, (.pair (.sl .str) .unit), (.pr (.own .sh) .sh), [0, 2, 3, 4, 11], [(1, 2), (6, 1)]⟩),
  (218, ⟨[.ro t1], 1, (.pair t1 .unit), .sh, [0, 1, 2, 3], [(4, 1)]⟩),
  (134, ⟨[.ro (.sl t1)], 1, (.pair (.sl t1) .unit), (.pr (.own .sh) .sh), [0, 2, 3, 4, 11], [(1, 2), (6, 1)]⟩),
  (66, ⟨[.ro t2], 1, (.pair t2 .unit), (.pr (.pr (.own .sh) (.pr (.own .sh) .sh)) .sh), [0, 1, 2, 3], [(4, 1)]⟩),
  (65, ⟨[.ro t3], 1, (.pair t3 .unit), (.pr (.pr .sh (.pr .sh (.pr (.pr (.own .sh) (.pr (.own .sh) .sh)) .sh))) .sh), [0, 1, 2, 3], [(7, 1)]⟩),
  (135, ⟨[.ro t4], 1, (.pair t4 .unit), .sh, [0, 1, 2, 3], [(4, 1)]⟩),
  (67, ⟨[.ro (.sl t4)], 1, (.pair (.sl t4) .unit), (.pr (.own .sh) .sh), [0, 2, 3, 4, 11], [(1, 2), (6, 1)]⟩),
  (167, ⟨[.ro t5], 1, (.pair t5 .unit), .sh, [0, 1, 2, 3], [(5, 1)]⟩),
  (90, ⟨[.ro (.sl t5)], 1, (.pair (.sl t5) .unit), (.pr (.own .sh) .sh), [0, 2, 3, 4, 11], [(1, 2), (6, 1)]⟩),
  (16, ⟨[.ro (.pair (.sl t5) .unit)], 1, t8, (.pr (.pr (.own .sh) .sh) .sh), [0, 1, 2, 3], [(3, 1)]⟩),
  (32, ⟨[.ro (.sl (.pair (.sl t5) .unit))], 1, t9, (.pr (.own (.pr (.own .sh) .sh)) .sh), [0, 2, 3, 4, 11], [(1, 2), (6, 1)]⟩),
  (68, ⟨[.ro (.sl (.sl (.pair (.sl t5) .unit)))], 1, t10, (.pr (.own (.own (.pr (.own .sh) .sh))) .sh), [0, 2, 3, 4, 11], [(1, 2), (6, 1)]⟩),
  (17, ⟨[.ro (.sl (.int .i64))], 1, (.pair (.sl (.int .i64)) .unit), (.pr (.own .sh) .sh), [0, 2, 3, 4, 11], [(1, 2), (6, 1)]⟩),
  (136, ⟨[.ro t6], 1, (.pair t6 .unit), (.pr (.pr .sh (.pr (.own .sh) .sh)) .sh), [0, 1, 2, 3], [(4, 1)]⟩),
  (69, ⟨[.ro (.sl t6)], 1, (.pair (.sl t6) .unit), (.pr (.own (.pr .sh (.pr (.own .sh) .sh))) .sh), [0, 2, 3, 4, 11], [(1, 2), (6, 1)]⟩),
  (9, ⟨[.ro t7], 1, (.pair t7 .unit), (.pr (.pr (.pr .sh (.pr .sh (.pr (.pr (.own .sh) (.pr (.own .sh) .sh)) .sh))) (.pr (.pr (.own .sh) (.pr (.own .sh) .sh)) (.pr (.own .sh) (.pr (.own (.own (.pr (.own .sh) .sh))) (.pr (.own (.pr .sh (.pr (.own .sh) .sh))) .sh))))) .sh), [0, 1, 2, 3], [(8, 1)]⟩),
  (158, ⟨[.ro (.int .i64), .ro (.int .i64), .ro (.int .i64)], 1, (.pair .bool .unit), .sh, [0, 1, 2, 6], [(1, 8)]⟩),
  (212, ⟨[.ro t0], 1, (.pair .bool .unit), .sh, [0, 1, 2], [(1, 56)]⟩),
  (213, ⟨[.ro (.int .i64)], 1, (.pair .bool .unit), .sh, [0, 2], [(1, 2)]⟩),
  (128, ⟨[.ro t2], 1, (.pair .bool .unit), .sh, [0, 1, 2, 3, 4, 14, 19, 28, 33, 53], [(2, 0), (7, 0), (13, 0), (12, 0)]⟩),
  (127, ⟨[.ro t3], 1, (.pair .bool .unit), .sh, [0, 1, 2], [(1, 30)]⟩),
  (129, ⟨[.ro (.sl t4)], 1, (.pair .bool .unit), .sh, [0, 2, 3, 6, 10, 46], [(2, 0), (8, 3), (7, 0)]⟩),
  (197, ⟨[.ro t6], 1, (.pair .bool .unit), .sh, [0, 1, 2, 3, 24, 29, 38], [(2, 0), (8, 0), (7, 0)]⟩),
  (111, ⟨[.ro (.sl t6)], 1, (.pair .bool .unit), .sh, [0, 2, 3, 7, 15], [(6, 3), (5, 0)]⟩),
  (160, ⟨[.ro t5], 1, (.pair .bool .unit), .sh, [1000015, 0, 1, 2, 12, 14, 15, 21], [(2, 0), (9, 3), (6, 3), (8, 3)]⟩),
  (86, ⟨[.ro (.pair (.sl t5) .unit)], 1, (.pair .bool .unit), .sh, [0, 1, 2, 3, 8, 17], [(6, 4), (5, 0)]⟩),
  (102, ⟨[.ro (.sl (.pair (.sl t5) .unit))], 1, (.pair .bool .unit), .sh, [0, 2, 3, 6, 10, 14, 22], [(2, 0), (4, 0), (10, 0), (9, 0)]⟩),
  (60, ⟨[.ro t7], 1, (.pair .bool .unit), .sh, [0, 1, 2, 3, 47, 52, 61], [(2, 0), (8, 0), (7, 0)]⟩),
  (62, ⟨[.ro t2, .ro t2], 1, (.pair .bool .unit), .sh, [0, 1, 2, 3, 4, 5, 6, 22, 27, 40, 45, 58], [(2, 0), (7, 0), (13, 0), (12, 0)]⟩),
  (61, ⟨[.ro t3, .ro t3], 1, (.pair .bool .unit), .sh, [0, 1, 2, 3, 4], [(1, 33)]⟩),
  (214, ⟨[.ro (.int .i64)], 1, (.pair .str .unit), .sh, [0, 2, 3, 12], [(4, 4), (3, 0)]⟩),
  (215, ⟨[.ro (.int .i64)], 1, (.pair .str .unit), .sh, [0, 2, 4, 6, 12], [(2, 0), (4, 4), (7, 10), (6, 5)]⟩),
  (130, ⟨[.ro t6], 1, (.pair .str .unit), .sh, [0, 1, 2, 3, 4, 12], [(6, 1)]⟩),
  (63, ⟨[.ro (.sl t6), .ro (.sl t6)], 1, (.pair .bool .unit), .sh, [0, 1, 4, 5, 10, 14, 27], [(2, 0), (8, 0), (7, 0)]⟩),
  (263, ⟨[], 1, (.pair (.sl .str) .unit), (.pr (.own .sh) .sh), [0], [(1, 1)]⟩),
  (216, ⟨[.ro t5], 1, (.pair .str .unit), .sh, [0, 1, 2, 3, 21], [(4, 1)]⟩),
  (217, ⟨[.ro (.sl .str), .ro .str], 1, (.pair .str .unit), .sh, [0, 1, 4, 5, 6, 10, 14], [(8, 1)]⟩),
  (131, ⟨[.ro (.sl (.pair (.sl t5) .unit))], 1, (.pair .str .unit), .sh, [0, 2, 3, 4, 5, 6, 11, 22], [(11, 2)]⟩),
  (64, ⟨[.ro (.sl (.pair (.sl t5) .unit)), .ro (.sl (.pair (.sl t5) .unit))], 1, (.pair .bool .unit), .sh, [0, 1, 4, 12], [(3, 13), (2, 0)]⟩),
  (8, ⟨[.ro t7, .ro t7], 1, (.pair .bool .unit), .sh, [0, 1, 2, 3, 4, 5, 6, 63, 68, 81, 86, 100], [(2, 0), (7, 0), (13, 0), (12, 0)]⟩),
  (172, ⟨[.ro (.int .i64), .ro (.int .i64), .ro (.int .i64)], 1, (.pair .bool .unit), .sh, [0, 1, 2, 6], [(1, 8)]⟩),
  (264, ⟨[.ro .str], 1, (.pair .bool .unit), .sh, [0, 2], [(1, 3)]⟩),
  (140, ⟨[.ro t0], 1, (.pair (.int .i64) .unit), .sh, [0, 1, 2], [(1, 5)]⟩),
  (219, ⟨[.ro t0], 1, (.pair .bool .unit), .sh, [0, 1, 2], [(1, 51)]⟩),
  (259, ⟨[.ro .str, .ro (.ptr .fn)], 1, (.pair .bool .unit), .sh, [0, 1, 3], [(1, 4)]⟩),
  (293, ⟨[.ro (.sl .str), .ro .fn], 1, (.pair (.int .i64) .unit), .sh, [0, 1, 4, 5, 7, 8, 9, 16], [(7, 0), (5, 1)]⟩),
  (258, ⟨[.ro (.sl .str), .ro .fn], 1, (.pair .bool .unit), .sh, [0, 1, 4], [(1, 4)]⟩),
  (199, ⟨[.ro (.sl .str), .ro .fn], 1, (.pair .bool .unit), .sh, [0, 1, 3, 4], [(1, 4)]⟩),
  (265, ⟨[.ro .str], 1, (.pair .bool .unit), .sh, [0, 2], [(1, 3)]⟩),
  (296, ⟨[.ro t1, .ro (.ptr .fn)], 1, (.pair .bool .unit), .sh, [0, 1, 2, 3], [(1, 4)]⟩),
  (306, ⟨[.ro (.sl t1), .ro .fn], 1, (.pair (.int .i64) .unit), .sh, [0, 1, 4, 5, 7, 8, 9, 16], [(7, 0), (5, 1)]⟩),
  (295, ⟨[.ro (.sl t1), .ro .fn], 1, (.pair .bool .unit), .sh, [0, 1, 4], [(1, 4)]⟩),
  (266, ⟨[.ro (.sl t1), .ro .fn], 1, (.pair .bool .unit), .sh, [0, 1, 3, 4], [(1, 4)]⟩),
  (268, ⟨[.ro (.int .i64)], 1, (.pair .bool .unit), .sh, [0, 2], [(1, 2)]⟩),
  (267, ⟨[.ro t1], 1, (.pair .bool .unit), .sh, [0, 1, 2], [(1, 8)]⟩),
  (220, ⟨[.ro t2], 1, (.pair .bool .unit), .sh, [0, 1, 2], [(1, 20)]⟩),
  (138, ⟨[.ro t2], 1, (.pair .bool .unit), .sh, [0, 1, 2], [(1, 8)]⟩),
  (137, ⟨[.ro t3], 1, (.pair .bool .unit), .sh, [0, 1, 2], [(1, 23)]⟩),
  (170, ⟨[.ro (.int .i64)], 1, (.pair .bool .unit), .sh, [0, 2], [(1, 2)]⟩),
  (209, ⟨[.ro (.int .i64)], 1, (.pair .bool .unit), .sh, [0, 2], [(1, 2)]⟩),
  (139, ⟨[.ro (.sl t4)], 1, (.pair .bool .unit), .sh, [0, 2, 3, 4, 5, 6, 7, 8, 36], [(7, 3), (5, 0)]⟩),
  (222, ⟨[.ro (.sl (.pair (.sl t5) .unit)), .ro (.ptr .fn)], 1, (.pair .bool .unit), .sh, [0, 1, 3], [(1, 4)]⟩),
  (269, ⟨[.ro (.sl (.sl (.pair (.sl t5) .unit))), .ro .fn], 1, (.pair (.int .i64) .unit), .sh, [0, 1, 4, 5, 7, 8, 9, 16], [(7, 0), (5, 1)]⟩),
  (221, ⟨[.ro (.sl (.sl (.pair (.sl t5) .unit))), .ro .fn], 1, (.pair .bool .unit), .sh, [0, 1, 4], [(1, 4)]⟩),
  (141, ⟨[.ro (.sl (.sl (.pair (.sl t5) .unit))), .ro .fn], 1, (.pair .bool .unit), .sh, [0, 1, 3, 4], [(1, 4)]⟩),
  (249, ⟨[.ro (.pair (.sl t5) .unit), .ro (.ptr .fn)], 1, (.pair .bool .unit), .sh, [0, 1, 2, 3], [(1, 4)]⟩),
  (285, ⟨[.ro (.sl (.pair (.sl t5) .unit)), .ro .fn], 1, (.pair (.int .i64) .unit), .sh, [0, 1, 4, 5, 7, 8, 9, 16], [(7, 0), (5, 1)]⟩),
  (248, ⟨[.ro (.sl (.pair (.sl t5) .unit)), .ro .fn], 1, (.pair .bool .unit), .sh, [0, 1, 4], [(1, 4)]⟩),
  (187, ⟨[.ro (.sl (.pair (.sl t5) .unit)), .ro .fn], 1, (.pair .bool .unit), .sh, [0, 1, 3, 4], [(1, 4)]⟩),
  (238, ⟨[.ro t5, .ro (.ptr .fn)], 1, (.pair .bool .unit), .sh, [0, 1, 2, 3], [(1, 4)]⟩),
  (276, ⟨[.ro (.sl t5), .ro .fn], 1, (.pair (.int .i64) .unit), .sh, [0, 1, 4, 5, 7, 8, 9, 16], [(7, 0), (5, 1)]⟩),
  (237, ⟨[.ro (.sl t5), .ro .fn], 1, (.pair .bool .unit), .sh, [0, 1, 4], [(1, 4)]⟩),
  (173, ⟨[.ro (.sl t5), .ro .fn], 1, (.pair .bool .unit), .sh, [0, 1, 3, 4], [(1, 4)]⟩),
  (239, ⟨[.ro (.int .i64)], 1, (.pair .bool .unit), .sh, [0, 2], [(1, 6)]⟩),
  (174, ⟨[.ro t5], 1, (.pair .bool .unit), .sh, [0, 1, 2, 12, 13, 20], [(2, 0), (7, 3), (4, 3), (6, 3)]⟩),
  (93, ⟨[.ro (.pair (.sl t5) .unit)], 1, (.pair .bool .unit), .sh, [0, 1, 2], [(1, 9)]⟩),
  (104, ⟨[.ro (.sl (.pair (.sl t5) .unit))], 1, (.pair .bool .unit), .sh, [0, 2], [(1, 7)]⟩),
  (254, ⟨[.ro t6, .ro (.ptr .fn)], 1, (.pair .bool .unit), .sh, [0, 1, 2, 3], [(1, 4)]⟩),
  (288, ⟨[.ro (.sl t6), .ro .fn], 1, (.pair (.int .i64) .unit), .sh, [0, 1, 4, 5, 7, 8, 9, 16], [(7, 0), (5, 1)]⟩),
  (253, ⟨[.ro (.sl t6), .ro .fn], 1, (.pair .bool .unit), .sh, [0, 1, 4], [(1, 4)]⟩),
  (193, ⟨[.ro (.sl t6), .ro .fn], 1, (.pair .bool .unit), .sh, [0, 1, 3, 4], [(1, 4)]⟩),
  (255, ⟨[.ro (.int .i64)], 1, (.pair .bool .unit), .sh, [0, 2], [(1, 2)]⟩),
  (233, ⟨[.ro (.int .i64), .ro (.ptr .fn)], 1, (.pair .bool .unit), .sh, [0, 1, 3], [(1, 4)]⟩),
  (271, ⟨[.ro (.sl (.int .i64)), .ro .fn], 1, (.pair (.int .i64) .unit), .sh, [0, 1, 4, 5, 7, 8, 9, 16], [(7, 0), (5, 1)]⟩),
  (232, ⟨[.ro (.sl (.int .i64)), .ro .fn], 1, (.pair .bool .unit), .sh, [0, 1, 4], [(1, 4)]⟩),
  (168, ⟨[.ro (.sl (.int .i64)), .ro .fn], 1, (.pair .bool .unit), .sh, [0, 1, 3, 4], [(1, 4)]⟩),
  (194, ⟨[.ro t6], 1, (.pair .bool .unit), .sh, [0, 1, 2], [(1, 25)]⟩),
  (109, ⟨[.ro (.sl t6)], 1, (.pair .bool .unit), .sh, [0, 2], [(1, 7)]⟩),
  (70, ⟨[.ro t7], 1, (.pair .bool .unit), .sh, [0, 1, 2], [(1, 33)]⟩),
  (142, ⟨[.ro (.sl .str), .ro (.sl .str)], 1, (.pair .bool .unit), .sh, [0, 1, 4, 5, 10, 12, 13, 14, 24], [(2, 0), (9, 0), (7, 0)]⟩),
  (143, ⟨[.ro (.sl t1), .ro (.sl t1)], 1, (.pair .bool .unit), .sh, [0, 1, 4, 5, 10, 12, 13, 14, 24], [(2, 0), (9, 0), (7, 0)]⟩),
  (72, ⟨[.ro t2, .ro t2], 1, (.pair .bool .unit), .sh, [0, 1, 2, 3, 4], [(1, 12)]⟩),
  (71, ⟨[.ro t3, .ro t3], 1, (.pair .bool .unit), .sh, [0, 1, 2, 3, 4], [(1, 33)]⟩),
  (73, ⟨[.ro (.sl t4), .ro (.sl t4)], 1, (.pair .bool .unit), .sh, [0, 1, 4, 5, 10, 12, 13, 14, 24], [(2, 0), (9, 0), (7, 0)]⟩),
  (74, ⟨[.ro (.sl (.sl (.pair (.sl t5) .unit))), .ro (.sl (.sl (.pair (.sl t5) .unit))), .ro .fn], 1, (.pair .bool .unit), .sh, [0, 1, 2, 6, 7, 8, 9, 14, 15, 16, 17, 18, 30], [(2, 0), (10, 0), (8, 0)]⟩),
  (144, ⟨[.ro (.sl (.pair (.sl t5) .unit)), .ro (.sl (.pair (.sl t5) .unit)), .ro .fn], 1, (.pair .bool .unit), .sh, [0, 1, 2, 6, 7, 8, 9, 14, 15, 16, 17, 18, 30], [(2, 0), (10, 0), (8, 0)]⟩),
  (146, ⟨[.ro (.sl t5), .ro (.sl t5)], 1, (.pair .bool .unit), .sh, [0, 1, 4, 5, 10, 12, 13, 14, 24], [(2, 0), (9, 0), (7, 0)]⟩),
  (145, ⟨[.ro (.pair (.sl t5) .unit), .ro (.pair (.sl t5) .unit)], 1, (.pair .bool .unit), .sh, [0, 1, 2, 3, 4], [(1, 5)]⟩),
  (75, ⟨[.ro (.sl (.pair (.sl t5) .unit)), .ro (.sl (.pair (.sl t5) .unit))], 1, (.pair .bool .unit), .sh, [0, 1, 4], [(1, 3)]⟩),
  (147, ⟨[.ro (.sl t6), .ro (.sl t6), .ro .fn], 1, (.pair .bool .unit), .sh, [0, 1, 2, 6, 7, 8, 9, 14, 15, 16, 17, 18, 30], [(2, 0), (10, 0), (8, 0)]⟩),
  (149, ⟨[.ro (.sl (.int .i64)), .ro (.sl (.int .i64))], 1, (.pair .bool .unit), .sh, [0, 1, 4, 5, 10, 12, 13, 14, 24], [(2, 0), (9, 0), (7, 0)]⟩),
  (148, ⟨[.ro t6, .ro t6], 1, (.pair .bool .unit), .sh, [0, 1, 2, 3, 4], [(1, 12)]⟩),
  (76, ⟨[.ro (.sl t6), .ro (.sl t6)], 1, (.pair .bool .unit), .sh, [0, 1, 4], [(1, 3)]⟩),
  (10, ⟨[.ro t7, .ro t7], 1, (.pair .bool .unit), .sh, [0, 1, 2, 3, 4], [(1, 48)]⟩),
  (150, ⟨[.ro t0, .ro t0], 1, (.pair .bool .unit), .sh, [0, 1, 2, 3, 4, 9, 14, 19, 24, 29, 34, 39], [(2, 0), (4, 0), (6, 0), (8, 0), (10, 0), (12, 0), (15, 0), (14, 0)]⟩),
  (151, ⟨[.ro (.sl .str), .ro (.sl .str)], 1, (.pair .bool .unit), .sh, [0, 1, 4, 5, 10, 14, 25], [(2, 0), (8, 0), (7, 0)]⟩),
  (223, ⟨[.ro t1, .ro t1], 1, (.pair .bool .unit), .sh, [0, 1, 2, 3, 4, 9, 14], [(2, 0), (5, 0), (4, 0)]⟩),
  (152, ⟨[.ro (.sl t1), .ro (.sl t1)], 1, (.pair .bool .unit), .sh, [0, 1, 4, 5, 10, 14, 26], [(2, 0), (8, 0), (7, 0)]⟩),
  (78, ⟨[.ro t2, .ro t2], 1, (.pair .bool .unit), .sh, [0, 1, 2, 3, 4, 10, 16], [(2, 0), (5, 0), (4, 0)]⟩),
  (77, ⟨[.ro t3, .ro t3], 1, (.pair .bool .unit), .sh, [0, 1, 2, 3, 4, 9, 15, 21, 26, 31], [(2, 0), (4, 0), (6, 0), (8, 0), (11, 0), (10, 0)]⟩),
  (153, ⟨[.ro t4, .ro t4], 1, (.pair .bool .unit), .sh, [0, 1, 2, 3, 4, 9, 14], [(2, 0), (5, 0), (4, 0)]⟩),
  (79, ⟨[.ro (.sl t4), .ro (.sl t4)], 1, (.pair .bool .unit), .sh, [0, 1, 4, 5, 10, 14, 26], [(2, 0), (8, 0), (7, 0)]⟩),
  (182, ⟨[.ro t5, .ro t5], 1, (.pair .bool .unit), .sh, [0, 1, 2, 3, 4, 9, 14, 19], [(2, 0), (4, 0), (7, 0), (6, 0)]⟩),
  (98, ⟨[.ro (.sl t5), .ro (.sl t5)], 1, (.pair .bool .unit), .sh, [0, 1, 4, 5, 10, 14, 26], [(2, 0), (8, 0), (7, 0)]⟩),
  (22, ⟨[.ro (.pair (.sl t5) .unit), .ro (.pair (.sl t5) .unit)], 1, (.pair .bool .unit), .sh, [0, 1, 2, 3, 4, 10], [(3, 0), (2, 0)]⟩),
  (35, ⟨[.ro (.sl (.pair (.sl t5) .unit)), .ro (.sl (.pair (.sl t5) .unit))], 1, (.pair .bool .unit), .sh, [0, 1, 4, 5, 10, 14, 26], [(2, 0), (8, 0), (7, 0)]⟩),
  (80, ⟨[.ro (.sl (.sl (.pair (.sl t5) .unit))), .ro (.sl (.sl (.pair (.sl t5) .unit)))], 1, (.pair .bool .unit), .sh, [0, 1, 4, 5, 10, 14, 26], [(2, 0), (8, 0), (7, 0)]⟩),
  (21, ⟨[.ro (.sl (.int .i64)), .ro (.sl (.int .i64))], 1, (.pair .bool .unit), .sh, [0, 1, 4, 5, 10, 14, 25], [(2, 0), (8, 0), (7, 0)]⟩),
  (20, ⟨[.ro t6, .ro t6], 1, (.pair .bool .unit), .sh, [0, 1, 2, 3, 4, 9, 15], [(2, 0), (5, 0), (4, 0)]⟩),
  (34, ⟨[.ro (.sl t6), .ro (.sl t6)], 1, (.pair .bool .unit), .sh, [0, 1, 4, 5, 10, 14, 26], [(2, 0), (8, 0), (7, 0)]⟩),
  (11, ⟨[.ro t7, .ro t7], 1, (.pair .bool .unit), .sh, [0, 1, 2, 3, 4, 10, 16, 22, 28, 34, 39], [(2, 0), (4, 0), (6, 0), (8, 0), (10, 0), (13, 0), (12, 0)]⟩),
  (3, ⟨[.ro t7, .ro t7], 1, (.pair .bool .unit), .sh, [0, 1, 2, 3, 4, 5, 6, 7, 8, 9, 14, 19, 34, 39, 44], [(4, 0), (7, 0), (13, 0), (15, 0), (18, 0), (17, 0)]⟩)]
noncomputable def EE : Env := ⟨Go.Proofs.Tryz.prog, lookC cfgs⟩
/-- loop.example/g00548/laws.szRegister -/
noncomputable def c_laws_szRegister (R : Run EE) (x0 : d11) (x1 : Int) : Option ((Int × Unit)) := R 123 [⟨t0, x0⟩, ⟨(.int .i64), x1⟩]
/-- loop.example/g00548/laws.szStringS -/
noncomputable def c_laws_szStringS (R : Run EE) (x0 : List (List UInt8)) (x1 : Int) : Option ((Int × Unit)) := R 124 [⟨(.sl .str), x0⟩, ⟨(.int .i64), x1⟩]
/-- loop.example/g00548/laws.szIo -/
noncomputable def c_laws_szIo (R : Run EE) (x0 : d12) (x1 : Int) : Option ((Int × Unit)) := R 211 [⟨t1, x0⟩, ⟨(.int .i64), x1⟩]
/-- loop.example/g00548/laws.szIoS -/
noncomputable def c_laws_szIoS (R : Run EE) (x0 : List (d12)) (x1 : Int) : Option ((Int × Unit)) := R 125 [⟨(.sl t1), x0⟩, ⟨(.int .i64), x1⟩]
/-- loop.example/g00548/laws.szDevice -/
noncomputable def c_laws_szDevice (R : Run EE) (x0 : d13) (x1 : Int) : Option ((Int × Unit)) := R 56 [⟨t2, x0⟩, ⟨(.int .i64), x1⟩]
/-- loop.example/g00548/laws.szStore -/
noncomputable def c_laws_szStore (R : Run EE) (x0 : d14) (x1 : Int) : Option ((Int × Unit)) := R 55 [⟨t3, x0⟩, ⟨(.int .i64), x1⟩]
/-- loop.example/g00548/laws.szEntryS -/
noncomputable def c_laws_szEntryS (R : Run EE) (x0 : List ((Int × (Int × Unit)))) (x1 : Int) : Option ((Int × Unit)) := R 57 [⟨(.sl t4), x0⟩, ⟨(.int .i64), x1⟩]
/-- loop.example/g00548/laws.szOpS -/
noncomputable def c_laws_szOpS (R : Run EE) (x0 : List (d15)) (x1 : Int) : Option ((Int × Unit)) := R 83 [⟨(.sl t5), x0⟩, ⟨(.int .i64), x1⟩]
/-- loop.example/g00548/laws.szTxn -/
noncomputable def c_laws_szTxn (R : Run EE) (x0 : (List (d15) × Unit)) (x1 : Int) : Option ((Int × Unit)) := R 13 [⟨(.pair (.sl t5) .unit), x0⟩, ⟨(.int .i64), x1⟩]
/-- loop.example/g00548/laws.szTxnS -/
noncomputable def c_laws_szTxnS (R : Run EE) (x0 : List ((List (d15) × Unit))) (x1 : Int) : Option ((Int × Unit)) := R 30 [⟨(.sl (.pair (.sl t5) .unit)), x0⟩, ⟨(.int .i64), x1⟩]
/-- loop.example/g00548/laws.szTxnSS -/
noncomputable def c_laws_szTxnSS (R : Run EE) (x0 : List (List ((List (d15) × Unit)))) (x1 : Int) : Option ((Int × Unit)) := R 58 [⟨(.sl (.sl (.pair (.sl t5) .unit))), x0⟩, ⟨(.int .i64), x1⟩]
/-- loop.example/g00548/laws.szIntS -/
noncomputable def c_laws_szIntS (R : Run EE) (x0 : List (Int)) (x1 : Int) : Option ((Int × Unit)) := R 81 [⟨(.sl (.int .i64)), x0⟩, ⟨(.int .i64), x1⟩]
/-- loop.example/g00548/laws.szResult -/
noncomputable def c_laws_szResult (R : Run EE) (x0 : d16) (x1 : Int) : Option ((Int × Unit)) := R 126 [⟨t6, x0⟩, ⟨(.int .i64), x1⟩]
/-- loop.example/g00548/laws.szResultS -/
noncomputable def c_laws_szResultS (R : Run EE) (x0 : List (d16)) (x1 : Int) : Option ((Int × Unit)) := R 59 [⟨(.sl t6), x0⟩, ⟨(.int .i64), x1⟩]
/-- loop.example/g00548/laws.szWorld -/
noncomputable def c_laws_szWorld (R : Run EE) (x0 : d17) (x1 : Int) : Option ((Int × Unit)) := R 7 [⟨t7, x0⟩, ⟨(.int .i64), x1⟩]
/-- loop.example/g00548/laws.toRegister -/
noncomputable def c_laws_toRegister (R : Run EE) (x0 : d11) : Option ((d11 × Unit)) := R 132 [⟨t0, x0⟩]
/-- loop.example/g00548/laws.toStringS -/
noncomputable def c_laws_toStringS (R : Run EE) (x0 : List (List UInt8)) : Option (d18) := R 133 [⟨(.sl .str), x0⟩]
/-- loop.example/g00548/laws.toIo -/
noncomputable def c_laws_toIo (R : Run EE) (x0 : d12) : Option ((d12 × Unit)) := R 218 [⟨t1, x0⟩]
/-- loop.example/g00548/laws.toIoS -/
noncomputable def c_laws_toIoS (R : Run EE) (x0 : List (d12)) : Option ((List (d12) × Unit)) := R 134 [⟨(.sl t1), x0⟩]
/-- loop.example/g00548/laws.toDevice -/
noncomputable def c_laws_toDevice (R : Run EE) (x0 : d13) : Option ((d13 × Unit)) := R 66 [⟨t2, x0⟩]
/-- loop.example/g00548/laws.toStore -/
noncomputable def c_laws_toStore (R : Run EE) (x0 : d14) : Option ((d14 × Unit)) := R 65 [⟨t3, x0⟩]
/-- loop.example/g00548/laws.toEntry -/
noncomputable def c_laws_toEntry (R : Run EE) (x0 : (Int × (Int × Unit))) : Option (d19) := R 135 [⟨t4, x0⟩]
/-- loop.example/g00548/laws.toEntryS -/
noncomputable def c_laws_toEntryS (R : Run EE) (x0 : List ((Int × (Int × Unit)))) : Option (d20) := R 67 [⟨(.sl t4), x0⟩]
/-- loop.example/g00548/laws.toOp -/
noncomputable def c_laws_toOp (R : Run EE) (x0 : d15) : Option ((d15 × Unit)) := R 167 [⟨t5, x0⟩]
/-- loop.example/g00548/laws.toOpS -/
noncomputable def c_laws_toOpS (R : Run EE) (x0 : List (d15)) : Option ((List (d15) × Unit)) := R 90 [⟨(.sl t5), x0⟩]
/-- loop.example/g00548/laws.toTxn -/
noncomputable def c_laws_toTxn (R : Run EE) (x0 : (List (d15) × Unit)) : Option (d21) := R 16 [⟨(.pair (.sl t5) .unit), x0⟩]
/-- loop.example/g00548/laws.toTxnS -/
noncomputable def c_laws_toTxnS (R : Run EE) (x0 : List ((List (d15) × Unit))) : Option (d22) := R 32 [⟨(.sl (.pair (.sl t5) .unit)), x0⟩]
/-- loop.example/g00548/laws.toTxnSS -/
noncomputable def c_laws_toTxnSS (R : Run EE) (x0 : List (List ((List (d15) × Unit)))) : Option (d23) := R 68 [⟨(.sl (.sl (.pair (.sl t5) .unit))), x0⟩]
/-- loop.example/g00548/laws.toIntS -/
noncomputable def c_laws_toIntS (R : Run EE) (x0 : List (Int)) : Option ((List (Int) × Unit)) := R 17 [⟨(.sl (.int .i64)), x0⟩]
/-- loop.example/g00548/laws.toResult -/
noncomputable def c_laws_toResult (R : Run EE) (x0 : d16) : Option ((d16 × Unit)) := R 136 [⟨t6, x0⟩]
/-- loop.example/g00548/laws.toResultS -/
noncomputable def c_laws_toResultS (R : Run EE) (x0 : List (d16)) : Option ((List (d16) × Unit)) := R 69 [⟨(.sl t6), x0⟩]
/-- loop.example/g00548/laws.toWorld -/
noncomputable def c_laws_toWorld (R : Run EE) (x0 : d17) : Option ((d17 × Unit)) := R 9 [⟨t7, x0⟩]
/-- loop.example/g00548/spec.l01In -/
noncomputable def c_spec_l01In (R : Run EE) (x0 : Int) (x1 : Int) (x2 : Int) : Option ((Bool × Unit)) := R 158 [⟨(.int .i64), x0⟩, ⟨(.int .i64), x1⟩, ⟨(.int .i64), x2⟩]
/-- loop.example/g00548/spec.RegisterOK -/
noncomputable def c_spec_RegisterOK (R : Run EE) (x0 : d11) : Option ((Bool × Unit)) := R 212 [⟨t0, x0⟩]
/-- loop.example/g00548/spec.l05In -/
noncomputable def c_spec_l05In (R : Run EE) (x0 : Int) : Option ((Bool × Unit)) := R 213 [⟨(.int .i64), x0⟩]
/-- loop.example/g00548/spec.DeviceOK -/
noncomputable def c_spec_DeviceOK (R : Run EE) (x0 : d13) : Option ((Bool × Unit)) := R 128 [⟨t2, x0⟩]
/-- loop.example/g00548/spec.StoreOK -/
noncomputable def c_spec_StoreOK (R : Run EE) (x0 : d14) : Option ((Bool × Unit)) := R 127 [⟨t3, x0⟩]
/-- loop.example/g00548/spec.MapOK -/
noncomputable def c_spec_MapOK (R : Run EE) (x0 : List ((Int × (Int × Unit)))) : Option ((Bool × Unit)) := R 129 [⟨(.sl t4), x0⟩]
/-- loop.example/g00548/spec.l10ResultOK -/
noncomputable def c_spec_l10ResultOK (R : Run EE) (x0 : d16) : Option ((Bool × Unit)) := R 197 [⟨t6, x0⟩]
/-- loop.example/g00548/spec.l12Results -/
noncomputable def c_spec_l12Results (R : Run EE) (x0 : List (d16)) : Option ((Bool × Unit)) := R 111 [⟨(.sl t6), x0⟩]
/-- loop.example/g00548/spec.OpOK -/
noncomputable def c_spec_OpOK (R : Run EE) (x0 : d15) : Option ((Bool × Unit)) := R 160 [⟨t5, x0⟩]
/-- loop.example/g00548/spec.l09Txn -/
noncomputable def c_spec_l09Txn (R : Run EE) (x0 : (List (d15) × Unit)) : Option ((Bool × Unit)) := R 86 [⟨(.pair (.sl t5) .unit), x0⟩]
/-- loop.example/g00548/spec.BatchOK -/
noncomputable def c_spec_BatchOK (R : Run EE) (x0 : List ((List (d15) × Unit))) : Option ((Bool × Unit)) := R 102 [⟨(.sl (.pair (.sl t5) .unit)), x0⟩]
/-- loop.example/g00548/spec.WorldOK -/
noncomputable def c_spec_WorldOK (R : Run EE) (x0 : d17) : Option ((Bool × Unit)) := R 60 [⟨t7, x0⟩]
/-- loop.example/g00548/spec.SameDevice -/
noncomputable def c_spec_SameDevice (R : Run EE) (x0 : d13) (x1 : d13) : Option ((Bool × Unit)) := R 62 [⟨t2, x0⟩, ⟨t2, x1⟩]
/-- loop.example/g00548/spec.SameStore -/
noncomputable def c_spec_SameStore (R : Run EE) (x0 : d14) (x1 : d14) : Option ((Bool × Unit)) := R 61 [⟨t3, x0⟩, ⟨t3, x1⟩]
/-- loop.example/g00548/spec.CodeWord -/
noncomputable def c_spec_CodeWord (R : Run EE) (x0 : Int) : Option ((List UInt8 × Unit)) := R 214 [⟨(.int .i64), x0⟩]
/-- loop.example/g00548/spec.l00Digits -/
noncomputable def c_spec_l00Digits (R : Run EE) (x0 : Int) : Option ((List UInt8 × Unit)) := R 215 [⟨(.int .i64), x0⟩]
/-- loop.example/g00548/spec.l10Text -/
noncomputable def c_spec_l10Text (R : Run EE) (x0 : d16) : Option ((List UInt8 × Unit)) := R 130 [⟨t6, x0⟩]
/-- loop.example/g00548/spec.l14Results -/
noncomputable def c_spec_l14Results (R : Run EE) (x0 : List (d16)) (x1 : List (d16)) : Option ((Bool × Unit)) := R 63 [⟨(.sl t6), x0⟩, ⟨(.sl t6), x1⟩]
/-- loop.example/g00548/spec.l09Words -/
noncomputable def c_spec_l09Words (R : Run EE)  : Option (d18) := R 263 []
/-- loop.example/g00548/spec.l09Op -/
noncomputable def c_spec_l09Op (R : Run EE) (x0 : d15) : Option ((List UInt8 × Unit)) := R 216 [⟨t5, x0⟩]
/-- loop.example/g00548/spec.l00Join -/
noncomputable def c_spec_l00Join (R : Run EE) (x0 : List (List UInt8)) (x1 : List UInt8) : Option ((List UInt8 × Unit)) := R 217 [⟨(.sl .str), x0⟩, ⟨.str, x1⟩]
/-- loop.example/g00548/spec.l09Text -/
noncomputable def c_spec_l09Text (R : Run EE) (x0 : List ((List (d15) × Unit))) : Option ((List UInt8 × Unit)) := R 131 [⟨(.sl (.pair (.sl t5) .unit)), x0⟩]
/-- loop.example/g00548/spec.SameBatch -/
noncomputable def c_spec_SameBatch (R : Run EE) (x0 : List ((List (d15) × Unit))) (x1 : List ((List (d15) × Unit))) : Option ((Bool × Unit)) := R 64 [⟨(.sl (.pair (.sl t5) .unit)), x0⟩, ⟨(.sl (.pair (.sl t5) .unit)), x1⟩]
/-- loop.example/g00548/spec.SameWorld -/
noncomputable def c_spec_SameWorld (R : Run EE) (x0 : d17) (x1 : d17) : Option ((Bool × Unit)) := R 8 [⟨t7, x0⟩, ⟨t7, x1⟩]
/-- loop.example/g00548/impl.within -/
noncomputable def c_impl_within (R : Run EE) (x0 : Int) (x1 : Int) (x2 : Int) : Option ((Bool × Unit)) := R 172 [⟨(.int .i64), x0⟩, ⟨(.int .i64), x1⟩, ⟨(.int .i64), x2⟩]
/-- loop.example/g00548/impl.isDigest -/
noncomputable def c_impl_isDigest (R : Run EE) (x0 : List UInt8) : Option ((Bool × Unit)) := R 264 [⟨.str, x0⟩]
/-- (loop.example/g00548/impl.Register).waiting -/
noncomputable def c_impl_Register_waiting (R : Run EE) (x0 : d11) : Option ((Int × Unit)) := R 140 [⟨t0, x0⟩]
/-- loop.example/g00548/impl.RegisterOK -/
noncomputable def c_impl_RegisterOK (R : Run EE) (x0 : d11) : Option ((Bool × Unit)) := R 219 [⟨t0, x0⟩]
/-- loop.example/g00548/impl.areAll[string]$1 -/
noncomputable def c_impl_areAll_string__1 (R : Run EE) (x0 : List UInt8) (x1 : FnVal) : Option ((Bool × Unit)) := R 259 [⟨.str, x0⟩, ⟨(.ptr .fn), x1⟩]
/-- slices.IndexFunc[[]string,string] -/
noncomputable def c_slices_IndexFunc___string_string_ (R : Run EE) (x0 : List (List UInt8)) (x1 : FnVal) : Option ((Int × Unit)) := R 293 [⟨(.sl .str), x0⟩, ⟨.fn, x1⟩]
/-- slices.ContainsFunc[[]string,string] -/
noncomputable def c_slices_ContainsFunc___string_string_ (R : Run EE) (x0 : List (List UInt8)) (x1 : FnVal) : Option ((Bool × Unit)) := R 258 [⟨(.sl .str), x0⟩, ⟨.fn, x1⟩]
/-- loop.example/g00548/impl.areAll[string] -/
noncomputable def c_impl_areAll_string_ (R : Run EE) (x0 : List (List UInt8)) (x1 : FnVal) : Option ((Bool × Unit)) := R 199 [⟨(.sl .str), x0⟩, ⟨.fn, x1⟩]
/-- loop.example/g00548/impl.isContent -/
noncomputable def c_impl_isContent (R : Run EE) (x0 : List UInt8) : Option ((Bool × Unit)) := R 265 [⟨.str, x0⟩]
/-- loop.example/g00548/impl.areAll[loop.example/g00548/impl.Io]$1 -/
noncomputable def c_impl_areAll_impl_Io__1 (R : Run EE) (x0 : d12) (x1 : FnVal) : Option ((Bool × Unit)) := R 296 [⟨t1, x0⟩, ⟨(.ptr .fn), x1⟩]
/-- slices.IndexFunc[[]loop.example/g00548/impl.Io,loop.example/g00548/impl.Io] -/
noncomputable def c_slices_IndexFunc___impl_Io_impl_Io_ (R : Run EE) (x0 : List (d12)) (x1 : FnVal) : Option ((Int × Unit)) := R 306 [⟨(.sl t1), x0⟩, ⟨.fn, x1⟩]
/-- slices.ContainsFunc[[]loop.example/g00548/impl.Io,loop.example/g00548/impl.Io] -/
noncomputable def c_slices_ContainsFunc___impl_Io_impl_Io_ (R : Run EE) (x0 : List (d12)) (x1 : FnVal) : Option ((Bool × Unit)) := R 295 [⟨(.sl t1), x0⟩, ⟨.fn, x1⟩]
/-- loop.example/g00548/impl.areAll[loop.example/g00548/impl.Io] -/
noncomputable def c_impl_areAll_impl_Io_ (R : Run EE) (x0 : List (d12)) (x1 : FnVal) : Option ((Bool × Unit)) := R 266 [⟨(.sl t1), x0⟩, ⟨.fn, x1⟩]
/-- loop.example/g00548/impl.isSector -/
noncomputable def c_impl_isSector (R : Run EE) (x0 : Int) : Option ((Bool × Unit)) := R 268 [⟨(.int .i64), x0⟩]
/-- loop.example/g00548/impl.DeviceOK$1 -/
noncomputable def c_impl_DeviceOK_1 (R : Run EE) (x0 : d12) : Option ((Bool × Unit)) := R 267 [⟨t1, x0⟩]
/-- loop.example/g00548/impl.DeviceOK -/
noncomputable def c_impl_DeviceOK (R : Run EE) (x0 : d13) : Option ((Bool × Unit)) := R 220 [⟨t2, x0⟩]
/-- loop.example/g00548/impl.isSure -/
noncomputable def c_impl_isSure (R : Run EE) (x0 : d13) : Option ((Bool × Unit)) := R 138 [⟨t2, x0⟩]
/-- loop.example/g00548/impl.StoreOK -/
noncomputable def c_impl_StoreOK (R : Run EE) (x0 : d14) : Option ((Bool × Unit)) := R 137 [⟨t3, x0⟩]
/-- loop.example/g00548/impl.isKey -/
noncomputable def c_impl_isKey (R : Run EE) (x0 : Int) : Option ((Bool × Unit)) := R 170 [⟨(.int .i64), x0⟩]
/-- loop.example/g00548/impl.isValue -/
noncomputable def c_impl_isValue (R : Run EE) (x0 : Int) : Option ((Bool × Unit)) := R 209 [⟨(.int .i64), x0⟩]
/-- loop.example/g00548/impl.MapOK -/
noncomputable def c_impl_MapOK (R : Run EE) (x0 : List ((Int × (Int × Unit)))) : Option ((Bool × Unit)) := R 139 [⟨(.sl t4), x0⟩]
/-- loop.example/g00548/impl.areAll[[]loop.example/g00548/impl.Txn]$1 -/
noncomputable def c_impl_areAll___impl_Txn__1 (R : Run EE) (x0 : List ((List (d15) × Unit))) (x1 : FnVal) : Option ((Bool × Unit)) := R 222 [⟨(.sl (.pair (.sl t5) .unit)), x0⟩, ⟨(.ptr .fn), x1⟩]
/-- slices.IndexFunc[[][]loop.example/g00548/impl.Txn,[]loop.example/g00548/impl.Txn] -/
noncomputable def c_slices_IndexFunc_____impl_Txn___impl_Txn_ (R : Run EE) (x0 : List (List ((List (d15) × Unit)))) (x1 : FnVal) : Option ((Int × Unit)) := R 269 [⟨(.sl (.sl (.pair (.sl t5) .unit))), x0⟩, ⟨.fn, x1⟩]
/-- slices.ContainsFunc[[][]loop.example/g00548/impl.Txn,[]loop.example/g00548/impl.Txn] -/
noncomputable def c_slices_ContainsFunc_____impl_Txn___impl_Txn_ (R : Run EE) (x0 : List (List ((List (d15) × Unit)))) (x1 : FnVal) : Option ((Bool × Unit)) := R 221 [⟨(.sl (.sl (.pair (.sl t5) .unit))), x0⟩, ⟨.fn, x1⟩]
/-- loop.example/g00548/impl.areAll[[]loop.example/g00548/impl.Txn] -/
noncomputable def c_impl_areAll___impl_Txn_ (R : Run EE) (x0 : List (List ((List (d15) × Unit)))) (x1 : FnVal) : Option ((Bool × Unit)) := R 141 [⟨(.sl (.sl (.pair (.sl t5) .unit))), x0⟩, ⟨.fn, x1⟩]
/-- loop.example/g00548/impl.areAll[loop.example/g00548/impl.Txn]$1 -/
noncomputable def c_impl_areAll_impl_Txn__1 (R : Run EE) (x0 : (List (d15) × Unit)) (x1 : FnVal) : Option ((Bool × Unit)) := R 249 [⟨(.pair (.sl t5) .unit), x0⟩, ⟨(.ptr .fn), x1⟩]
/-- slices.IndexFunc[[]loop.example/g00548/impl.Txn,loop.example/g00548/impl.Txn] -/
noncomputable def c_slices_IndexFunc___impl_Txn_impl_Txn_ (R : Run EE) (x0 : List ((List (d15) × Unit))) (x1 : FnVal) : Option ((Int × Unit)) := R 285 [⟨(.sl (.pair (.sl t5) .unit)), x0⟩, ⟨.fn, x1⟩]
/-- slices.ContainsFunc[[]loop.example/g00548/impl.Txn,loop.example/g00548/impl.Txn] -/
noncomputable def c_slices_ContainsFunc___impl_Txn_impl_Txn_ (R : Run EE) (x0 : List ((List (d15) × Unit))) (x1 : FnVal) : Option ((Bool × Unit)) := R 248 [⟨(.sl (.pair (.sl t5) .unit)), x0⟩, ⟨.fn, x1⟩]
/-- loop.example/g00548/impl.areAll[loop.example/g00548/impl.Txn] -/
noncomputable def c_impl_areAll_impl_Txn_ (R : Run EE) (x0 : List ((List (d15) × Unit))) (x1 : FnVal) : Option ((Bool × Unit)) := R 187 [⟨(.sl (.pair (.sl t5) .unit)), x0⟩, ⟨.fn, x1⟩]
/-- loop.example/g00548/impl.areAll[loop.example/g00548/impl.Op]$1 -/
noncomputable def c_impl_areAll_impl_Op__1 (R : Run EE) (x0 : d15) (x1 : FnVal) : Option ((Bool × Unit)) := R 238 [⟨t5, x0⟩, ⟨(.ptr .fn), x1⟩]
/-- slices.IndexFunc[[]loop.example/g00548/impl.Op,loop.example/g00548/impl.Op] -/
noncomputable def c_slices_IndexFunc___impl_Op_impl_Op_ (R : Run EE) (x0 : List (d15)) (x1 : FnVal) : Option ((Int × Unit)) := R 276 [⟨(.sl t5), x0⟩, ⟨.fn, x1⟩]
/-- slices.ContainsFunc[[]loop.example/g00548/impl.Op,loop.example/g00548/impl.Op] -/
noncomputable def c_slices_ContainsFunc___impl_Op_impl_Op_ (R : Run EE) (x0 : List (d15)) (x1 : FnVal) : Option ((Bool × Unit)) := R 237 [⟨(.sl t5), x0⟩, ⟨.fn, x1⟩]
/-- loop.example/g00548/impl.areAll[loop.example/g00548/impl.Op] -/
noncomputable def c_impl_areAll_impl_Op_ (R : Run EE) (x0 : List (d15)) (x1 : FnVal) : Option ((Bool × Unit)) := R 173 [⟨(.sl t5), x0⟩, ⟨.fn, x1⟩]
/-- loop.example/g00548/impl.isBare -/
noncomputable def c_impl_isBare (R : Run EE) (x0 : Int) : Option ((Bool × Unit)) := R 239 [⟨(.int .i64), x0⟩]
/-- loop.example/g00548/impl.OpOK -/
noncomputable def c_impl_OpOK (R : Run EE) (x0 : d15) : Option ((Bool × Unit)) := R 174 [⟨t5, x0⟩]
/-- loop.example/g00548/impl.isTxn -/
noncomputable def c_impl_isTxn (R : Run EE) (x0 : (List (d15) × Unit)) : Option ((Bool × Unit)) := R 93 [⟨(.pair (.sl t5) .unit), x0⟩]
/-- loop.example/g00548/impl.BatchOK -/
noncomputable def c_impl_BatchOK (R : Run EE) (x0 : List ((List (d15) × Unit))) : Option ((Bool × Unit)) := R 104 [⟨(.sl (.pair (.sl t5) .unit)), x0⟩]
/-- loop.example/g00548/impl.areAll[loop.example/g00548/impl.Result]$1 -/
noncomputable def c_impl_areAll_impl_Result__1 (R : Run EE) (x0 : d16) (x1 : FnVal) : Option ((Bool × Unit)) := R 254 [⟨t6, x0⟩, ⟨(.ptr .fn), x1⟩]
/-- slices.IndexFunc[[]loop.example/g00548/impl.Result,loop.example/g00548/impl.Result] -/
noncomputable def c_slices_IndexFunc___impl_Result_impl_Result_ (R : Run EE) (x0 : List (d16)) (x1 : FnVal) : Option ((Int × Unit)) := R 288 [⟨(.sl t6), x0⟩, ⟨.fn, x1⟩]
/-- slices.ContainsFunc[[]loop.example/g00548/impl.Result,loop.example/g00548/impl.Result] -/
noncomputable def c_slices_ContainsFunc___impl_Result_impl_Result_ (R : Run EE) (x0 : List (d16)) (x1 : FnVal) : Option ((Bool × Unit)) := R 253 [⟨(.sl t6), x0⟩, ⟨.fn, x1⟩]
/-- loop.example/g00548/impl.areAll[loop.example/g00548/impl.Result] -/
noncomputable def c_impl_areAll_impl_Result_ (R : Run EE) (x0 : List (d16)) (x1 : FnVal) : Option ((Bool × Unit)) := R 193 [⟨(.sl t6), x0⟩, ⟨.fn, x1⟩]
/-- loop.example/g00548/impl.isCode -/
noncomputable def c_impl_isCode (R : Run EE) (x0 : Int) : Option ((Bool × Unit)) := R 255 [⟨(.int .i64), x0⟩]
/-- loop.example/g00548/impl.areAll[int]$1 -/
noncomputable def c_impl_areAll_int__1 (R : Run EE) (x0 : Int) (x1 : FnVal) : Option ((Bool × Unit)) := R 233 [⟨(.int .i64), x0⟩, ⟨(.ptr .fn), x1⟩]
/-- slices.IndexFunc[[]int,int] -/
noncomputable def c_slices_IndexFunc___int_int_ (R : Run EE) (x0 : List (Int)) (x1 : FnVal) : Option ((Int × Unit)) := R 271 [⟨(.sl (.int .i64)), x0⟩, ⟨.fn, x1⟩]
/-- slices.ContainsFunc[[]int,int] -/
noncomputable def c_slices_ContainsFunc___int_int_ (R : Run EE) (x0 : List (Int)) (x1 : FnVal) : Option ((Bool × Unit)) := R 232 [⟨(.sl (.int .i64)), x0⟩, ⟨.fn, x1⟩]
/-- loop.example/g00548/impl.areAll[int] -/
noncomputable def c_impl_areAll_int_ (R : Run EE) (x0 : List (Int)) (x1 : FnVal) : Option ((Bool × Unit)) := R 168 [⟨(.sl (.int .i64)), x0⟩, ⟨.fn, x1⟩]
/-- loop.example/g00548/impl.isResult -/
noncomputable def c_impl_isResult (R : Run EE) (x0 : d16) : Option ((Bool × Unit)) := R 194 [⟨t6, x0⟩]
/-- loop.example/g00548/impl.areResults -/
noncomputable def c_impl_areResults (R : Run EE) (x0 : List (d16)) : Option ((Bool × Unit)) := R 109 [⟨(.sl t6), x0⟩]
/-- loop.example/g00548/impl.WorldOK -/
noncomputable def c_impl_WorldOK (R : Run EE) (x0 : d17) : Option ((Bool × Unit)) := R 70 [⟨t7, x0⟩]
/-- slices.Equal[[]string,string] -/
noncomputable def c_slices_Equal___string_string_ (R : Run EE) (x0 : List (List UInt8)) (x1 : List (List UInt8)) : Option ((Bool × Unit)) := R 142 [⟨(.sl .str), x0⟩, ⟨(.sl .str), x1⟩]
/-- slices.Equal[[]loop.example/g00548/impl.Io,loop.example/g00548/impl.Io] -/
noncomputable def c_slices_Equal___impl_Io_impl_Io_ (R : Run EE) (x0 : List (d12)) (x1 : List (d12)) : Option ((Bool × Unit)) := R 143 [⟨(.sl t1), x0⟩, ⟨(.sl t1), x1⟩]
/-- loop.example/g00548/impl.SameDevice -/
noncomputable def c_impl_SameDevice (R : Run EE) (x0 : d13) (x1 : d13) : Option ((Bool × Unit)) := R 72 [⟨t2, x0⟩, ⟨t2, x1⟩]
/-- loop.example/g00548/impl.SameStore -/
noncomputable def c_impl_SameStore (R : Run EE) (x0 : d14) (x1 : d14) : Option ((Bool × Unit)) := R 71 [⟨t3, x0⟩, ⟨t3, x1⟩]
/-- slices.Equal[[]loop.example/g00548/impl.Entry,loop.example/g00548/impl.Entry] -/
noncomputable def c_slices_Equal___impl_Entry_impl_Entry_ (R : Run EE) (x0 : List ((Int × (Int × Unit)))) (x1 : List ((Int × (Int × Unit)))) : Option ((Bool × Unit)) := R 73 [⟨(.sl t4), x0⟩, ⟨(.sl t4), x1⟩]
/-- slices.EqualFunc[[][]loop.example/g00548/impl.Txn,[][]loop.example/g00548/impl.Txn,[]loop.example/g00548/impl.Txn,[]loop.example/g00548/impl.Txn] -/
noncomputable def c_slices_EqualFunc_____impl_Txn_____impl_Txn___impl_Txn___impl_Txn_ (R : Run EE) (x0 : List (List ((List (d15) × Unit)))) (x1 : List (List ((List (d15) × Unit)))) (x2 : FnVal) : Option ((Bool × Unit)) := R 74 [⟨(.sl (.sl (.pair (.sl t5) .unit))), x0⟩, ⟨(.sl (.sl (.pair (.sl t5) .unit))), x1⟩, ⟨.fn, x2⟩]
/-- slices.EqualFunc[[]loop.example/g00548/impl.Txn,[]loop.example/g00548/impl.Txn,loop.example/g00548/impl.Txn,loop.example/g00548/impl.Txn] -/
noncomputable def c_slices_EqualFunc___impl_Txn___impl_Txn_impl_Txn_impl_Txn_ (R : Run EE) (x0 : List ((List (d15) × Unit))) (x1 : List ((List (d15) × Unit))) (x2 : FnVal) : Option ((Bool × Unit)) := R 144 [⟨(.sl (.pair (.sl t5) .unit)), x0⟩, ⟨(.sl (.pair (.sl t5) .unit)), x1⟩, ⟨.fn, x2⟩]
/-- slices.Equal[[]loop.example/g00548/impl.Op,loop.example/g00548/impl.Op] -/
noncomputable def c_slices_Equal___impl_Op_impl_Op_ (R : Run EE) (x0 : List (d15)) (x1 : List (d15)) : Option ((Bool × Unit)) := R 146 [⟨(.sl t5), x0⟩, ⟨(.sl t5), x1⟩]
/-- loop.example/g00548/impl.alike$1 -/
noncomputable def c_impl_alike_1 (R : Run EE) (x0 : (List (d15) × Unit)) (x1 : (List (d15) × Unit)) : Option ((Bool × Unit)) := R 145 [⟨(.pair (.sl t5) .unit), x0⟩, ⟨(.pair (.sl t5) .unit), x1⟩]
/-- loop.example/g00548/impl.alike -/
noncomputable def c_impl_alike (R : Run EE) (x0 : List ((List (d15) × Unit))) (x1 : List ((List (d15) × Unit))) : Option ((Bool × Unit)) := R 75 [⟨(.sl (.pair (.sl t5) .unit)), x0⟩, ⟨(.sl (.pair (.sl t5) .unit)), x1⟩]
/-- slices.EqualFunc[[]loop.example/g00548/impl.Result,[]loop.example/g00548/impl.Result,loop.example/g00548/impl.Result,loop.example/g00548/impl.Result] -/
noncomputable def c_slices_EqualFunc___impl_Result___impl_Result_impl_Result_impl_Result_ (R : Run EE) (x0 : List (d16)) (x1 : List (d16)) (x2 : FnVal) : Option ((Bool × Unit)) := R 147 [⟨(.sl t6), x0⟩, ⟨(.sl t6), x1⟩, ⟨.fn, x2⟩]
/-- slices.Equal[[]int,int] -/
noncomputable def c_slices_Equal___int_int_ (R : Run EE) (x0 : List (Int)) (x1 : List (Int)) : Option ((Bool × Unit)) := R 149 [⟨(.sl (.int .i64)), x0⟩, ⟨(.sl (.int .i64)), x1⟩]
/-- loop.example/g00548/impl.sameResults$1 -/
noncomputable def c_impl_sameResults_1 (R : Run EE) (x0 : d16) (x1 : d16) : Option ((Bool × Unit)) := R 148 [⟨t6, x0⟩, ⟨t6, x1⟩]
/-- loop.example/g00548/impl.sameResults -/
noncomputable def c_impl_sameResults (R : Run EE) (x0 : List (d16)) (x1 : List (d16)) : Option ((Bool × Unit)) := R 76 [⟨(.sl t6), x0⟩, ⟨(.sl t6), x1⟩]
/-- loop.example/g00548/impl.SameWorld -/
noncomputable def c_impl_SameWorld (R : Run EE) (x0 : d17) (x1 : d17) : Option ((Bool × Unit)) := R 10 [⟨t7, x0⟩, ⟨t7, x1⟩]
/-- loop.example/g00548/laws.eqRegister -/
noncomputable def c_laws_eqRegister (R : Run EE) (x0 : d11) (x1 : d11) : Option ((Bool × Unit)) := R 150 [⟨t0, x0⟩, ⟨t0, x1⟩]
/-- loop.example/g00548/laws.eqStringS -/
noncomputable def c_laws_eqStringS (R : Run EE) (x0 : List (List UInt8)) (x1 : List (List UInt8)) : Option ((Bool × Unit)) := R 151 [⟨(.sl .str), x0⟩, ⟨(.sl .str), x1⟩]
/-- loop.example/g00548/laws.eqIo -/
noncomputable def c_laws_eqIo (R : Run EE) (x0 : d12) (x1 : d12) : Option ((Bool × Unit)) := R 223 [⟨t1, x0⟩, ⟨t1, x1⟩]
/-- loop.example/g00548/laws.eqIoS -/
noncomputable def c_laws_eqIoS (R : Run EE) (x0 : List (d12)) (x1 : List (d12)) : Option ((Bool × Unit)) := R 152 [⟨(.sl t1), x0⟩, ⟨(.sl t1), x1⟩]
/-- loop.example/g00548/laws.eqDevice -/
noncomputable def c_laws_eqDevice (R : Run EE) (x0 : d13) (x1 : d13) : Option ((Bool × Unit)) := R 78 [⟨t2, x0⟩, ⟨t2, x1⟩]
/-- loop.example/g00548/laws.eqStore -/
noncomputable def c_laws_eqStore (R : Run EE) (x0 : d14) (x1 : d14) : Option ((Bool × Unit)) := R 77 [⟨t3, x0⟩, ⟨t3, x1⟩]
/-- loop.example/g00548/laws.eqEntry -/
noncomputable def c_laws_eqEntry (R : Run EE) (x0 : (Int × (Int × Unit))) (x1 : (Int × (Int × Unit))) : Option ((Bool × Unit)) := R 153 [⟨t4, x0⟩, ⟨t4, x1⟩]
/-- loop.example/g00548/laws.eqEntryS -/
noncomputable def c_laws_eqEntryS (R : Run EE) (x0 : List ((Int × (Int × Unit)))) (x1 : List ((Int × (Int × Unit)))) : Option ((Bool × Unit)) := R 79 [⟨(.sl t4), x0⟩, ⟨(.sl t4), x1⟩]
/-- loop.example/g00548/laws.eqOp -/
noncomputable def c_laws_eqOp (R : Run EE) (x0 : d15) (x1 : d15) : Option ((Bool × Unit)) := R 182 [⟨t5, x0⟩, ⟨t5, x1⟩]
/-- loop.example/g00548/laws.eqOpS -/
noncomputable def c_laws_eqOpS (R : Run EE) (x0 : List (d15)) (x1 : List (d15)) : Option ((Bool × Unit)) := R 98 [⟨(.sl t5), x0⟩, ⟨(.sl t5), x1⟩]
/-- loop.example/g00548/laws.eqTxn -/
noncomputable def c_laws_eqTxn (R : Run EE) (x0 : (List (d15) × Unit)) (x1 : (List (d15) × Unit)) : Option ((Bool × Unit)) := R 22 [⟨(.pair (.sl t5) .unit), x0⟩, ⟨(.pair (.sl t5) .unit), x1⟩]
/-- loop.example/g00548/laws.eqTxnS -/
noncomputable def c_laws_eqTxnS (R : Run EE) (x0 : List ((List (d15) × Unit))) (x1 : List ((List (d15) × Unit))) : Option ((Bool × Unit)) := R 35 [⟨(.sl (.pair (.sl t5) .unit)), x0⟩, ⟨(.sl (.pair (.sl t5) .unit)), x1⟩]
/-- loop.example/g00548/laws.eqTxnSS -/
noncomputable def c_laws_eqTxnSS (R : Run EE) (x0 : List (List ((List (d15) × Unit)))) (x1 : List (List ((List (d15) × Unit)))) : Option ((Bool × Unit)) := R 80 [⟨(.sl (.sl (.pair (.sl t5) .unit))), x0⟩, ⟨(.sl (.sl (.pair (.sl t5) .unit))), x1⟩]
/-- loop.example/g00548/laws.eqIntS -/
noncomputable def c_laws_eqIntS (R : Run EE) (x0 : List (Int)) (x1 : List (Int)) : Option ((Bool × Unit)) := R 21 [⟨(.sl (.int .i64)), x0⟩, ⟨(.sl (.int .i64)), x1⟩]
/-- loop.example/g00548/laws.eqResult -/
noncomputable def c_laws_eqResult (R : Run EE) (x0 : d16) (x1 : d16) : Option ((Bool × Unit)) := R 20 [⟨t6, x0⟩, ⟨t6, x1⟩]
/-- loop.example/g00548/laws.eqResultS -/
noncomputable def c_laws_eqResultS (R : Run EE) (x0 : List (d16)) (x1 : List (d16)) : Option ((Bool × Unit)) := R 34 [⟨(.sl t6), x0⟩, ⟨(.sl t6), x1⟩]
/-- loop.example/g00548/laws.eqWorld -/
noncomputable def c_laws_eqWorld (R : Run EE) (x0 : d17) (x1 : d17) : Option ((Bool × Unit)) := R 11 [⟨t7, x0⟩, ⟨t7, x1⟩]
/-- loop.example/g00548/laws.FnExactSameWorld -/
noncomputable def c_laws_FnExactSameWorld (R : Run EE) (x0 : d17) (x1 : d17) : Option ((Bool × Unit)) := R 3 [⟨t7, x0⟩, ⟨t7, x1⟩]

noncomputable def lp_laws_szStringS_0 (R : Run EE) (L : Loops) (v0 : List (List UInt8)) (v1 : Int) (v4 : Int) (v5 : Int) : Option ((Int × Unit)) := from_ EE R L 124 Go.Proofs.Tryz.f124 [1, 1, 1, 0, 1, 0] (mk 28 [(0, .dat ⟨(.sl .str), v0, .sh⟩), (1, .dat ⟨(.int .i64), v1, .sh⟩), (4, .dat ⟨(.int .i64), v4, .sh⟩), (5, .dat ⟨(.int .i64), v5, .sh⟩)])
noncomputable def lp_laws_szIoS_0 (R : Run EE) (L : Loops) (v0 : List (d12)) (v1 : Int) (v4 : Int) (v5 : Int) : Option ((Int × Unit)) := from_ EE R L 125 Go.Proofs.Tryz.f125 [1, 1, 1, 0, 1, 0] (mk 27 [(0, .dat ⟨(.sl t1), v0, .sh⟩), (1, .dat ⟨(.int .i64), v1, .sh⟩), (4, .dat ⟨(.int .i64), v4, .sh⟩), (5, .dat ⟨(.int .i64), v5, .sh⟩)])
noncomputable def lp_laws_szTxnS_0 (R : Run EE) (L : Loops) (v0 : List ((List (d15) × Unit))) (v1 : Int) (v4 : Int) (v5 : Int) : Option ((Int × Unit)) := from_ EE R L 30 Go.Proofs.Tryz.f30 [1, 1, 1, 0, 1, 0] (mk 27 [(0, .dat ⟨(.sl (.pair (.sl t5) .unit)), v0, .sh⟩), (1, .dat ⟨(.int .i64), v1, .sh⟩), (4, .dat ⟨(.int .i64), v4, .sh⟩), (5, .dat ⟨(.int .i64), v5, .sh⟩)])
noncomputable def lp_laws_szTxnSS_0 (R : Run EE) (L : Loops) (v0 : List (List ((List (d15) × Unit)))) (v1 : Int) (v4 : Int) (v5 : Int) : Option ((Int × Unit)) := from_ EE R L 58 Go.Proofs.Tryz.f58 [1, 1, 1, 0, 1, 0] (mk 27 [(0, .dat ⟨(.sl (.sl (.pair (.sl t5) .unit))), v0, .sh⟩), (1, .dat ⟨(.int .i64), v1, .sh⟩), (4, .dat ⟨(.int .i64), v4, .sh⟩), (5, .dat ⟨(.int .i64), v5, .sh⟩)])
noncomputable def lp_laws_szResultS_0 (R : Run EE) (L : Loops) (v0 : List (d16)) (v1 : Int) (v4 : Int) (v5 : Int) : Option ((Int × Unit)) := from_ EE R L 59 Go.Proofs.Tryz.f59 [1, 1, 1, 0, 1, 0] (mk 27 [(0, .dat ⟨(.sl t6), v0, .sh⟩), (1, .dat ⟨(.int .i64), v1, .sh⟩), (4, .dat ⟨(.int .i64), v4, .sh⟩), (5, .dat ⟨(.int .i64), v5, .sh⟩)])
noncomputable def lp_laws_toStringS_0 (R : Run EE) (L : Loops) (v0 : List (List UInt8)) (v2 : List (List UInt8)) (v3 : List (List UInt8)) (v4 : Int) : Option (d18) := from_ EE R L 133 Go.Proofs.Tryz.f133 [1, 1, 0, 1, 0] (mk 22 [(0, .dat ⟨(.sl .str), v0, .sh⟩), (2, .dat ⟨(.sl .str), v2, (.own .sh)⟩), (3, .dat ⟨(.sl .str), v3, (.own .sh)⟩), (4, .dat ⟨(.int .i64), v4, .sh⟩)])
noncomputable def lp_laws_toIoS_0 (R : Run EE) (L : Loops) (v0 : List (d12)) (v2 : List (d12)) (v3 : List (d12)) (v4 : Int) : Option ((List (d12) × Unit)) := from_ EE R L 134 Go.Proofs.Tryz.f134 [1, 1, 0, 1, 0] (mk 23 [(0, .dat ⟨(.sl t1), v0, .sh⟩), (2, .dat ⟨(.sl t1), v2, (.own .sh)⟩), (3, .dat ⟨(.sl t1), v3, (.own .sh)⟩), (4, .dat ⟨(.int .i64), v4, .sh⟩)])
noncomputable def lp_laws_toEntryS_0 (R : Run EE) (L : Loops) (v0 : List ((Int × (Int × Unit)))) (v2 : List ((Int × (Int × Unit)))) (v3 : List ((Int × (Int × Unit)))) (v4 : Int) : Option (d20) := from_ EE R L 67 Go.Proofs.Tryz.f67 [1, 1, 0, 1, 0] (mk 23 [(0, .dat ⟨(.sl t4), v0, .sh⟩), (2, .dat ⟨(.sl t4), v2, (.own .sh)⟩), (3, .dat ⟨(.sl t4), v3, (.own .sh)⟩), (4, .dat ⟨(.int .i64), v4, .sh⟩)])
noncomputable def lp_laws_toOpS_0 (R : Run EE) (L : Loops) (v0 : List (d15)) (v2 : List (d15)) (v3 : List (d15)) (v4 : Int) : Option ((List (d15) × Unit)) := from_ EE R L 90 Go.Proofs.Tryz.f90 [1, 1, 0, 1, 0] (mk 23 [(0, .dat ⟨(.sl t5), v0, .sh⟩), (2, .dat ⟨(.sl t5), v2, (.own .sh)⟩), (3, .dat ⟨(.sl t5), v3, (.own .sh)⟩), (4, .dat ⟨(.int .i64), v4, .sh⟩)])
noncomputable def lp_laws_toTxnS_0 (R : Run EE) (L : Loops) (v0 : List ((List (d15) × Unit))) (v2 : List ((List (d15) × Unit))) (v3 : List ((List (d15) × Unit))) (v4 : Int) : Option (d22) := from_ EE R L 32 Go.Proofs.Tryz.f32 [1, 1, 0, 1, 0] (mk 23 [(0, .dat ⟨(.sl (.pair (.sl t5) .unit)), v0, .sh⟩), (2, .dat ⟨(.sl (.pair (.sl t5) .unit)), v2, (.own (.pr (.own .sh) .sh))⟩), (3, .dat ⟨(.sl (.pair (.sl t5) .unit)), v3, (.own (.pr (.own .sh) .sh))⟩), (4, .dat ⟨(.int .i64), v4, .sh⟩)])
noncomputable def lp_laws_toTxnSS_0 (R : Run EE) (L : Loops) (v0 : List (List ((List (d15) × Unit)))) (v2 : List (List ((List (d15) × Unit)))) (v3 : List (List ((List (d15) × Unit)))) (v4 : Int) : Option (d23) := from_ EE R L 68 Go.Proofs.Tryz.f68 [1, 1, 0, 1, 0] (mk 23 [(0, .dat ⟨(.sl (.sl (.pair (.sl t5) .unit))), v0, .sh⟩), (2, .dat ⟨(.sl (.sl (.pair (.sl t5) .unit))), v2, (.own (.own .sh))⟩), (3, .dat ⟨(.sl (.sl (.pair (.sl t5) .unit))), v3, (.own (.own (.pr (.own .sh) .sh)))⟩), (4, .dat ⟨(.int .i64), v4, .sh⟩)])
noncomputable def lp_laws_toIntS_0 (R : Run EE) (L : Loops) (v0 : List (Int)) (v2 : List (Int)) (v3 : List (Int)) (v4 : Int) : Option ((List (Int) × Unit)) := from_ EE R L 17 Go.Proofs.Tryz.f17 [1, 1, 0, 1, 0] (mk 22 [(0, .dat ⟨(.sl (.int .i64)), v0, .sh⟩), (2, .dat ⟨(.sl (.int .i64)), v2, (.own .sh)⟩), (3, .dat ⟨(.sl (.int .i64)), v3, (.own .sh)⟩), (4, .dat ⟨(.int .i64), v4, .sh⟩)])
noncomputable def lp_laws_toResultS_0 (R : Run EE) (L : Loops) (v0 : List (d16)) (v2 : List (d16)) (v3 : List (d16)) (v4 : Int) : Option ((List (d16) × Unit)) := from_ EE R L 69 Go.Proofs.Tryz.f69 [1, 1, 0, 1, 0] (mk 23 [(0, .dat ⟨(.sl t6), v0, .sh⟩), (2, .dat ⟨(.sl t6), v2, (.own (.pr .sh (.pr (.own .sh) .sh)))⟩), (3, .dat ⟨(.sl t6), v3, (.own (.pr .sh (.pr (.own .sh) .sh)))⟩), (4, .dat ⟨(.int .i64), v4, .sh⟩)])
noncomputable def lp_spec_DeviceOK_0 (R : Run EE) (L : Loops) (v0 : d13) (v1 : d13) (v2 : Bool) (v3 : Int) : Option ((Bool × Unit)) := from_ EE R L 128 Go.Proofs.Tryz.f128 [1, 1, 0, 1, 0] (mk 54 [(0, .dat ⟨t2, v0, .sh⟩), (1, .dat ⟨(.ptr t2), v1, (.own .sh)⟩), (2, .dat ⟨.bool, v2, .sh⟩), (3, .dat ⟨(.int .i64), v3, .sh⟩)])
noncomputable def lp_spec_DeviceOK_1 (R : Run EE) (L : Loops) (v0 : d13) (v1 : d13) (v2 : Bool) (v3 : Int) (v4 : Int) : Option ((Bool × Unit)) := from_ EE R L 128 Go.Proofs.Tryz.f128 [1, 1, 1, 0, 1, 0] (mk 54 [(0, .dat ⟨t2, v0, .sh⟩), (1, .dat ⟨(.ptr t2), v1, (.own .sh)⟩), (2, .dat ⟨.bool, v2, .sh⟩), (3, .dat ⟨(.int .i64), v3, .sh⟩), (4, .dat ⟨(.int .i64), v4, .sh⟩)])
noncomputable def lp_spec_MapOK_0 (R : Run EE) (L : Loops) (v0 : List ((Int × (Int × Unit)))) (v2 : Bool) (v3 : Int) : Option ((Bool × Unit)) := from_ EE R L 129 Go.Proofs.Tryz.f129 [1, 1, 0, 1, 0] (mk 50 [(0, .dat ⟨(.sl t4), v0, .sh⟩), (2, .dat ⟨.bool, v2, .sh⟩), (3, .dat ⟨(.int .i64), v3, .sh⟩)])
noncomputable def lp_spec_l10ResultOK_0 (R : Run EE) (L : Loops) (v0 : d16) (v1 : d16) (v2 : Bool) (v3 : Int) : Option ((Bool × Unit)) := from_ EE R L 197 Go.Proofs.Tryz.f197 [1, 1, 0, 1, 0] (mk 39 [(0, .dat ⟨t6, v0, .sh⟩), (1, .dat ⟨(.ptr t6), v1, (.own .sh)⟩), (2, .dat ⟨.bool, v2, .sh⟩), (3, .dat ⟨(.int .i64), v3, .sh⟩)])
noncomputable def lp_spec_l12Results_0 (R : Run EE) (L : Loops) (v0 : List (d16)) (v2 : Bool) (v3 : Int) : Option ((Bool × Unit)) := from_ EE R L 111 Go.Proofs.Tryz.f111 [1, 0, 1, 0] (mk 19 [(0, .dat ⟨(.sl t6), v0, .sh⟩), (2, .dat ⟨.bool, v2, .sh⟩), (3, .dat ⟨(.int .i64), v3, .sh⟩)])
noncomputable def lp_spec_l09Txn_0 (R : Run EE) (L : Loops) (v0 : (List (d15) × Unit)) (v1 : (List (d15) × Unit)) (v2 : Bool) (v3 : Int) : Option ((Bool × Unit)) := from_ EE R L 86 Go.Proofs.Tryz.f86 [1, 0, 1, 0] (mk 22 [(0, .dat ⟨(.pair (.sl t5) .unit), v0, .sh⟩), (1, .dat ⟨(.ptr (.pair (.sl t5) .unit)), v1, (.own .sh)⟩), (2, .dat ⟨.bool, v2, .sh⟩), (3, .dat ⟨(.int .i64), v3, .sh⟩)])
noncomputable def lp_spec_BatchOK_0 (R : Run EE) (L : Loops) (v0 : List ((List (d15) × Unit))) (v2 : Bool) (v3 : Int) : Option ((Bool × Unit)) := from_ EE R L 102 Go.Proofs.Tryz.f102 [1, 1, 1, 0, 1, 0] (mk 23 [(0, .dat ⟨(.sl (.pair (.sl t5) .unit)), v0, .sh⟩), (2, .dat ⟨.bool, v2, .sh⟩), (3, .dat ⟨(.int .i64), v3, .sh⟩)])
noncomputable def lp_spec_WorldOK_0 (R : Run EE) (L : Loops) (v0 : d17) (v1 : d17) (v2 : Bool) (v3 : Int) : Option ((Bool × Unit)) := from_ EE R L 60 Go.Proofs.Tryz.f60 [1, 1, 0, 1, 0] (mk 62 [(0, .dat ⟨t7, v0, .sh⟩), (1, .dat ⟨(.ptr t7), v1, (.own .sh)⟩), (2, .dat ⟨.bool, v2, .sh⟩), (3, .dat ⟨(.int .i64), v3, .sh⟩)])
noncomputable def lp_spec_SameDevice_0 (R : Run EE) (L : Loops) (v0 : d13) (v1 : d13) (v2 : d13) (v3 : d13) (v4 : Bool) (v5 : Int) : Option ((Bool × Unit)) := from_ EE R L 62 Go.Proofs.Tryz.f62 [1, 1, 0, 1, 0] (mk 59 [(0, .dat ⟨t2, v0, .sh⟩), (1, .dat ⟨t2, v1, .sh⟩), (2, .dat ⟨(.ptr t2), v2, (.own .sh)⟩), (3, .dat ⟨(.ptr t2), v3, (.own .sh)⟩), (4, .dat ⟨.bool, v4, .sh⟩), (5, .dat ⟨(.int .i64), v5, .sh⟩)])
noncomputable def lp_spec_SameDevice_1 (R : Run EE) (L : Loops) (v0 : d13) (v1 : d13) (v2 : d13) (v3 : d13) (v4 : Bool) (v5 : Int) (v6 : Int) : Option ((Bool × Unit)) := from_ EE R L 62 Go.Proofs.Tryz.f62 [1, 1, 1, 0, 1, 0] (mk 59 [(0, .dat ⟨t2, v0, .sh⟩), (1, .dat ⟨t2, v1, .sh⟩), (2, .dat ⟨(.ptr t2), v2, (.own .sh)⟩), (3, .dat ⟨(.ptr t2), v3, (.own .sh)⟩), (4, .dat ⟨.bool, v4, .sh⟩), (5, .dat ⟨(.int .i64), v5, .sh⟩), (6, .dat ⟨(.int .i64), v6, .sh⟩)])
noncomputable def lp_spec_l10Text_0 (R : Run EE) (L : Loops) (v0 : d16) (v1 : d16) (v2 : List UInt8) (v3 : List UInt8) (v4 : Int) : Option ((List UInt8 × Unit)) := from_ EE R L 130 Go.Proofs.Tryz.f130 [1, 1, 0, 1, 0] (mk 25 [(0, .dat ⟨t6, v0, .sh⟩), (1, .dat ⟨(.ptr t6), v1, (.own .sh)⟩), (2, .dat ⟨.str, v2, .sh⟩), (3, .dat ⟨.str, v3, .sh⟩), (4, .dat ⟨(.int .i64), v4, .sh⟩)])
noncomputable def lp_spec_l14Results_0 (R : Run EE) (L : Loops) (v0 : List (d16)) (v1 : List (d16)) (v4 : Bool) (v5 : Int) : Option ((Bool × Unit)) := from_ EE R L 63 Go.Proofs.Tryz.f63 [1, 1, 0, 1, 0] (mk 28 [(0, .dat ⟨(.sl t6), v0, .sh⟩), (1, .dat ⟨(.sl t6), v1, .sh⟩), (4, .dat ⟨.bool, v4, .sh⟩), (5, .dat ⟨(.int .i64), v5, .sh⟩)])
noncomputable def lp_spec_l00Join_0 (R : Run EE) (L : Loops) (v0 : List (List UInt8)) (v1 : List UInt8) (v4 : List UInt8) (v5 : List UInt8) (v6 : Int) : Option ((List UInt8 × Unit)) := from_ EE R L 217 Go.Proofs.Tryz.f217 [1, 1, 0, 1, 0] (mk 25 [(0, .dat ⟨(.sl .str), v0, .sh⟩), (1, .dat ⟨.str, v1, .sh⟩), (4, .dat ⟨.str, v4, .sh⟩), (5, .dat ⟨.str, v5, .sh⟩), (6, .dat ⟨(.int .i64), v6, .sh⟩)])
noncomputable def lp_spec_l09Text_0 (R : Run EE) (L : Loops) (v0 : List ((List (d15) × Unit))) (v2 : List UInt8) (v3 : List (List UInt8)) (v4 : Int) : Option ((List UInt8 × Unit)) := from_ EE R L 131 Go.Proofs.Tryz.f131 [1, 1, 0, 1, 0] (mk 44 [(0, .dat ⟨(.sl (.pair (.sl t5) .unit)), v0, .sh⟩), (2, .dat ⟨.str, v2, .sh⟩), (3, .dat ⟨(.sl .str), v3, (.own .sh)⟩), (4, .dat ⟨(.int .i64), v4, .sh⟩)])
noncomputable def lp_spec_l09Text_1 (R : Run EE) (L : Loops) (v0 : List ((List (d15) × Unit))) (v2 : List UInt8) (v3 : List (List UInt8)) (v4 : Int) (v5 : List (List UInt8)) (v6 : Int) : Option ((List UInt8 × Unit)) := from_ EE R L 131 Go.Proofs.Tryz.f131 [1, 1, 0, 1, 0, 0, 1, 0, 0, 1, 0, 1, 0] (mk 44 [(0, .dat ⟨(.sl (.pair (.sl t5) .unit)), v0, .sh⟩), (2, .dat ⟨.str, v2, .sh⟩), (3, .dat ⟨(.sl .str), v3, (.own .sh)⟩), (4, .dat ⟨(.int .i64), v4, .sh⟩), (5, .dat ⟨(.sl .str), v5, (.own .sh)⟩), (6, .dat ⟨(.int .i64), v6, .sh⟩)])
noncomputable def lp_spec_l09Text_2 (R : Run EE) (L : Loops) (v0 : List ((List (d15) × Unit))) (v2 : List UInt8) (v3 : List (List UInt8)) (v4 : Int) (v5 : List (List UInt8)) (v6 : Int) : Option ((List UInt8 × Unit)) := from_ EE R L 131 Go.Proofs.Tryz.f131 [1, 1, 0, 1, 0] (mk 44 [(0, .dat ⟨(.sl (.pair (.sl t5) .unit)), v0, .sh⟩), (2, .dat ⟨.str, v2, .sh⟩), (3, .dat ⟨(.sl .str), v3, (.own .sh)⟩), (4, .dat ⟨(.int .i64), v4, .sh⟩), (5, .dat ⟨(.sl .str), v5, (.own .sh)⟩), (6, .dat ⟨(.int .i64), v6, .sh⟩)])
noncomputable def lp_spec_SameWorld_0 (R : Run EE) (L : Loops) (v0 : d17) (v1 : d17) (v2 : d17) (v3 : d17) (v4 : Bool) (v5 : Int) : Option ((Bool × Unit)) := from_ EE R L 8 Go.Proofs.Tryz.f8 [1, 1, 0, 1, 0] (mk 101 [(0, .dat ⟨t7, v0, .sh⟩), (1, .dat ⟨t7, v1, .sh⟩), (2, .dat ⟨(.ptr t7), v2, (.own .sh)⟩), (3, .dat ⟨(.ptr t7), v3, (.own .sh)⟩), (4, .dat ⟨.bool, v4, .sh⟩), (5, .dat ⟨(.int .i64), v5, .sh⟩)])
noncomputable def lp_spec_SameWorld_1 (R : Run EE) (L : Loops) (v0 : d17) (v1 : d17) (v2 : d17) (v3 : d17) (v4 : Bool) (v5 : Int) (v6 : Int) : Option ((Bool × Unit)) := from_ EE R L 8 Go.Proofs.Tryz.f8 [1, 1, 1, 0, 1, 0] (mk 101 [(0, .dat ⟨t7, v0, .sh⟩), (1, .dat ⟨t7, v1, .sh⟩), (2, .dat ⟨(.ptr t7), v2, (.own .sh)⟩), (3, .dat ⟨(.ptr t7), v3, (.own .sh)⟩), (4, .dat ⟨.bool, v4, .sh⟩), (5, .dat ⟨(.int .i64), v5, .sh⟩), (6, .dat ⟨(.int .i64), v6, .sh⟩)])
noncomputable def lp_slices_IndexFunc___string_string__0 (R : Run EE) (L : Loops) (v0 : List (List UInt8)) (v1 : FnVal) (v4 : Int) (v7 : Int) (v8 : Int) : Option ((Int × Unit)) := from_ EE R L 293 Go.Proofs.Tryz.f293 [1, 0, 1, 0] (mk 19 [(0, .dat ⟨(.sl .str), v0, .sh⟩), (1, .dat ⟨.fn, v1, .sh⟩), (4, .dat ⟨(.int .i64), v4, .sh⟩), (7, .dat ⟨(.int .i64), v7, .sh⟩), (8, .dat ⟨(.int .i64), v8, .sh⟩)])
noncomputable def lp_slices_IndexFunc___string_string__1 (R : Run EE) (L : Loops) (v0 : List (List UInt8)) (v1 : FnVal) (v4 : Int) (v5 : Int) (v7 : Int) (v8 : Int) : Option ((Int × Unit)) := from_ EE R L 293 Go.Proofs.Tryz.f293 [1, 0, 1, 0] (mk 19 [(0, .dat ⟨(.sl .str), v0, .sh⟩), (1, .dat ⟨.fn, v1, .sh⟩), (4, .dat ⟨(.int .i64), v4, .sh⟩), (5, .dat ⟨(.int .i64), v5, .sh⟩), (7, .dat ⟨(.int .i64), v7, .sh⟩), (8, .dat ⟨(.int .i64), v8, .sh⟩)])
noncomputable def lp_slices_IndexFunc___impl_Io_impl_Io__0 (R : Run EE) (L : Loops) (v0 : List (d12)) (v1 : FnVal) (v4 : Int) (v7 : Int) (v8 : Int) : Option ((Int × Unit)) := from_ EE R L 306 Go.Proofs.Tryz.f306 [1, 0, 1, 0] (mk 19 [(0, .dat ⟨(.sl t1), v0, .sh⟩), (1, .dat ⟨.fn, v1, .sh⟩), (4, .dat ⟨(.int .i64), v4, .sh⟩), (7, .dat ⟨(.int .i64), v7, .sh⟩), (8, .dat ⟨(.int .i64), v8, .sh⟩)])
noncomputable def lp_slices_IndexFunc___impl_Io_impl_Io__1 (R : Run EE) (L : Loops) (v0 : List (d12)) (v1 : FnVal) (v4 : Int) (v5 : Int) (v7 : Int) (v8 : Int) : Option ((Int × Unit)) := from_ EE R L 306 Go.Proofs.Tryz.f306 [1, 0, 1, 0] (mk 19 [(0, .dat ⟨(.sl t1), v0, .sh⟩), (1, .dat ⟨.fn, v1, .sh⟩), (4, .dat ⟨(.int .i64), v4, .sh⟩), (5, .dat ⟨(.int .i64), v5, .sh⟩), (7, .dat ⟨(.int .i64), v7, .sh⟩), (8, .dat ⟨(.int .i64), v8, .sh⟩)])
noncomputable def lp_impl_MapOK_0 (R : Run EE) (L : Loops) (v0 : List ((Int × (Int × Unit)))) (v2 : Bool) (v5 : List ((Int × (Int × Unit)))) (v6 : Int) (v7 : Int) : Option ((Bool × Unit)) := from_ EE R L 139 Go.Proofs.Tryz.f139 [1, 0, 1, 0] (mk 41 [(0, .dat ⟨(.sl t4), v0, .sh⟩), (2, .dat ⟨.bool, v2, .sh⟩), (5, .dat ⟨(.sl t4), v5, .sh⟩), (6, .dat ⟨(.int .i64), v6, .sh⟩), (7, .dat ⟨(.int .i64), v7, .sh⟩)])
noncomputable def lp_impl_MapOK_1 (R : Run EE) (L : Loops) (v0 : List ((Int × (Int × Unit)))) (v2 : Bool) (v3 : Int) (v4 : (Int × (Int × Unit))) (v5 : List ((Int × (Int × Unit)))) (v6 : Int) (v7 : Int) : Option ((Bool × Unit)) := from_ EE R L 139 Go.Proofs.Tryz.f139 [1, 0, 1, 0] (mk 41 [(0, .dat ⟨(.sl t4), v0, .sh⟩), (2, .dat ⟨.bool, v2, .sh⟩), (3, .dat ⟨(.int .i64), v3, .sh⟩), (4, .dat ⟨(.ptr t4), v4, (.own .sh)⟩), (5, .dat ⟨(.sl t4), v5, .sh⟩), (6, .dat ⟨(.int .i64), v6, .sh⟩), (7, .dat ⟨(.int .i64), v7, .sh⟩)])
noncomputable def lp_slices_IndexFunc_____impl_Txn___impl_Txn__0 (R : Run EE) (L : Loops) (v0 : List (List ((List (d15) × Unit)))) (v1 : FnVal) (v4 : Int) (v7 : Int) (v8 : Int) : Option ((Int × Unit)) := from_ EE R L 269 Go.Proofs.Tryz.f269 [1, 0, 1, 0] (mk 19 [(0, .dat ⟨(.sl (.sl (.pair (.sl t5) .unit))), v0, .sh⟩), (1, .dat ⟨.fn, v1, .sh⟩), (4, .dat ⟨(.int .i64), v4, .sh⟩), (7, .dat ⟨(.int .i64), v7, .sh⟩), (8, .dat ⟨(.int .i64), v8, .sh⟩)])
noncomputable def lp_slices_IndexFunc_____impl_Txn___impl_Txn__1 (R : Run EE) (L : Loops) (v0 : List (List ((List (d15) × Unit)))) (v1 : FnVal) (v4 : Int) (v5 : Int) (v7 : Int) (v8 : Int) : Option ((Int × Unit)) := from_ EE R L 269 Go.Proofs.Tryz.f269 [1, 0, 1, 0] (mk 19 [(0, .dat ⟨(.sl (.sl (.pair (.sl t5) .unit))), v0, .sh⟩), (1, .dat ⟨.fn, v1, .sh⟩), (4, .dat ⟨(.int .i64), v4, .sh⟩), (5, .dat ⟨(.int .i64), v5, .sh⟩), (7, .dat ⟨(.int .i64), v7, .sh⟩), (8, .dat ⟨(.int .i64), v8, .sh⟩)])
noncomputable def lp_slices_IndexFunc___impl_Txn_impl_Txn__0 (R : Run EE) (L : Loops) (v0 : List ((List (d15) × Unit))) (v1 : FnVal) (v4 : Int) (v7 : Int) (v8 : Int) : Option ((Int × Unit)) := from_ EE R L 285 Go.Proofs.Tryz.f285 [1, 0, 1, 0] (mk 19 [(0, .dat ⟨(.sl (.pair (.sl t5) .unit)), v0, .sh⟩), (1, .dat ⟨.fn, v1, .sh⟩), (4, .dat ⟨(.int .i64), v4, .sh⟩), (7, .dat ⟨(.int .i64), v7, .sh⟩), (8, .dat ⟨(.int .i64), v8, .sh⟩)])
noncomputable def lp_slices_IndexFunc___impl_Txn_impl_Txn__1 (R : Run EE) (L : Loops) (v0 : List ((List (d15) × Unit))) (v1 : FnVal) (v4 : Int) (v5 : Int) (v7 : Int) (v8 : Int) : Option ((Int × Unit)) := from_ EE R L 285 Go.Proofs.Tryz.f285 [1, 0, 1, 0] (mk 19 [(0, .dat ⟨(.sl (.pair (.sl t5) .unit)), v0, .sh⟩), (1, .dat ⟨.fn, v1, .sh⟩), (4, .dat ⟨(.int .i64), v4, .sh⟩), (5, .dat ⟨(.int .i64), v5, .sh⟩), (7, .dat ⟨(.int .i64), v7, .sh⟩), (8, .dat ⟨(.int .i64), v8, .sh⟩)])
noncomputable def lp_slices_IndexFunc___impl_Op_impl_Op__0 (R : Run EE) (L : Loops) (v0 : List (d15)) (v1 : FnVal) (v4 : Int) (v7 : Int) (v8 : Int) : Option ((Int × Unit)) := from_ EE R L 276 Go.Proofs.Tryz.f276 [1, 0, 1, 0] (mk 19 [(0, .dat ⟨(.sl t5), v0, .sh⟩), (1, .dat ⟨.fn, v1, .sh⟩), (4, .dat ⟨(.int .i64), v4, .sh⟩), (7, .dat ⟨(.int .i64), v7, .sh⟩), (8, .dat ⟨(.int .i64), v8, .sh⟩)])
noncomputable def lp_slices_IndexFunc___impl_Op_impl_Op__1 (R : Run EE) (L : Loops) (v0 : List (d15)) (v1 : FnVal) (v4 : Int) (v5 : Int) (v7 : Int) (v8 : Int) : Option ((Int × Unit)) := from_ EE R L 276 Go.Proofs.Tryz.f276 [1, 0, 1, 0] (mk 19 [(0, .dat ⟨(.sl t5), v0, .sh⟩), (1, .dat ⟨.fn, v1, .sh⟩), (4, .dat ⟨(.int .i64), v4, .sh⟩), (5, .dat ⟨(.int .i64), v5, .sh⟩), (7, .dat ⟨(.int .i64), v7, .sh⟩), (8, .dat ⟨(.int .i64), v8, .sh⟩)])
noncomputable def lp_slices_IndexFunc___impl_Result_impl_Result__0 (R : Run EE) (L : Loops) (v0 : List (d16)) (v1 : FnVal) (v4 : Int) (v7 : Int) (v8 : Int) : Option ((Int × Unit)) := from_ EE R L 288 Go.Proofs.Tryz.f288 [1, 0, 1, 0] (mk 19 [(0, .dat ⟨(.sl t6), v0, .sh⟩), (1, .dat ⟨.fn, v1, .sh⟩), (4, .dat ⟨(.int .i64), v4, .sh⟩), (7, .dat ⟨(.int .i64), v7, .sh⟩), (8, .dat ⟨(.int .i64), v8, .sh⟩)])
noncomputable def lp_slices_IndexFunc___impl_Result_impl_Result__1 (R : Run EE) (L : Loops) (v0 : List (d16)) (v1 : FnVal) (v4 : Int) (v5 : Int) (v7 : Int) (v8 : Int) : Option ((Int × Unit)) := from_ EE R L 288 Go.Proofs.Tryz.f288 [1, 0, 1, 0] (mk 19 [(0, .dat ⟨(.sl t6), v0, .sh⟩), (1, .dat ⟨.fn, v1, .sh⟩), (4, .dat ⟨(.int .i64), v4, .sh⟩), (5, .dat ⟨(.int .i64), v5, .sh⟩), (7, .dat ⟨(.int .i64), v7, .sh⟩), (8, .dat ⟨(.int .i64), v8, .sh⟩)])
noncomputable def lp_slices_IndexFunc___int_int__0 (R : Run EE) (L : Loops) (v0 : List (Int)) (v1 : FnVal) (v4 : Int) (v7 : Int) (v8 : Int) : Option ((Int × Unit)) := from_ EE R L 271 Go.Proofs.Tryz.f271 [1, 0, 1, 0] (mk 19 [(0, .dat ⟨(.sl (.int .i64)), v0, .sh⟩), (1, .dat ⟨.fn, v1, .sh⟩), (4, .dat ⟨(.int .i64), v4, .sh⟩), (7, .dat ⟨(.int .i64), v7, .sh⟩), (8, .dat ⟨(.int .i64), v8, .sh⟩)])
noncomputable def lp_slices_IndexFunc___int_int__1 (R : Run EE) (L : Loops) (v0 : List (Int)) (v1 : FnVal) (v4 : Int) (v5 : Int) (v7 : Int) (v8 : Int) : Option ((Int × Unit)) := from_ EE R L 271 Go.Proofs.Tryz.f271 [1, 0, 1, 0] (mk 19 [(0, .dat ⟨(.sl (.int .i64)), v0, .sh⟩), (1, .dat ⟨.fn, v1, .sh⟩), (4, .dat ⟨(.int .i64), v4, .sh⟩), (5, .dat ⟨(.int .i64), v5, .sh⟩), (7, .dat ⟨(.int .i64), v7, .sh⟩), (8, .dat ⟨(.int .i64), v8, .sh⟩)])
noncomputable def lp_slices_Equal___string_string__0 (R : Run EE) (L : Loops) (v0 : List (List UInt8)) (v1 : List (List UInt8)) (v4 : Bool) (v12 : Int) (v13 : Int) : Option ((Bool × Unit)) := from_ EE R L 142 Go.Proofs.Tryz.f142 [1, 1, 0, 1, 0] (mk 26 [(0, .dat ⟨(.sl .str), v0, .sh⟩), (1, .dat ⟨(.sl .str), v1, .sh⟩), (4, .dat ⟨.bool, v4, .sh⟩), (12, .dat ⟨(.int .i64), v12, .sh⟩), (13, .dat ⟨(.int .i64), v13, .sh⟩)])
noncomputable def lp_slices_Equal___string_string__1 (R : Run EE) (L : Loops) (v0 : List (List UInt8)) (v1 : List (List UInt8)) (v4 : Bool) (v5 : Int) (v12 : Int) (v13 : Int) : Option ((Bool × Unit)) := from_ EE R L 142 Go.Proofs.Tryz.f142 [1, 1, 0, 1, 0] (mk 26 [(0, .dat ⟨(.sl .str), v0, .sh⟩), (1, .dat ⟨(.sl .str), v1, .sh⟩), (4, .dat ⟨.bool, v4, .sh⟩), (5, .dat ⟨(.int .i64), v5, .sh⟩), (12, .dat ⟨(.int .i64), v12, .sh⟩), (13, .dat ⟨(.int .i64), v13, .sh⟩)])
noncomputable def lp_slices_Equal___impl_Io_impl_Io__0 (R : Run EE) (L : Loops) (v0 : List (d12)) (v1 : List (d12)) (v4 : Bool) (v12 : Int) (v13 : Int) : Option ((Bool × Unit)) := from_ EE R L 143 Go.Proofs.Tryz.f143 [1, 1, 0, 1, 0] (mk 26 [(0, .dat ⟨(.sl t1), v0, .sh⟩), (1, .dat ⟨(.sl t1), v1, .sh⟩), (4, .dat ⟨.bool, v4, .sh⟩), (12, .dat ⟨(.int .i64), v12, .sh⟩), (13, .dat ⟨(.int .i64), v13, .sh⟩)])
noncomputable def lp_slices_Equal___impl_Io_impl_Io__1 (R : Run EE) (L : Loops) (v0 : List (d12)) (v1 : List (d12)) (v4 : Bool) (v5 : Int) (v12 : Int) (v13 : Int) : Option ((Bool × Unit)) := from_ EE R L 143 Go.Proofs.Tryz.f143 [1, 1, 0, 1, 0] (mk 26 [(0, .dat ⟨(.sl t1), v0, .sh⟩), (1, .dat ⟨(.sl t1), v1, .sh⟩), (4, .dat ⟨.bool, v4, .sh⟩), (5, .dat ⟨(.int .i64), v5, .sh⟩), (12, .dat ⟨(.int .i64), v12, .sh⟩), (13, .dat ⟨(.int .i64), v13, .sh⟩)])
noncomputable def lp_slices_Equal___impl_Entry_impl_Entry__0 (R : Run EE) (L : Loops) (v0 : List ((Int × (Int × Unit)))) (v1 : List ((Int × (Int × Unit)))) (v4 : Bool) (v12 : Int) (v13 : Int) : Option ((Bool × Unit)) := from_ EE R L 73 Go.Proofs.Tryz.f73 [1, 1, 0, 1, 0] (mk 26 [(0, .dat ⟨(.sl t4), v0, .sh⟩), (1, .dat ⟨(.sl t4), v1, .sh⟩), (4, .dat ⟨.bool, v4, .sh⟩), (12, .dat ⟨(.int .i64), v12, .sh⟩), (13, .dat ⟨(.int .i64), v13, .sh⟩)])
noncomputable def lp_slices_Equal___impl_Entry_impl_Entry__1 (R : Run EE) (L : Loops) (v0 : List ((Int × (Int × Unit)))) (v1 : List ((Int × (Int × Unit)))) (v4 : Bool) (v5 : Int) (v12 : Int) (v13 : Int) : Option ((Bool × Unit)) := from_ EE R L 73 Go.Proofs.Tryz.f73 [1, 1, 0, 1, 0] (mk 26 [(0, .dat ⟨(.sl t4), v0, .sh⟩), (1, .dat ⟨(.sl t4), v1, .sh⟩), (4, .dat ⟨.bool, v4, .sh⟩), (5, .dat ⟨(.int .i64), v5, .sh⟩), (12, .dat ⟨(.int .i64), v12, .sh⟩), (13, .dat ⟨(.int .i64), v13, .sh⟩)])
noncomputable def lp_slices_EqualFunc_____impl_Txn_____impl_Txn___impl_Txn___impl_Txn__0 (R : Run EE) (L : Loops) (v0 : List (List ((List (d15) × Unit)))) (v1 : List (List ((List (d15) × Unit)))) (v2 : FnVal) (v6 : Bool) (v15 : List (List ((List (d15) × Unit)))) (v16 : Int) (v17 : Int) : Option ((Bool × Unit)) := from_ EE R L 74 Go.Proofs.Tryz.f74 [1, 1, 0, 1, 0] (mk 32 [(0, .dat ⟨(.sl (.sl (.pair (.sl t5) .unit))), v0, .sh⟩), (1, .dat ⟨(.sl (.sl (.pair (.sl t5) .unit))), v1, .sh⟩), (2, .dat ⟨.fn, v2, .sh⟩), (6, .dat ⟨.bool, v6, .sh⟩), (15, .dat ⟨(.sl (.sl (.pair (.sl t5) .unit))), v15, .sh⟩), (16, .dat ⟨(.int .i64), v16, .sh⟩), (17, .dat ⟨(.int .i64), v17, .sh⟩)])
noncomputable def lp_slices_EqualFunc_____impl_Txn_____impl_Txn___impl_Txn___impl_Txn__1 (R : Run EE) (L : Loops) (v0 : List (List ((List (d15) × Unit)))) (v1 : List (List ((List (d15) × Unit)))) (v2 : FnVal) (v6 : Bool) (v7 : Int) (v8 : List ((List (d15) × Unit))) (v9 : List ((List (d15) × Unit))) (v15 : List (List ((List (d15) × Unit)))) (v16 : Int) (v17 : Int) : Option ((Bool × Unit)) := from_ EE R L 74 Go.Proofs.Tryz.f74 [1, 1, 0, 1, 0] (mk 32 [(0, .dat ⟨(.sl (.sl (.pair (.sl t5) .unit))), v0, .sh⟩), (1, .dat ⟨(.sl (.sl (.pair (.sl t5) .unit))), v1, .sh⟩), (2, .dat ⟨.fn, v2, .sh⟩), (6, .dat ⟨.bool, v6, .sh⟩), (7, .dat ⟨(.int .i64), v7, .sh⟩), (8, .dat ⟨(.sl (.pair (.sl t5) .unit)), v8, .sh⟩), (9, .dat ⟨(.sl (.pair (.sl t5) .unit)), v9, .sh⟩), (15, .dat ⟨(.sl (.sl (.pair (.sl t5) .unit))), v15, .sh⟩), (16, .dat ⟨(.int .i64), v16, .sh⟩), (17, .dat ⟨(.int .i64), v17, .sh⟩)])
noncomputable def lp_slices_EqualFunc___impl_Txn___impl_Txn_impl_Txn_impl_Txn__0 (R : Run EE) (L : Loops) (v0 : List ((List (d15) × Unit))) (v1 : List ((List (d15) × Unit))) (v2 : FnVal) (v6 : Bool) (v15 : List ((List (d15) × Unit))) (v16 : Int) (v17 : Int) : Option ((Bool × Unit)) := from_ EE R L 144 Go.Proofs.Tryz.f144 [1, 1, 0, 1, 0] (mk 32 [(0, .dat ⟨(.sl (.pair (.sl t5) .unit)), v0, .sh⟩), (1, .dat ⟨(.sl (.pair (.sl t5) .unit)), v1, .sh⟩), (2, .dat ⟨.fn, v2, .sh⟩), (6, .dat ⟨.bool, v6, .sh⟩), (15, .dat ⟨(.sl (.pair (.sl t5) .unit)), v15, .sh⟩), (16, .dat ⟨(.int .i64), v16, .sh⟩), (17, .dat ⟨(.int .i64), v17, .sh⟩)])
noncomputable def lp_slices_EqualFunc___impl_Txn___impl_Txn_impl_Txn_impl_Txn__1 (R : Run EE) (L : Loops) (v0 : List ((List (d15) × Unit))) (v1 : List ((List (d15) × Unit))) (v2 : FnVal) (v6 : Bool) (v7 : Int) (v8 : (List (d15) × Unit)) (v9 : (List (d15) × Unit)) (v15 : List ((List (d15) × Unit))) (v16 : Int) (v17 : Int) : Option ((Bool × Unit)) := from_ EE R L 144 Go.Proofs.Tryz.f144 [1, 1, 0, 1, 0] (mk 32 [(0, .dat ⟨(.sl (.pair (.sl t5) .unit)), v0, .sh⟩), (1, .dat ⟨(.sl (.pair (.sl t5) .unit)), v1, .sh⟩), (2, .dat ⟨.fn, v2, .sh⟩), (6, .dat ⟨.bool, v6, .sh⟩), (7, .dat ⟨(.int .i64), v7, .sh⟩), (8, .dat ⟨(.ptr (.pair (.sl t5) .unit)), v8, (.own .sh)⟩), (9, .dat ⟨(.ptr (.pair (.sl t5) .unit)), v9, (.own .sh)⟩), (15, .dat ⟨(.sl (.pair (.sl t5) .unit)), v15, .sh⟩), (16, .dat ⟨(.int .i64), v16, .sh⟩), (17, .dat ⟨(.int .i64), v17, .sh⟩)])
noncomputable def lp_slices_Equal___impl_Op_impl_Op__0 (R : Run EE) (L : Loops) (v0 : List (d15)) (v1 : List (d15)) (v4 : Bool) (v12 : Int) (v13 : Int) : Option ((Bool × Unit)) := from_ EE R L 146 Go.Proofs.Tryz.f146 [1, 1, 0, 1, 0] (mk 26 [(0, .dat ⟨(.sl t5), v0, .sh⟩), (1, .dat ⟨(.sl t5), v1, .sh⟩), (4, .dat ⟨.bool, v4, .sh⟩), (12, .dat ⟨(.int .i64), v12, .sh⟩), (13, .dat ⟨(.int .i64), v13, .sh⟩)])
noncomputable def lp_slices_Equal___impl_Op_impl_Op__1 (R : Run EE) (L : Loops) (v0 : List (d15)) (v1 : List (d15)) (v4 : Bool) (v5 : Int) (v12 : Int) (v13 : Int) : Option ((Bool × Unit)) := from_ EE R L 146 Go.Proofs.Tryz.f146 [1, 1, 0, 1, 0] (mk 26 [(0, .dat ⟨(.sl t5), v0, .sh⟩), (1, .dat ⟨(.sl t5), v1, .sh⟩), (4, .dat ⟨.bool, v4, .sh⟩), (5, .dat ⟨(.int .i64), v5, .sh⟩), (12, .dat ⟨(.int .i64), v12, .sh⟩), (13, .dat ⟨(.int .i64), v13, .sh⟩)])
noncomputable def lp_slices_EqualFunc___impl_Result___impl_Result_impl_Result_impl_Result__0 (R : Run EE) (L : Loops) (v0 : List (d16)) (v1 : List (d16)) (v2 : FnVal) (v6 : Bool) (v15 : List (d16)) (v16 : Int) (v17 : Int) : Option ((Bool × Unit)) := from_ EE R L 147 Go.Proofs.Tryz.f147 [1, 1, 0, 1, 0] (mk 32 [(0, .dat ⟨(.sl t6), v0, .sh⟩), (1, .dat ⟨(.sl t6), v1, .sh⟩), (2, .dat ⟨.fn, v2, .sh⟩), (6, .dat ⟨.bool, v6, .sh⟩), (15, .dat ⟨(.sl t6), v15, .sh⟩), (16, .dat ⟨(.int .i64), v16, .sh⟩), (17, .dat ⟨(.int .i64), v17, .sh⟩)])
noncomputable def lp_slices_EqualFunc___impl_Result___impl_Result_impl_Result_impl_Result__1 (R : Run EE) (L : Loops) (v0 : List (d16)) (v1 : List (d16)) (v2 : FnVal) (v6 : Bool) (v7 : Int) (v8 : d16) (v9 : d16) (v15 : List (d16)) (v16 : Int) (v17 : Int) : Option ((Bool × Unit)) := from_ EE R L 147 Go.Proofs.Tryz.f147 [1, 1, 0, 1, 0] (mk 32 [(0, .dat ⟨(.sl t6), v0, .sh⟩), (1, .dat ⟨(.sl t6), v1, .sh⟩), (2, .dat ⟨.fn, v2, .sh⟩), (6, .dat ⟨.bool, v6, .sh⟩), (7, .dat ⟨(.int .i64), v7, .sh⟩), (8, .dat ⟨(.ptr t6), v8, (.own .sh)⟩), (9, .dat ⟨(.ptr t6), v9, (.own .sh)⟩), (15, .dat ⟨(.sl t6), v15, .sh⟩), (16, .dat ⟨(.int .i64), v16, .sh⟩), (17, .dat ⟨(.int .i64), v17, .sh⟩)])
noncomputable def lp_slices_Equal___int_int__0 (R : Run EE) (L : Loops) (v0 : List (Int)) (v1 : List (Int)) (v4 : Bool) (v12 : Int) (v13 : Int) : Option ((Bool × Unit)) := from_ EE R L 149 Go.Proofs.Tryz.f149 [1, 1, 0, 1, 0] (mk 26 [(0, .dat ⟨(.sl (.int .i64)), v0, .sh⟩), (1, .dat ⟨(.sl (.int .i64)), v1, .sh⟩), (4, .dat ⟨.bool, v4, .sh⟩), (12, .dat ⟨(.int .i64), v12, .sh⟩), (13, .dat ⟨(.int .i64), v13, .sh⟩)])
noncomputable def lp_slices_Equal___int_int__1 (R : Run EE) (L : Loops) (v0 : List (Int)) (v1 : List (Int)) (v4 : Bool) (v5 : Int) (v12 : Int) (v13 : Int) : Option ((Bool × Unit)) := from_ EE R L 149 Go.Proofs.Tryz.f149 [1, 1, 0, 1, 0] (mk 26 [(0, .dat ⟨(.sl (.int .i64)), v0, .sh⟩), (1, .dat ⟨(.sl (.int .i64)), v1, .sh⟩), (4, .dat ⟨.bool, v4, .sh⟩), (5, .dat ⟨(.int .i64), v5, .sh⟩), (12, .dat ⟨(.int .i64), v12, .sh⟩), (13, .dat ⟨(.int .i64), v13, .sh⟩)])
noncomputable def lp_laws_eqStringS_0 (R : Run EE) (L : Loops) (v0 : List (List UInt8)) (v1 : List (List UInt8)) (v4 : Bool) (v5 : Int) : Option ((Bool × Unit)) := from_ EE R L 151 Go.Proofs.Tryz.f151 [1, 1, 0, 1, 0] (mk 26 [(0, .dat ⟨(.sl .str), v0, .sh⟩), (1, .dat ⟨(.sl .str), v1, .sh⟩), (4, .dat ⟨.bool, v4, .sh⟩), (5, .dat ⟨(.int .i64), v5, .sh⟩)])
noncomputable def lp_laws_eqIoS_0 (R : Run EE) (L : Loops) (v0 : List (d12)) (v1 : List (d12)) (v4 : Bool) (v5 : Int) : Option ((Bool × Unit)) := from_ EE R L 152 Go.Proofs.Tryz.f152 [1, 1, 0, 1, 0] (mk 27 [(0, .dat ⟨(.sl t1), v0, .sh⟩), (1, .dat ⟨(.sl t1), v1, .sh⟩), (4, .dat ⟨.bool, v4, .sh⟩), (5, .dat ⟨(.int .i64), v5, .sh⟩)])
noncomputable def lp_laws_eqEntryS_0 (R : Run EE) (L : Loops) (v0 : List ((Int × (Int × Unit)))) (v1 : List ((Int × (Int × Unit)))) (v4 : Bool) (v5 : Int) : Option ((Bool × Unit)) := from_ EE R L 79 Go.Proofs.Tryz.f79 [1, 1, 0, 1, 0] (mk 27 [(0, .dat ⟨(.sl t4), v0, .sh⟩), (1, .dat ⟨(.sl t4), v1, .sh⟩), (4, .dat ⟨.bool, v4, .sh⟩), (5, .dat ⟨(.int .i64), v5, .sh⟩)])
noncomputable def lp_laws_eqOpS_0 (R : Run EE) (L : Loops) (v0 : List (d15)) (v1 : List (d15)) (v4 : Bool) (v5 : Int) : Option ((Bool × Unit)) := from_ EE R L 98 Go.Proofs.Tryz.f98 [1, 1, 0, 1, 0] (mk 27 [(0, .dat ⟨(.sl t5), v0, .sh⟩), (1, .dat ⟨(.sl t5), v1, .sh⟩), (4, .dat ⟨.bool, v4, .sh⟩), (5, .dat ⟨(.int .i64), v5, .sh⟩)])
noncomputable def lp_laws_eqTxnS_0 (R : Run EE) (L : Loops) (v0 : List ((List (d15) × Unit))) (v1 : List ((List (d15) × Unit))) (v4 : Bool) (v5 : Int) : Option ((Bool × Unit)) := from_ EE R L 35 Go.Proofs.Tryz.f35 [1, 1, 0, 1, 0] (mk 27 [(0, .dat ⟨(.sl (.pair (.sl t5) .unit)), v0, .sh⟩), (1, .dat ⟨(.sl (.pair (.sl t5) .unit)), v1, .sh⟩), (4, .dat ⟨.bool, v4, .sh⟩), (5, .dat ⟨(.int .i64), v5, .sh⟩)])
noncomputable def lp_laws_eqTxnSS_0 (R : Run EE) (L : Loops) (v0 : List (List ((List (d15) × Unit)))) (v1 : List (List ((List (d15) × Unit)))) (v4 : Bool) (v5 : Int) : Option ((Bool × Unit)) := from_ EE R L 80 Go.Proofs.Tryz.f80 [1, 1, 0, 1, 0] (mk 27 [(0, .dat ⟨(.sl (.sl (.pair (.sl t5) .unit))), v0, .sh⟩), (1, .dat ⟨(.sl (.sl (.pair (.sl t5) .unit))), v1, .sh⟩), (4, .dat ⟨.bool, v4, .sh⟩), (5, .dat ⟨(.int .i64), v5, .sh⟩)])
noncomputable def lp_laws_eqIntS_0 (R : Run EE) (L : Loops) (v0 : List (Int)) (v1 : List (Int)) (v4 : Bool) (v5 : Int) : Option ((Bool × Unit)) := from_ EE R L 21 Go.Proofs.Tryz.f21 [1, 1, 0, 1, 0] (mk 26 [(0, .dat ⟨(.sl (.int .i64)), v0, .sh⟩), (1, .dat ⟨(.sl (.int .i64)), v1, .sh⟩), (4, .dat ⟨.bool, v4, .sh⟩), (5, .dat ⟨(.int .i64), v5, .sh⟩)])
noncomputable def lp_laws_eqResultS_0 (R : Run EE) (L : Loops) (v0 : List (d16)) (v1 : List (d16)) (v4 : Bool) (v5 : Int) : Option ((Bool × Unit)) := from_ EE R L 34 Go.Proofs.Tryz.f34 [1, 1, 0, 1, 0] (mk 27 [(0, .dat ⟨(.sl t6), v0, .sh⟩), (1, .dat ⟨(.sl t6), v1, .sh⟩), (4, .dat ⟨.bool, v4, .sh⟩), (5, .dat ⟨(.int .i64), v5, .sh⟩)])

/-- loop.example/g00548/laws.szRegister -/
theorem q_laws_szRegister (R : Run EE) (L : Loops) (x0 : d11) (x1 : Int) : @Eq (Option ((Int × Unit))) (bodyK EE R L 123 [⟨t0, x0⟩, ⟨(.int .i64), x1⟩]) (
  cond (decide ((Go.IntKind.wrap .i64 (x1 - (((List.length x0.2.2.2.2.1) : Nat) : Int))) < (0 : Int)))
  (some ((-(1 : Int)), ()))
  (cond (decide ((Go.IntKind.wrap .i64 ((Go.IntKind.wrap .i64 (x1 - (((List.length x0.2.2.2.2.1) : Nat) : Int))) - (((List.length x0.2.2.2.2.2.1) : Nat) : Int))) < (0 : Int)))
    (some ((-(1 : Int)), ()))
    (cond (decide ((Go.IntKind.wrap .i64 ((Go.IntKind.wrap .i64 ((Go.IntKind.wrap .i64 (x1 - (((List.length x0.2.2.2.2.1) : Nat) : Int))) - (((List.length x0.2.2.2.2.2.1) : Nat) : Int))) - (((List.length x0.2.2.2.2.2.2.1) : Nat) : Int))) < (0 : Int)))
      (some ((-(1 : Int)), ()))
      (some ((Go.IntKind.wrap .i64 ((Go.IntKind.wrap .i64 ((Go.IntKind.wrap .i64 (x1 - (((List.length x0.2.2.2.2.1) : Nat) : Int))) - (((List.length x0.2.2.2.2.2.1) : Nat) : Int))) - (((List.length x0.2.2.2.2.2.2.1) : Nat) : Int))), ()))))) := by kernel_rfl
/-- loop.example/g00548/laws.szStringS -/
theorem q_laws_szStringS (R : Run EE) (L : Loops) (x0 : List (List UInt8)) (x1 : Int) : @Eq (Option ((Int × Unit))) (bodyK EE R L 124 [⟨(.sl .str), x0⟩, ⟨(.int .i64), x1⟩]) (
  cond (decide ((Go.IntKind.wrap .i64 (x1 - (((List.length x0) : Nat) : Int))) < (0 : Int)))
  (some ((-(1 : Int)), ()))
  (lp_laws_szStringS_0 R L x0 (Go.IntKind.wrap .i64 (x1 - (((List.length x0) : Nat) : Int))) (0 : Int) (0 : Int))) := by kernel_rfl
theorem q_laws_szStringS_0 (R : Run EE) (L : Loops) (v0 : List (List UInt8)) (v1 : Int) (v4 : Int) (v5 : Int) : @Eq (Option ((Int × Unit))) (from_ EE R L 124 Go.Proofs.Tryz.f124 [1, 1, 1, 0, 1, 0, 0] (mk 28 [(0, .dat ⟨(.sl .str), v0, .sh⟩), (1, .dat ⟨(.int .i64), v1, .sh⟩), (4, .dat ⟨(.int .i64), v4, .sh⟩), (5, .dat ⟨(.int .i64), v5, .sh⟩)])) (
  cond (decide (v5 < (((List.length v0) : Nat) : Int)))
  (cond (Go.Rf.nonneg v5)
    (cond (Nat.blt (Int.toNat v5) (List.length v0))
      (cond (decide ((Go.IntKind.wrap .i64 (v1 - (((List.length (List.getD v0 (Int.toNat v5) ([] : List (UInt8)))) : Nat) : Int))) < (0 : Int)))
        (some ((-(1 : Int)), ()))
        (lp_laws_szStringS_0 R L v0 (Go.IntKind.wrap .i64 (v1 - (((List.length (List.getD v0 (Int.toNat v5) ([] : List (UInt8)))) : Nat) : Int))) v4 (Go.IntKind.wrap .i64 (v5 + (1 : Int)))))
      (none))
    (none))
  (some (v1, ()))) := by kernel_rfl
/-- loop.example/g00548/laws.szIo -/
theorem q_laws_szIo (R : Run EE) (L : Loops) (x0 : d12) (x1 : Int) : @Eq (Option ((Int × Unit))) (bodyK EE R L 211 [⟨t1, x0⟩, ⟨(.int .i64), x1⟩]) (
  cond (decide ((Go.IntKind.wrap .i64 (x1 - (((List.length x0.2.1) : Nat) : Int))) < (0 : Int)))
  (some ((-(1 : Int)), ()))
  (some ((Go.IntKind.wrap .i64 (x1 - (((List.length x0.2.1) : Nat) : Int))), ()))) := by kernel_rfl
/-- loop.example/g00548/laws.szIoS -/
theorem q_laws_szIoS (R : Run EE) (L : Loops) (x0 : List (d12)) (x1 : Int) : @Eq (Option ((Int × Unit))) (bodyK EE R L 125 [⟨(.sl t1), x0⟩, ⟨(.int .i64), x1⟩]) (
  cond (decide ((Go.IntKind.wrap .i64 (x1 - (((List.length x0) : Nat) : Int))) < (0 : Int)))
  (some ((-(1 : Int)), ()))
  (lp_laws_szIoS_0 R L x0 (Go.IntKind.wrap .i64 (x1 - (((List.length x0) : Nat) : Int))) (0 : Int) (0 : Int))) := by kernel_rfl
theorem q_laws_szIoS_0 (R : Run EE) (L : Loops) (v0 : List (d12)) (v1 : Int) (v4 : Int) (v5 : Int) : @Eq (Option ((Int × Unit))) (from_ EE R L 125 Go.Proofs.Tryz.f125 [1, 1, 1, 0, 1, 0, 0] (mk 27 [(0, .dat ⟨(.sl t1), v0, .sh⟩), (1, .dat ⟨(.int .i64), v1, .sh⟩), (4, .dat ⟨(.int .i64), v4, .sh⟩), (5, .dat ⟨(.int .i64), v5, .sh⟩)])) (
  cond (decide (v5 < (((List.length v0) : Nat) : Int)))
  (cond (Go.Rf.nonneg v5)
    (cond (Nat.blt (Int.toNat v5) (List.length v0))
      ((c_laws_szIo R (List.getD v0 (Int.toNat v5) ((0 : Int), (([] : List (UInt8)), ()))) v1).bind fun r0 =>
        cond (decide (r0.1 < (0 : Int)))
        (some ((-(1 : Int)), ()))
        (lp_laws_szIoS_0 R L v0 r0.1 v4 (Go.IntKind.wrap .i64 (v5 + (1 : Int)))))
      (none))
    (none))
  (some (v1, ()))) := by kernel_rfl
/-- loop.example/g00548/laws.szDevice -/
theorem q_laws_szDevice (R : Run EE) (L : Loops) (x0 : d13) (x1 : Int) : @Eq (Option ((Int × Unit))) (bodyK EE R L 56 [⟨t2, x0⟩, ⟨(.int .i64), x1⟩]) (
  (c_laws_szStringS R x0.1 x1).bind fun r0 =>
  cond (decide (r0.1 < (0 : Int)))
  (some ((-(1 : Int)), ()))
  ((c_laws_szIoS R x0.2.1 r0.1).bind fun r1 =>
    cond (decide (r1.1 < (0 : Int)))
    (some ((-(1 : Int)), ()))
    (some (r1.1, ())))) := by kernel_rfl
/-- loop.example/g00548/laws.szStore -/
theorem q_laws_szStore (R : Run EE) (L : Loops) (x0 : d14) (x1 : Int) : @Eq (Option ((Int × Unit))) (bodyK EE R L 55 [⟨t3, x0⟩, ⟨(.int .i64), x1⟩]) (
  cond (decide ((Go.IntKind.wrap .i64 (x1 - (((List.length x0.1) : Nat) : Int))) < (0 : Int)))
  (some ((-(1 : Int)), ()))
  ((c_laws_szRegister R x0.2.1 (Go.IntKind.wrap .i64 (x1 - (((List.length x0.1) : Nat) : Int)))).bind fun r0 =>
    cond (decide (r0.1 < (0 : Int)))
    (some ((-(1 : Int)), ()))
    ((c_laws_szDevice R x0.2.2.1 r0.1).bind fun r1 =>
      cond (decide (r1.1 < (0 : Int)))
      (some ((-(1 : Int)), ()))
      (some (r1.1, ()))))) := by kernel_rfl
/-- loop.example/g00548/laws.szEntryS -/
theorem q_laws_szEntryS (R : Run EE) (L : Loops) (x0 : List ((Int × (Int × Unit)))) (x1 : Int) : @Eq (Option ((Int × Unit))) (bodyK EE R L 57 [⟨(.sl t4), x0⟩, ⟨(.int .i64), x1⟩]) (
  cond (decide ((Go.IntKind.wrap .i64 (x1 - (((List.length x0) : Nat) : Int))) < (0 : Int)))
  (some ((-(1 : Int)), ()))
  (some ((Go.IntKind.wrap .i64 (x1 - (((List.length x0) : Nat) : Int))), ()))) := by kernel_rfl
/-- loop.example/g00548/laws.szOpS -/
theorem q_laws_szOpS (R : Run EE) (L : Loops) (x0 : List (d15)) (x1 : Int) : @Eq (Option ((Int × Unit))) (bodyK EE R L 83 [⟨(.sl t5), x0⟩, ⟨(.int .i64), x1⟩]) (
  cond (decide ((Go.IntKind.wrap .i64 (x1 - (((List.length x0) : Nat) : Int))) < (0 : Int)))
  (some ((-(1 : Int)), ()))
  (some ((Go.IntKind.wrap .i64 (x1 - (((List.length x0) : Nat) : Int))), ()))) := by kernel_rfl
/-- loop.example/g00548/laws.szTxn -/
theorem q_laws_szTxn (R : Run EE) (L : Loops) (x0 : (List (d15) × Unit)) (x1 : Int) : @Eq (Option ((Int × Unit))) (bodyK EE R L 13 [⟨(.pair (.sl t5) .unit), x0⟩, ⟨(.int .i64), x1⟩]) (
  (c_laws_szOpS R x0.1 x1).bind fun r0 =>
  cond (decide (r0.1 < (0 : Int)))
  (some ((-(1 : Int)), ()))
  (some (r0.1, ()))) := by kernel_rfl
/-- loop.example/g00548/laws.szTxnS -/
theorem q_laws_szTxnS (R : Run EE) (L : Loops) (x0 : List ((List (d15) × Unit))) (x1 : Int) : @Eq (Option ((Int × Unit))) (bodyK EE R L 30 [⟨(.sl (.pair (.sl t5) .unit)), x0⟩, ⟨(.int .i64), x1⟩]) (
  cond (decide ((Go.IntKind.wrap .i64 (x1 - (((List.length x0) : Nat) : Int))) < (0 : Int)))
  (some ((-(1 : Int)), ()))
  (lp_laws_szTxnS_0 R L x0 (Go.IntKind.wrap .i64 (x1 - (((List.length x0) : Nat) : Int))) (0 : Int) (0 : Int))) := by kernel_rfl
theorem q_laws_szTxnS_0 (R : Run EE) (L : Loops) (v0 : List ((List (d15) × Unit))) (v1 : Int) (v4 : Int) (v5 : Int) : @Eq (Option ((Int × Unit))) (from_ EE R L 30 Go.Proofs.Tryz.f30 [1, 1, 1, 0, 1, 0, 0] (mk 27 [(0, .dat ⟨(.sl (.pair (.sl t5) .unit)), v0, .sh⟩), (1, .dat ⟨(.int .i64), v1, .sh⟩), (4, .dat ⟨(.int .i64), v4, .sh⟩), (5, .dat ⟨(.int .i64), v5, .sh⟩)])) (
  cond (decide (v5 < (((List.length v0) : Nat) : Int)))
  (cond (Go.Rf.nonneg v5)
    (cond (Nat.blt (Int.toNat v5) (List.length v0))
      ((c_laws_szTxn R (List.getD v0 (Int.toNat v5) (([] : List (d15)), ())) v1).bind fun r0 =>
        cond (decide (r0.1 < (0 : Int)))
        (some ((-(1 : Int)), ()))
        (lp_laws_szTxnS_0 R L v0 r0.1 v4 (Go.IntKind.wrap .i64 (v5 + (1 : Int)))))
      (none))
    (none))
  (some (v1, ()))) := by kernel_rfl
/-- loop.example/g00548/laws.szTxnSS -/
theorem q_laws_szTxnSS (R : Run EE) (L : Loops) (x0 : List (List ((List (d15) × Unit)))) (x1 : Int) : @Eq (Option ((Int × Unit))) (bodyK EE R L 58 [⟨(.sl (.sl (.pair (.sl t5) .unit))), x0⟩, ⟨(.int .i64), x1⟩]) (
  cond (decide ((Go.IntKind.wrap .i64 (x1 - (((List.length x0) : Nat) : Int))) < (0 : Int)))
  (some ((-(1 : Int)), ()))
  (lp_laws_szTxnSS_0 R L x0 (Go.IntKind.wrap .i64 (x1 - (((List.length x0) : Nat) : Int))) (0 : Int) (0 : Int))) := by kernel_rfl
theorem q_laws_szTxnSS_0 (R : Run EE) (L : Loops) (v0 : List (List ((List (d15) × Unit)))) (v1 : Int) (v4 : Int) (v5 : Int) : @Eq (Option ((Int × Unit))) (from_ EE R L 58 Go.Proofs.Tryz.f58 [1, 1, 1, 0, 1, 0, 0] (mk 27 [(0, .dat ⟨(.sl (.sl (.pair (.sl t5) .unit))), v0, .sh⟩), (1, .dat ⟨(.int .i64), v1, .sh⟩), (4, .dat ⟨(.int .i64), v4, .sh⟩), (5, .dat ⟨(.int .i64), v5, .sh⟩)])) (
  cond (decide (v5 < (((List.length v0) : Nat) : Int)))
  (cond (Go.Rf.nonneg v5)
    (cond (Nat.blt (Int.toNat v5) (List.length v0))
      ((c_laws_szTxnS R (List.getD v0 (Int.toNat v5) ([] : List ((List (d15) × Unit)))) v1).bind fun r0 =>
        cond (decide (r0.1 < (0 : Int)))
        (some ((-(1 : Int)), ()))
        (lp_laws_szTxnSS_0 R L v0 r0.1 v4 (Go.IntKind.wrap .i64 (v5 + (1 : Int)))))
      (none))
    (none))
  (some (v1, ()))) := by kernel_rfl
/-- loop.example/g00548/laws.szIntS -/
theorem q_laws_szIntS (R : Run EE) (L : Loops) (x0 : List (Int)) (x1 : Int) : @Eq (Option ((Int × Unit))) (bodyK EE R L 81 [⟨(.sl (.int .i64)), x0⟩, ⟨(.int .i64), x1⟩]) (
  cond (decide ((Go.IntKind.wrap .i64 (x1 - (((List.length x0) : Nat) : Int))) < (0 : Int)))
  (some ((-(1 : Int)), ()))
  (some ((Go.IntKind.wrap .i64 (x1 - (((List.length x0) : Nat) : Int))), ()))) := by kernel_rfl
/-- loop.example/g00548/laws.szResult -/
theorem q_laws_szResult (R : Run EE) (L : Loops) (x0 : d16) (x1 : Int) : @Eq (Option ((Int × Unit))) (bodyK EE R L 126 [⟨t6, x0⟩, ⟨(.int .i64), x1⟩]) (
  (c_laws_szIntS R x0.2.1 x1).bind fun r0 =>
  cond (decide (r0.1 < (0 : Int)))
  (some ((-(1 : Int)), ()))
  (some (r0.1, ()))) := by kernel_rfl
/-- loop.example/g00548/laws.szResultS -/
theorem q_laws_szResultS (R : Run EE) (L : Loops) (x0 : List (d16)) (x1 : Int) : @Eq (Option ((Int × Unit))) (bodyK EE R L 59 [⟨(.sl t6), x0⟩, ⟨(.int .i64), x1⟩]) (
  cond (decide ((Go.IntKind.wrap .i64 (x1 - (((List.length x0) : Nat) : Int))) < (0 : Int)))
  (some ((-(1 : Int)), ()))
  (lp_laws_szResultS_0 R L x0 (Go.IntKind.wrap .i64 (x1 - (((List.length x0) : Nat) : Int))) (0 : Int) (0 : Int))) := by kernel_rfl
theorem q_laws_szResultS_0 (R : Run EE) (L : Loops) (v0 : List (d16)) (v1 : Int) (v4 : Int) (v5 : Int) : @Eq (Option ((Int × Unit))) (from_ EE R L 59 Go.Proofs.Tryz.f59 [1, 1, 1, 0, 1, 0, 0] (mk 27 [(0, .dat ⟨(.sl t6), v0, .sh⟩), (1, .dat ⟨(.int .i64), v1, .sh⟩), (4, .dat ⟨(.int .i64), v4, .sh⟩), (5, .dat ⟨(.int .i64), v5, .sh⟩)])) (
  cond (decide (v5 < (((List.length v0) : Nat) : Int)))
  (cond (Go.Rf.nonneg v5)
    (cond (Nat.blt (Int.toNat v5) (List.length v0))
      ((c_laws_szResult R (List.getD v0 (Int.toNat v5) ((0 : Int), (([] : List (Int)), ()))) v1).bind fun r0 =>
        cond (decide (r0.1 < (0 : Int)))
        (some ((-(1 : Int)), ()))
        (lp_laws_szResultS_0 R L v0 r0.1 v4 (Go.IntKind.wrap .i64 (v5 + (1 : Int)))))
      (none))
    (none))
  (some (v1, ()))) := by kernel_rfl
/-- loop.example/g00548/laws.szWorld -/
theorem q_laws_szWorld (R : Run EE) (L : Loops) (x0 : d17) (x1 : Int) : @Eq (Option ((Int × Unit))) (bodyK EE R L 7 [⟨t7, x0⟩, ⟨(.int .i64), x1⟩]) (
  (c_laws_szStore R x0.1 x1).bind fun r0 =>
  cond (decide (r0.1 < (0 : Int)))
  (some ((-(1 : Int)), ()))
  ((c_laws_szDevice R x0.2.1 r0.1).bind fun r1 =>
    cond (decide (r1.1 < (0 : Int)))
    (some ((-(1 : Int)), ()))
    ((c_laws_szEntryS R x0.2.2.1 r1.1).bind fun r2 =>
      cond (decide (r2.1 < (0 : Int)))
      (some ((-(1 : Int)), ()))
      ((c_laws_szTxnSS R x0.2.2.2.1 r2.1).bind fun r3 =>
        cond (decide (r3.1 < (0 : Int)))
        (some ((-(1 : Int)), ()))
        ((c_laws_szResultS R x0.2.2.2.2.1 r3.1).bind fun r4 =>
          cond (decide (r4.1 < (0 : Int)))
          (some ((-(1 : Int)), ()))
          (some (r4.1, ()))))))) := by kernel_rfl
/-- loop.example/g00548/laws.toRegister -/
theorem q_laws_toRegister (R : Run EE) (L : Loops) (x0 : d11) : @Eq (Option ((d11 × Unit))) (bodyK EE R L 132 [⟨t0, x0⟩]) (
  some ((x0.1, (x0.2.1, (x0.2.2.1, (x0.2.2.2.1, (x0.2.2.2.2.1, (x0.2.2.2.2.2.1, (x0.2.2.2.2.2.2.1, ()))))))), ())) := by kernel_rfl
/-- loop.example/g00548/laws.toStringS -/
theorem q_laws_toStringS (R : Run EE) (L : Loops) (x0 : List (List UInt8)) : @Eq (Option (d18)) (bodyK EE R L 133 [⟨(.sl .str), x0⟩]) (
  cond (Go.Rf.leI (((List.length x0) : Nat) : Int) (((List.length x0) : Nat) : Int))
  (cond (Go.Rf.lenOK (Int.toNat (((List.length x0) : Nat) : Int)))
    (lp_laws_toStringS_0 R L x0 ([] : List (List (UInt8))) (List.replicate (Int.toNat (((List.length x0) : Nat) : Int)) ([] : List (UInt8))) (0 : Int))
    (none))
  (none)) := by kernel_rfl
theorem q_laws_toStringS_0 (R : Run EE) (L : Loops) (v0 : List (List UInt8)) (v2 : List (List UInt8)) (v3 : List (List UInt8)) (v4 : Int) : @Eq (Option (d18)) (from_ EE R L 133 Go.Proofs.Tryz.f133 [1, 1, 0, 1, 0, 0] (mk 22 [(0, .dat ⟨(.sl .str), v0, .sh⟩), (2, .dat ⟨(.sl .str), v2, (.own .sh)⟩), (3, .dat ⟨(.sl .str), v3, (.own .sh)⟩), (4, .dat ⟨(.int .i64), v4, .sh⟩)])) (
  cond (decide (v4 < (((List.length v0) : Nat) : Int)))
  (cond (Go.Rf.nonneg v4)
    (cond (Nat.blt (Int.toNat v4) (List.length v0))
      (cond (Go.Rf.nonneg v4)
        (cond (Nat.blt (Int.toNat v4) (List.length v3))
          (lp_laws_toStringS_0 R L v0 v2 (List.set v3 (Int.toNat v4) (List.getD v0 (Int.toNat v4) ([] : List (UInt8)))) (Go.IntKind.wrap .i64 (v4 + (1 : Int))))
          (none))
        (none))
      (none))
    (none))
  (some (v3, ()))) := by kernel_rfl
/-- loop.example/g00548/laws.toIo -/
theorem q_laws_toIo (R : Run EE) (L : Loops) (x0 : d12) : @Eq (Option ((d12 × Unit))) (bodyK EE R L 218 [⟨t1, x0⟩]) (
  some ((x0.1, (x0.2.1, ())), ())) := by kernel_rfl
/-- loop.example/g00548/laws.toIoS -/
theorem q_laws_toIoS (R : Run EE) (L : Loops) (x0 : List (d12)) : @Eq (Option ((List (d12) × Unit))) (bodyK EE R L 134 [⟨(.sl t1), x0⟩]) (
  cond (Go.Rf.leI (((List.length x0) : Nat) : Int) (((List.length x0) : Nat) : Int))
  (cond (Go.Rf.lenOK (Int.toNat (((List.length x0) : Nat) : Int)))
    (lp_laws_toIoS_0 R L x0 ([] : List (d24)) (List.replicate (Int.toNat (((List.length x0) : Nat) : Int)) ((0 : Int), (([] : List (UInt8)), ()))) (0 : Int))
    (none))
  (none)) := by kernel_rfl
theorem q_laws_toIoS_0 (R : Run EE) (L : Loops) (v0 : List (d12)) (v2 : List (d12)) (v3 : List (d12)) (v4 : Int) : @Eq (Option ((List (d12) × Unit))) (from_ EE R L 134 Go.Proofs.Tryz.f134 [1, 1, 0, 1, 0, 0] (mk 23 [(0, .dat ⟨(.sl t1), v0, .sh⟩), (2, .dat ⟨(.sl t1), v2, (.own .sh)⟩), (3, .dat ⟨(.sl t1), v3, (.own .sh)⟩), (4, .dat ⟨(.int .i64), v4, .sh⟩)])) (
  cond (decide (v4 < (((List.length v0) : Nat) : Int)))
  (cond (Go.Rf.nonneg v4)
    (cond (Nat.blt (Int.toNat v4) (List.length v0))
      ((c_laws_toIo R (List.getD v0 (Int.toNat v4) ((0 : Int), (([] : List (UInt8)), ())))).bind fun r0 =>
        cond (Go.Rf.nonneg v4)
        (cond (Nat.blt (Int.toNat v4) (List.length v3))
          (lp_laws_toIoS_0 R L v0 v2 (List.set v3 (Int.toNat v4) r0.1) (Go.IntKind.wrap .i64 (v4 + (1 : Int))))
          (none))
        (none))
      (none))
    (none))
  (some (v3, ()))) := by kernel_rfl
/-- loop.example/g00548/laws.toDevice -/
theorem q_laws_toDevice (R : Run EE) (L : Loops) (x0 : d13) : @Eq (Option ((d13 × Unit))) (bodyK EE R L 66 [⟨t2, x0⟩]) (
  (c_laws_toStringS R x0.1).bind fun r0 =>
  (c_laws_toIoS R x0.2.1).bind fun r1 =>
  some ((r0.1, (r1.1, ())), ())) := by kernel_rfl
/-- loop.example/g00548/laws.toStore -/
theorem q_laws_toStore (R : Run EE) (L : Loops) (x0 : d14) : @Eq (Option ((d14 × Unit))) (bodyK EE R L 65 [⟨t3, x0⟩]) (
  (c_laws_toRegister R x0.2.1).bind fun r0 =>
  (c_laws_toDevice R x0.2.2.1).bind fun r1 =>
  some ((x0.1, (r0.1, (r1.1, (x0.2.2.2.1, (x0.2.2.2.2.1, ()))))), ())) := by kernel_rfl
/-- loop.example/g00548/laws.toEntry -/
theorem q_laws_toEntry (R : Run EE) (L : Loops) (x0 : (Int × (Int × Unit))) : @Eq (Option (d19)) (bodyK EE R L 135 [⟨t4, x0⟩]) (
  some ((x0.1, (x0.2.1, ())), ())) := by kernel_rfl
/-- loop.example/g00548/laws.toEntryS -/
theorem q_laws_toEntryS (R : Run EE) (L : Loops) (x0 : List ((Int × (Int × Unit)))) : @Eq (Option (d20)) (bodyK EE R L 67 [⟨(.sl t4), x0⟩]) (
  cond (Go.Rf.leI (((List.length x0) : Nat) : Int) (((List.length x0) : Nat) : Int))
  (cond (Go.Rf.lenOK (Int.toNat (((List.length x0) : Nat) : Int)))
    (lp_laws_toEntryS_0 R L x0 ([] : List ((Int × (Int × Unit)))) (List.replicate (Int.toNat (((List.length x0) : Nat) : Int)) ((0 : Int), ((0 : Int), ()))) (0 : Int))
    (none))
  (none)) := by kernel_rfl
theorem q_laws_toEntryS_0 (R : Run EE) (L : Loops) (v0 : List ((Int × (Int × Unit)))) (v2 : List ((Int × (Int × Unit)))) (v3 : List ((Int × (Int × Unit)))) (v4 : Int) : @Eq (Option (d20)) (from_ EE R L 67 Go.Proofs.Tryz.f67 [1, 1, 0, 1, 0, 0] (mk 23 [(0, .dat ⟨(.sl t4), v0, .sh⟩), (2, .dat ⟨(.sl t4), v2, (.own .sh)⟩), (3, .dat ⟨(.sl t4), v3, (.own .sh)⟩), (4, .dat ⟨(.int .i64), v4, .sh⟩)])) (
  cond (decide (v4 < (((List.length v0) : Nat) : Int)))
  (cond (Go.Rf.nonneg v4)
    (cond (Nat.blt (Int.toNat v4) (List.length v0))
      ((c_laws_toEntry R (List.getD v0 (Int.toNat v4) ((0 : Int), ((0 : Int), ())))).bind fun r0 =>
        cond (Go.Rf.nonneg v4)
        (cond (Nat.blt (Int.toNat v4) (List.length v3))
          (lp_laws_toEntryS_0 R L v0 v2 (List.set v3 (Int.toNat v4) r0.1) (Go.IntKind.wrap .i64 (v4 + (1 : Int))))
          (none))
        (none))
      (none))
    (none))
  (some (v3, ()))) := by kernel_rfl
/-- loop.example/g00548/laws.toOp -/
theorem q_laws_toOp (R : Run EE) (L : Loops) (x0 : d15) : @Eq (Option ((d15 × Unit))) (bodyK EE R L 167 [⟨t5, x0⟩]) (
  some ((x0.1, (x0.2.1, (x0.2.2.1, ()))), ())) := by kernel_rfl
/-- loop.example/g00548/laws.toOpS -/
theorem q_laws_toOpS (R : Run EE) (L : Loops) (x0 : List (d15)) : @Eq (Option ((List (d15) × Unit))) (bodyK EE R L 90 [⟨(.sl t5), x0⟩]) (
  cond (Go.Rf.leI (((List.length x0) : Nat) : Int) (((List.length x0) : Nat) : Int))
  (cond (Go.Rf.lenOK (Int.toNat (((List.length x0) : Nat) : Int)))
    (lp_laws_toOpS_0 R L x0 ([] : List (d15)) (List.replicate (Int.toNat (((List.length x0) : Nat) : Int)) ((0 : Int), ((0 : Int), ((0 : Int), ())))) (0 : Int))
    (none))
  (none)) := by kernel_rfl
theorem q_laws_toOpS_0 (R : Run EE) (L : Loops) (v0 : List (d15)) (v2 : List (d15)) (v3 : List (d15)) (v4 : Int) : @Eq (Option ((List (d15) × Unit))) (from_ EE R L 90 Go.Proofs.Tryz.f90 [1, 1, 0, 1, 0, 0] (mk 23 [(0, .dat ⟨(.sl t5), v0, .sh⟩), (2, .dat ⟨(.sl t5), v2, (.own .sh)⟩), (3, .dat ⟨(.sl t5), v3, (.own .sh)⟩), (4, .dat ⟨(.int .i64), v4, .sh⟩)])) (
  cond (decide (v4 < (((List.length v0) : Nat) : Int)))
  (cond (Go.Rf.nonneg v4)
    (cond (Nat.blt (Int.toNat v4) (List.length v0))
      ((c_laws_toOp R (List.getD v0 (Int.toNat v4) ((0 : Int), ((0 : Int), ((0 : Int), ()))))).bind fun r0 =>
        cond (Go.Rf.nonneg v4)
        (cond (Nat.blt (Int.toNat v4) (List.length v3))
          (lp_laws_toOpS_0 R L v0 v2 (List.set v3 (Int.toNat v4) r0.1) (Go.IntKind.wrap .i64 (v4 + (1 : Int))))
          (none))
        (none))
      (none))
    (none))
  (some (v3, ()))) := by kernel_rfl
/-- loop.example/g00548/laws.toTxn -/
theorem q_laws_toTxn (R : Run EE) (L : Loops) (x0 : (List (d15) × Unit)) : @Eq (Option (d21)) (bodyK EE R L 16 [⟨(.pair (.sl t5) .unit), x0⟩]) (
  (c_laws_toOpS R x0.1).bind fun r0 =>
  some ((r0.1, ()), ())) := by kernel_rfl
/-- loop.example/g00548/laws.toTxnS -/
theorem q_laws_toTxnS (R : Run EE) (L : Loops) (x0 : List ((List (d15) × Unit))) : @Eq (Option (d22)) (bodyK EE R L 32 [⟨(.sl (.pair (.sl t5) .unit)), x0⟩]) (
  cond (Go.Rf.leI (((List.length x0) : Nat) : Int) (((List.length x0) : Nat) : Int))
  (cond (Go.Rf.lenOK (Int.toNat (((List.length x0) : Nat) : Int)))
    (lp_laws_toTxnS_0 R L x0 ([] : List ((List (d15) × Unit))) (List.replicate (Int.toNat (((List.length x0) : Nat) : Int)) (([] : List (d15)), ())) (0 : Int))
    (none))
  (none)) := by kernel_rfl
theorem q_laws_toTxnS_0 (R : Run EE) (L : Loops) (v0 : List ((List (d15) × Unit))) (v2 : List ((List (d15) × Unit))) (v3 : List ((List (d15) × Unit))) (v4 : Int) : @Eq (Option (d22)) (from_ EE R L 32 Go.Proofs.Tryz.f32 [1, 1, 0, 1, 0, 0] (mk 23 [(0, .dat ⟨(.sl (.pair (.sl t5) .unit)), v0, .sh⟩), (2, .dat ⟨(.sl (.pair (.sl t5) .unit)), v2, (.own (.pr (.own .sh) .sh))⟩), (3, .dat ⟨(.sl (.pair (.sl t5) .unit)), v3, (.own (.pr (.own .sh) .sh))⟩), (4, .dat ⟨(.int .i64), v4, .sh⟩)])) (
  cond (decide (v4 < (((List.length v0) : Nat) : Int)))
  (cond (Go.Rf.nonneg v4)
    (cond (Nat.blt (Int.toNat v4) (List.length v0))
      ((c_laws_toTxn R (List.getD v0 (Int.toNat v4) (([] : List (d15)), ()))).bind fun r0 =>
        cond (Go.Rf.nonneg v4)
        (cond (Nat.blt (Int.toNat v4) (List.length v3))
          (lp_laws_toTxnS_0 R L v0 v2 (List.set v3 (Int.toNat v4) r0.1) (Go.IntKind.wrap .i64 (v4 + (1 : Int))))
          (none))
        (none))
      (none))
    (none))
  (some (v3, ()))) := by kernel_rfl
/-- loop.example/g00548/laws.toTxnSS -/
theorem q_laws_toTxnSS (R : Run EE) (L : Loops) (x0 : List (List ((List (d15) × Unit)))) : @Eq (Option (d23)) (bodyK EE R L 68 [⟨(.sl (.sl (.pair (.sl t5) .unit))), x0⟩]) (
  cond (Go.Rf.leI (((List.length x0) : Nat) : Int) (((List.length x0) : Nat) : Int))
  (cond (Go.Rf.lenOK (Int.toNat (((List.length x0) : Nat) : Int)))
    (lp_laws_toTxnSS_0 R L x0 ([] : List (List ((List (d15) × Unit)))) (List.replicate (Int.toNat (((List.length x0) : Nat) : Int)) ([] : List ((List (d15) × Unit)))) (0 : Int))
    (none))
  (none)) := by kernel_rfl
theorem q_laws_toTxnSS_0 (R : Run EE) (L : Loops) (v0 : List (List ((List (d15) × Unit)))) (v2 : List (List ((List (d15) × Unit)))) (v3 : List (List ((List (d15) × Unit)))) (v4 : Int) : @Eq (Option (d23)) (from_ EE R L 68 Go.Proofs.Tryz.f68 [1, 1, 0, 1, 0, 0] (mk 23 [(0, .dat ⟨(.sl (.sl (.pair (.sl t5) .unit))), v0, .sh⟩), (2, .dat ⟨(.sl (.sl (.pair (.sl t5) .unit))), v2, (.own (.own .sh))⟩), (3, .dat ⟨(.sl (.sl (.pair (.sl t5) .unit))), v3, (.own (.own (.pr (.own .sh) .sh)))⟩), (4, .dat ⟨(.int .i64), v4, .sh⟩)])) (
  cond (decide (v4 < (((List.length v0) : Nat) : Int)))
  (cond (Go.Rf.nonneg v4)
    (cond (Nat.blt (Int.toNat v4) (List.length v0))
      ((c_laws_toTxnS R (List.getD v0 (Int.toNat v4) ([] : List ((List (d15) × Unit))))).bind fun r0 =>
        cond (Go.Rf.nonneg v4)
        (cond (Nat.blt (Int.toNat v4) (List.length v3))
          (lp_laws_toTxnSS_0 R L v0 v2 (List.set v3 (Int.toNat v4) r0.1) (Go.IntKind.wrap .i64 (v4 + (1 : Int))))
          (none))
        (none))
      (none))
    (none))
  (some (v3, ()))) := by kernel_rfl
/-- loop.example/g00548/laws.toIntS -/
theorem q_laws_toIntS (R : Run EE) (L : Loops) (x0 : List (Int)) : @Eq (Option ((List (Int) × Unit))) (bodyK EE R L 17 [⟨(.sl (.int .i64)), x0⟩]) (
  cond (Go.Rf.leI (((List.length x0) : Nat) : Int) (((List.length x0) : Nat) : Int))
  (cond (Go.Rf.lenOK (Int.toNat (((List.length x0) : Nat) : Int)))
    (lp_laws_toIntS_0 R L x0 ([] : List (Int)) (List.replicate (Int.toNat (((List.length x0) : Nat) : Int)) (0 : Int)) (0 : Int))
    (none))
  (none)) := by kernel_rfl
theorem q_laws_toIntS_0 (R : Run EE) (L : Loops) (v0 : List (Int)) (v2 : List (Int)) (v3 : List (Int)) (v4 : Int) : @Eq (Option ((List (Int) × Unit))) (from_ EE R L 17 Go.Proofs.Tryz.f17 [1, 1, 0, 1, 0, 0] (mk 22 [(0, .dat ⟨(.sl (.int .i64)), v0, .sh⟩), (2, .dat ⟨(.sl (.int .i64)), v2, (.own .sh)⟩), (3, .dat ⟨(.sl (.int .i64)), v3, (.own .sh)⟩), (4, .dat ⟨(.int .i64), v4, .sh⟩)])) (
  cond (decide (v4 < (((List.length v0) : Nat) : Int)))
  (cond (Go.Rf.nonneg v4)
    (cond (Nat.blt (Int.toNat v4) (List.length v0))
      (cond (Go.Rf.nonneg v4)
        (cond (Nat.blt (Int.toNat v4) (List.length v3))
          (lp_laws_toIntS_0 R L v0 v2 (List.set v3 (Int.toNat v4) (List.getD v0 (Int.toNat v4) (0 : Int))) (Go.IntKind.wrap .i64 (v4 + (1 : Int))))
          (none))
        (none))
      (none))
    (none))
  (some (v3, ()))) := by kernel_rfl
/-- loop.example/g00548/laws.toResult -/
theorem q_laws_toResult (R : Run EE) (L : Loops) (x0 : d16) : @Eq (Option ((d16 × Unit))) (bodyK EE R L 136 [⟨t6, x0⟩]) (
  (c_laws_toIntS R x0.2.1).bind fun r0 =>
  some ((x0.1, (r0.1, ())), ())) := by kernel_rfl
/-- loop.example/g00548/laws.toResultS -/
theorem q_laws_toResultS (R : Run EE) (L : Loops) (x0 : List (d16)) : @Eq (Option ((List (d16) × Unit))) (bodyK EE R L 69 [⟨(.sl t6), x0⟩]) (
  cond (Go.Rf.leI (((List.length x0) : Nat) : Int) (((List.length x0) : Nat) : Int))
  (cond (Go.Rf.lenOK (Int.toNat (((List.length x0) : Nat) : Int)))
    (lp_laws_toResultS_0 R L x0 ([] : List (d16)) (List.replicate (Int.toNat (((List.length x0) : Nat) : Int)) ((0 : Int), (([] : List (Int)), ()))) (0 : Int))
    (none))
  (none)) := by kernel_rfl
theorem q_laws_toResultS_0 (R : Run EE) (L : Loops) (v0 : List (d16)) (v2 : List (d16)) (v3 : List (d16)) (v4 : Int) : @Eq (Option ((List (d16) × Unit))) (from_ EE R L 69 Go.Proofs.Tryz.f69 [1, 1, 0, 1, 0, 0] (mk 23 [(0, .dat ⟨(.sl t6), v0, .sh⟩), (2, .dat ⟨(.sl t6), v2, (.own (.pr .sh (.pr (.own .sh) .sh)))⟩), (3, .dat ⟨(.sl t6), v3, (.own (.pr .sh (.pr (.own .sh) .sh)))⟩), (4, .dat ⟨(.int .i64), v4, .sh⟩)])) (
  cond (decide (v4 < (((List.length v0) : Nat) : Int)))
  (cond (Go.Rf.nonneg v4)
    (cond (Nat.blt (Int.toNat v4) (List.length v0))
      ((c_laws_toResult R (List.getD v0 (Int.toNat v4) ((0 : Int), (([] : List (Int)), ())))).bind fun r0 =>
        cond (Go.Rf.nonneg v4)
        (cond (Nat.blt (Int.toNat v4) (List.length v3))
          (lp_laws_toResultS_0 R L v0 v2 (List.set v3 (Int.toNat v4) r0.1) (Go.IntKind.wrap .i64 (v4 + (1 : Int))))
          (none))
        (none))
      (none))
    (none))
  (some (v3, ()))) := by kernel_rfl
/-- loop.example/g00548/laws.toWorld -/
theorem q_laws_toWorld (R : Run EE) (L : Loops) (x0 : d17) : @Eq (Option ((d17 × Unit))) (bodyK EE R L 9 [⟨t7, x0⟩]) (
  (c_laws_toStore R x0.1).bind fun r0 =>
  (c_laws_toDevice R x0.2.1).bind fun r1 =>
  (c_laws_toEntryS R x0.2.2.1).bind fun r2 =>
  (c_laws_toTxnSS R x0.2.2.2.1).bind fun r3 =>
  (c_laws_toResultS R x0.2.2.2.2.1).bind fun r4 =>
  some ((r0.1, (r1.1, (r2.1, (r3.1, (r4.1, (x0.2.2.2.2.2.1, ())))))), ())) := by kernel_rfl
/-- loop.example/g00548/spec.l01In -/
theorem q_spec_l01In (R : Run EE) (L : Loops) (x0 : Int) (x1 : Int) (x2 : Int) : @Eq (Option ((Bool × Unit))) (bodyK EE R L 158 [⟨(.int .i64), x0⟩, ⟨(.int .i64), x1⟩, ⟨(.int .i64), x2⟩]) (
  cond (decide (x1 ≤ x0))
  (some ((decide (x0 ≤ x2)), ()))
  (some (false, ()))) := by kernel_rfl
/-- loop.example/g00548/spec.RegisterOK -/
theorem q_spec_RegisterOK (R : Run EE) (L : Loops) (x0 : d11) : @Eq (Option ((Bool × Unit))) (bodyK EE R L 212 [⟨t0, x0⟩]) (
  (c_spec_l01In R x0.1 (0 : Int) (1000000 : Int)).bind fun r0 =>
  cond r0.1
  ((c_spec_l01In R x0.2.1 (0 : Int) (1 : Int)).bind fun r1 =>
    cond r1.1
    ((c_spec_l01In R x0.2.2.2.1 (0 : Int) (1000000 : Int)).bind fun r2 =>
      cond r2.1
      ((c_spec_l01In R x0.2.2.1 x0.1 (Go.Rf.minI (Go.IntKind.wrap .i64 (x0.1 + (4 : Int))) (1000000 : Int))).bind fun r3 =>
        cond r3.1
        (cond (Go.Rf.eqI (((List.length x0.2.2.2.2.1) : Nat) : Int) (32 : Int))
          (cond (Go.Rf.eqI (((List.length x0.2.2.2.2.2.1) : Nat) : Int) (32 : Int))
            (cond (Go.Rf.eqI (((List.length x0.2.2.2.2.2.2.1) : Nat) : Int) (32 : Int))
              (cond (decide (x0.1 < x0.2.2.1))
                (some (true, ()))
                (some ((Go.Rf.eqS x0.2.2.2.2.1 x0.2.2.2.2.2.1), ())))
              (some (false, ())))
            (some (false, ())))
          (some (false, ())))
        (some (false, ())))
      (some (false, ())))
    (some (false, ())))
  (some (false, ()))) := by kernel_rfl
/-- loop.example/g00548/spec.l05In -/
theorem q_spec_l05In (R : Run EE) (L : Loops) (x0 : Int) : @Eq (Option ((Bool × Unit))) (bodyK EE R L 213 [⟨(.int .i64), x0⟩]) (
  (c_spec_l01In R x0 (0 : Int) (39 : Int)).bind fun r0 =>
  some (r0.1, ())) := by kernel_rfl
/-- loop.example/g00548/spec.DeviceOK -/
theorem q_spec_DeviceOK (R : Run EE) (L : Loops) (x0 : d13) : @Eq (Option ((Bool × Unit))) (bodyK EE R L 128 [⟨t2, x0⟩]) (
  cond (!(Go.Rf.eqI (((List.length x0.1) : Nat) : Int) (40 : Int)))
  (some (false, ()))
  (cond (decide ((60 : Int) < (((List.length x0.2.1) : Nat) : Int)))
    (some (false, ()))
    (lp_spec_DeviceOK_0 R L x0 x0 false (0 : Int)))) := by kernel_rfl
theorem q_spec_DeviceOK_0 (R : Run EE) (L : Loops) (v0 : d13) (v1 : d13) (v2 : Bool) (v3 : Int) : @Eq (Option ((Bool × Unit))) (from_ EE R L 128 Go.Proofs.Tryz.f128 [1, 1, 0, 1, 0, 0] (mk 54 [(0, .dat ⟨t2, v0, .sh⟩), (1, .dat ⟨(.ptr t2), v1, (.own .sh)⟩), (2, .dat ⟨.bool, v2, .sh⟩), (3, .dat ⟨(.int .i64), v3, .sh⟩)])) (
  cond (decide (v3 < (((List.length v1.1) : Nat) : Int)))
  (cond (Go.Rf.nonneg v3)
    (cond (Nat.blt (Int.toNat v3) (List.length v1.1))
      (cond (decide ((700 : Int) < (((List.length (List.getD v1.1 (Int.toNat v3) ([] : List (UInt8)))) : Nat) : Int)))
        (some (false, ()))
        (lp_spec_DeviceOK_0 R L v0 v1 v2 (Go.IntKind.wrap .i64 (v3 + (1 : Int)))))
      (none))
    (none))
  (lp_spec_DeviceOK_1 R L v0 v1 v2 v3 (0 : Int))) := by kernel_rfl
theorem q_spec_DeviceOK_1 (R : Run EE) (L : Loops) (v0 : d13) (v1 : d13) (v2 : Bool) (v3 : Int) (v4 : Int) : @Eq (Option ((Bool × Unit))) (from_ EE R L 128 Go.Proofs.Tryz.f128 [1, 1, 1, 0, 1, 0, 0] (mk 54 [(0, .dat ⟨t2, v0, .sh⟩), (1, .dat ⟨(.ptr t2), v1, (.own .sh)⟩), (2, .dat ⟨.bool, v2, .sh⟩), (3, .dat ⟨(.int .i64), v3, .sh⟩), (4, .dat ⟨(.int .i64), v4, .sh⟩)])) (
  cond (decide (v4 < (((List.length v1.2.1) : Nat) : Int)))
  (cond (Go.Rf.nonneg v4)
    (cond (Nat.blt (Int.toNat v4) (List.length v1.2.1))
      ((c_spec_l05In R (List.getD v1.2.1 (Int.toNat v4) ((0 : Int), (([] : List (UInt8)), ()))).1).bind fun r0 =>
        cond (!r0.1)
        (some (false, ()))
        (cond (Go.Rf.nonneg v4)
          (cond (Nat.blt (Int.toNat v4) (List.length v1.2.1))
            (cond (decide ((700 : Int) < (((List.length (List.getD v1.2.1 (Int.toNat v4) ((0 : Int), (([] : List (UInt8)), ()))).2.1) : Nat) : Int)))
              (some (false, ()))
              (lp_spec_DeviceOK_1 R L v0 v1 v2 v3 (Go.IntKind.wrap .i64 (v4 + (1 : Int)))))
            (none))
          (none)))
      (none))
    (none))
  (some (true, ()))) := by kernel_rfl
/-- loop.example/g00548/spec.StoreOK -/
theorem q_spec_StoreOK (R : Run EE) (L : Loops) (x0 : d14) : @Eq (Option ((Bool × Unit))) (bodyK EE R L 127 [⟨t3, x0⟩]) (
  cond (Go.Rf.eqI (((List.length x0.1) : Nat) : Int) (32 : Int))
  ((c_spec_RegisterOK R x0.2.1).bind fun r0 =>
    cond r0.1
    ((c_spec_DeviceOK R x0.2.2.1).bind fun r1 =>
      cond r1.1
      (cond (Go.Rf.eqI (((List.length x0.2.2.1.2.1) : Nat) : Int) (0 : Int))
        (cond x0.2.2.2.1
          (some ((!x0.2.2.2.2.1), ()))
          (some ((!false), ())))
        (some (false, ())))
      (some (false, ())))
    (some (false, ())))
  (some (false, ()))) := by kernel_rfl
/-- loop.example/g00548/spec.MapOK -/
theorem q_spec_MapOK (R : Run EE) (L : Loops) (x0 : List ((Int × (Int × Unit)))) : @Eq (Option ((Bool × Unit))) (bodyK EE R L 129 [⟨(.sl t4), x0⟩]) (
  cond (decide ((4096 : Int) < (((List.length x0) : Nat) : Int)))
  (some (false, ()))
  (lp_spec_MapOK_0 R L x0 false (0 : Int))) := by kernel_rfl
theorem q_spec_MapOK_0 (R : Run EE) (L : Loops) (v0 : List ((Int × (Int × Unit)))) (v2 : Bool) (v3 : Int) : @Eq (Option ((Bool × Unit))) (from_ EE R L 129 Go.Proofs.Tryz.f129 [1, 1, 0, 1, 0, 0] (mk 50 [(0, .dat ⟨(.sl t4), v0, .sh⟩), (2, .dat ⟨.bool, v2, .sh⟩), (3, .dat ⟨(.int .i64), v3, .sh⟩)])) (
  cond (decide (v3 < (((List.length v0) : Nat) : Int)))
  (cond (Go.Rf.nonneg v3)
    (cond (Nat.blt (Int.toNat v3) (List.length v0))
      ((c_spec_l01In R (List.getD v0 (Int.toNat v3) ((0 : Int), ((0 : Int), ()))).1 (1 : Int) (9999 : Int)).bind fun r0 =>
        cond (!r0.1)
        (some (false, ()))
        (cond (Go.Rf.nonneg v3)
          (cond (Nat.blt (Int.toNat v3) (List.length v0))
            ((c_spec_l01In R (List.getD v0 (Int.toNat v3) ((0 : Int), ((0 : Int), ()))).2.1 (0 : Int) (999999 : Int)).bind fun r1 =>
              cond (!r1.1)
              (some (false, ()))
              (cond (decide ((0 : Int) < v3))
                (cond (Go.Rf.nonneg (Go.IntKind.wrap .i64 (v3 - (1 : Int))))
                  (cond (Nat.blt (Int.toNat (Go.IntKind.wrap .i64 (v3 - (1 : Int)))) (List.length v0))
                    (cond (Go.Rf.nonneg v3)
                      (cond (Nat.blt (Int.toNat v3) (List.length v0))
                        (cond (decide ((List.getD v0 (Int.toNat v3) ((0 : Int), ((0 : Int), ()))).1 ≤ (List.getD v0 (Int.toNat (Go.IntKind.wrap .i64 (v3 - (1 : Int)))) ((0 : Int), ((0 : Int), ()))).1))
                          (some (false, ()))
                          (lp_spec_MapOK_0 R L v0 v2 (Go.IntKind.wrap .i64 (v3 + (1 : Int)))))
                        (none))
                      (none))
                    (none))
                  (none))
                (lp_spec_MapOK_0 R L v0 v2 (Go.IntKind.wrap .i64 (v3 + (1 : Int))))))
            (none))
          (none)))
      (none))
    (none))
  (some ((decide ((((List.length v0) : Nat) : Int) ≤ (11 : Int))), ()))) := by kernel_rfl
/-- loop.example/g00548/spec.l10ResultOK -/
theorem q_spec_l10ResultOK (R : Run EE) (L : Loops) (x0 : d16) : @Eq (Option ((Bool × Unit))) (bodyK EE R L 197 [⟨t6, x0⟩]) (
  (c_spec_l01In R x0.1 (0 : Int) (19 : Int)).bind fun r0 =>
  cond (!r0.1)
  (some (false, ()))
  (cond (decide ((32 : Int) < (((List.length x0.2.1) : Nat) : Int)))
    (some (false, ()))
    (cond (!(Go.Rf.eqI x0.1 (0 : Int)))
      (cond (decide ((0 : Int) < (((List.length x0.2.1) : Nat) : Int)))
        (some (false, ()))
        (lp_spec_l10ResultOK_0 R L x0 x0 false (0 : Int)))
      (lp_spec_l10ResultOK_0 R L x0 x0 false (0 : Int))))) := by kernel_rfl
theorem q_spec_l10ResultOK_0 (R : Run EE) (L : Loops) (v0 : d16) (v1 : d16) (v2 : Bool) (v3 : Int) : @Eq (Option ((Bool × Unit))) (from_ EE R L 197 Go.Proofs.Tryz.f197 [1, 1, 0, 1, 0, 0] (mk 39 [(0, .dat ⟨t6, v0, .sh⟩), (1, .dat ⟨(.ptr t6), v1, (.own .sh)⟩), (2, .dat ⟨.bool, v2, .sh⟩), (3, .dat ⟨(.int .i64), v3, .sh⟩)])) (
  cond (decide (v3 < (((List.length v1.2.1) : Nat) : Int)))
  (cond (Go.Rf.nonneg v3)
    (cond (Nat.blt (Int.toNat v3) (List.length v1.2.1))
      ((c_spec_l01In R (List.getD v1.2.1 (Int.toNat v3) (0 : Int)) (0 : Int) (999999 : Int)).bind fun r0 =>
        cond (!r0.1)
        (some (false, ()))
        (lp_spec_l10ResultOK_0 R L v0 v1 v2 (Go.IntKind.wrap .i64 (v3 + (1 : Int)))))
      (none))
    (none))
  (some (true, ()))) := by kernel_rfl
/-- loop.example/g00548/spec.l12Results -/
theorem q_spec_l12Results (R : Run EE) (L : Loops) (x0 : List (d16)) : @Eq (Option ((Bool × Unit))) (bodyK EE R L 111 [⟨(.sl t6), x0⟩]) (
  lp_spec_l12Results_0 R L x0 false (0 : Int)) := by kernel_rfl
theorem q_spec_l12Results_0 (R : Run EE) (L : Loops) (v0 : List (d16)) (v2 : Bool) (v3 : Int) : @Eq (Option ((Bool × Unit))) (from_ EE R L 111 Go.Proofs.Tryz.f111 [1, 0, 1, 0, 0] (mk 19 [(0, .dat ⟨(.sl t6), v0, .sh⟩), (2, .dat ⟨.bool, v2, .sh⟩), (3, .dat ⟨(.int .i64), v3, .sh⟩)])) (
  cond (decide (v3 < (((List.length v0) : Nat) : Int)))
  (cond (Go.Rf.nonneg v3)
    (cond (Nat.blt (Int.toNat v3) (List.length v0))
      ((c_spec_l10ResultOK R (List.getD v0 (Int.toNat v3) ((0 : Int), (([] : List (Int)), ())))).bind fun r0 =>
        cond (!r0.1)
        (some (false, ()))
        (lp_spec_l12Results_0 R L v0 v2 (Go.IntKind.wrap .i64 (v3 + (1 : Int)))))
      (none))
    (none))
  (some ((decide ((((List.length v0) : Nat) : Int) ≤ (2 : Int))), ()))) := by kernel_rfl
/-- loop.example/g00548/spec.OpOK -/
theorem q_spec_OpOK (R : Run EE) (L : Loops) (x0 : d15) : @Eq (Option ((Bool × Unit))) (bodyK EE R L 160 [⟨t5, x0⟩]) (
  (c_spec_l01In R x0.1 (1 : Int) (6 : Int)).bind fun r0 =>
  cond (!r0.1)
  (some (false, ()))
  ((c_spec_l01In R x0.2.1 (1 : Int) (9999 : Int)).bind fun r1 =>
    cond (!r1.1)
    (some (false, ()))
    (cond (Go.Rf.eqI x0.1 (1 : Int))
      (some ((Go.Rf.eqI x0.2.2.1 (0 : Int)), ()))
      (cond (Go.Rf.eqI x0.1 (3 : Int))
        (some ((Go.Rf.eqI x0.2.2.1 (0 : Int)), ()))
        (cond (Go.Rf.eqI x0.1 (6 : Int))
          ((c_spec_l01In R x0.2.2.1 (1 : Int) (4 : Int)).bind fun r2 =>
            some (r2.1, ()))
          ((c_spec_l01In R x0.2.2.1 (0 : Int) (999999 : Int)).bind fun r2 =>
            some (r2.1, ()))))))) := by kernel_rfl
/-- loop.example/g00548/spec.l09Txn -/
theorem q_spec_l09Txn (R : Run EE) (L : Loops) (x0 : (List (d15) × Unit)) : @Eq (Option ((Bool × Unit))) (bodyK EE R L 86 [⟨(.pair (.sl t5) .unit), x0⟩]) (
  lp_spec_l09Txn_0 R L x0 x0 false (0 : Int)) := by kernel_rfl
theorem q_spec_l09Txn_0 (R : Run EE) (L : Loops) (v0 : (List (d15) × Unit)) (v1 : (List (d15) × Unit)) (v2 : Bool) (v3 : Int) : @Eq (Option ((Bool × Unit))) (from_ EE R L 86 Go.Proofs.Tryz.f86 [1, 0, 1, 0, 0] (mk 22 [(0, .dat ⟨(.pair (.sl t5) .unit), v0, .sh⟩), (1, .dat ⟨(.ptr (.pair (.sl t5) .unit)), v1, (.own .sh)⟩), (2, .dat ⟨.bool, v2, .sh⟩), (3, .dat ⟨(.int .i64), v3, .sh⟩)])) (
  cond (decide (v3 < (((List.length v1.1) : Nat) : Int)))
  (cond (Go.Rf.nonneg v3)
    (cond (Nat.blt (Int.toNat v3) (List.length v1.1))
      ((c_spec_OpOK R (List.getD v1.1 (Int.toNat v3) ((0 : Int), ((0 : Int), ((0 : Int), ()))))).bind fun r0 =>
        cond (!r0.1)
        (some (false, ()))
        (lp_spec_l09Txn_0 R L v0 v1 v2 (Go.IntKind.wrap .i64 (v3 + (1 : Int)))))
      (none))
    (none))
  ((c_spec_l01In R (((List.length v1.1) : Nat) : Int) (1 : Int) (4 : Int)).bind fun r0 =>
    some (r0.1, ()))) := by kernel_rfl
/-- loop.example/g00548/spec.BatchOK -/
theorem q_spec_BatchOK (R : Run EE) (L : Loops) (x0 : List ((List (d15) × Unit))) : @Eq (Option ((Bool × Unit))) (bodyK EE R L 102 [⟨(.sl (.pair (.sl t5) .unit)), x0⟩]) (
  cond (decide ((4096 : Int) < (((List.length x0) : Nat) : Int)))
  (some (false, ()))
  ((c_spec_l01In R (((List.length x0) : Nat) : Int) (1 : Int) (2 : Int)).bind fun r0 =>
    cond (!r0.1)
    (some (false, ()))
    (lp_spec_BatchOK_0 R L x0 false (0 : Int)))) := by kernel_rfl
theorem q_spec_BatchOK_0 (R : Run EE) (L : Loops) (v0 : List ((List (d15) × Unit))) (v2 : Bool) (v3 : Int) : @Eq (Option ((Bool × Unit))) (from_ EE R L 102 Go.Proofs.Tryz.f102 [1, 1, 1, 0, 1, 0, 0] (mk 23 [(0, .dat ⟨(.sl (.pair (.sl t5) .unit)), v0, .sh⟩), (2, .dat ⟨.bool, v2, .sh⟩), (3, .dat ⟨(.int .i64), v3, .sh⟩)])) (
  cond (decide (v3 < (((List.length v0) : Nat) : Int)))
  (cond (Go.Rf.nonneg v3)
    (cond (Nat.blt (Int.toNat v3) (List.length v0))
      ((c_spec_l09Txn R (List.getD v0 (Int.toNat v3) (([] : List (d15)), ()))).bind fun r0 =>
        cond (!r0.1)
        (some (false, ()))
        (lp_spec_BatchOK_0 R L v0 v2 (Go.IntKind.wrap .i64 (v3 + (1 : Int)))))
      (none))
    (none))
  (some (true, ()))) := by kernel_rfl
/-- loop.example/g00548/spec.WorldOK -/
theorem q_spec_WorldOK (R : Run EE) (L : Loops) (x0 : d17) : @Eq (Option ((Bool × Unit))) (bodyK EE R L 60 [⟨t7, x0⟩]) (
  (c_spec_StoreOK R x0.1).bind fun r0 =>
  cond (!r0.1)
  (some (false, ()))
  ((c_spec_DeviceOK R x0.2.1).bind fun r1 =>
    cond (!r1.1)
    (some (false, ()))
    (cond (decide ((0 : Int) < (((List.length x0.2.1.2.1) : Nat) : Int)))
      (some (false, ()))
      ((c_spec_MapOK R x0.2.2.1).bind fun r2 =>
        cond (!r2.1)
        (some (false, ()))
        (cond (!(Go.Rf.eqI (((List.length x0.2.2.2.1) : Nat) : Int) (Go.IntKind.wrap .i64 (x0.1.2.1.2.2.1 - x0.1.2.1.1))))
          (some (false, ()))
          ((c_spec_l12Results R x0.2.2.2.2.1).bind fun r3 =>
            cond (!r3.1)
            (some (false, ()))
            (lp_spec_WorldOK_0 R L x0 x0 false (0 : Int)))))))) := by kernel_rfl
theorem q_spec_WorldOK_0 (R : Run EE) (L : Loops) (v0 : d17) (v1 : d17) (v2 : Bool) (v3 : Int) : @Eq (Option ((Bool × Unit))) (from_ EE R L 60 Go.Proofs.Tryz.f60 [1, 1, 0, 1, 0, 0] (mk 62 [(0, .dat ⟨t7, v0, .sh⟩), (1, .dat ⟨(.ptr t7), v1, (.own .sh)⟩), (2, .dat ⟨.bool, v2, .sh⟩), (3, .dat ⟨(.int .i64), v3, .sh⟩)])) (
  cond (decide (v3 < (((List.length v1.2.2.2.1) : Nat) : Int)))
  (cond (Go.Rf.nonneg v3)
    (cond (Nat.blt (Int.toNat v3) (List.length v1.2.2.2.1))
      ((c_spec_BatchOK R (List.getD v1.2.2.2.1 (Int.toNat v3) ([] : List ((List (d15) × Unit))))).bind fun r0 =>
        cond (!r0.1)
        (some (false, ()))
        (lp_spec_WorldOK_0 R L v0 v1 v2 (Go.IntKind.wrap .i64 (v3 + (1 : Int)))))
      (none))
    (none))
  (some (true, ()))) := by kernel_rfl
/-- loop.example/g00548/spec.SameDevice -/
theorem q_spec_SameDevice (R : Run EE) (L : Loops) (x0 : d13) (x1 : d13) : @Eq (Option ((Bool × Unit))) (bodyK EE R L 62 [⟨t2, x0⟩, ⟨t2, x1⟩]) (
  cond (!(Go.Rf.eqI (((List.length x0.1) : Nat) : Int) (((List.length x1.1) : Nat) : Int)))
  (some (false, ()))
  (cond (!(Go.Rf.eqI (((List.length x0.2.1) : Nat) : Int) (((List.length x1.2.1) : Nat) : Int)))
    (some (false, ()))
    (lp_spec_SameDevice_0 R L x0 x1 x0 x1 false (0 : Int)))) := by kernel_rfl
theorem q_spec_SameDevice_0 (R : Run EE) (L : Loops) (v0 : d13) (v1 : d13) (v2 : d13) (v3 : d13) (v4 : Bool) (v5 : Int) : @Eq (Option ((Bool × Unit))) (from_ EE R L 62 Go.Proofs.Tryz.f62 [1, 1, 0, 1, 0, 0] (mk 59 [(0, .dat ⟨t2, v0, .sh⟩), (1, .dat ⟨t2, v1, .sh⟩), (2, .dat ⟨(.ptr t2), v2, (.own .sh)⟩), (3, .dat ⟨(.ptr t2), v3, (.own .sh)⟩), (4, .dat ⟨.bool, v4, .sh⟩), (5, .dat ⟨(.int .i64), v5, .sh⟩)])) (
  cond (decide (v5 < (((List.length v2.1) : Nat) : Int)))
  (cond (Go.Rf.nonneg v5)
    (cond (Nat.blt (Int.toNat v5) (List.length v2.1))
      (cond (Go.Rf.nonneg v5)
        (cond (Nat.blt (Int.toNat v5) (List.length v3.1))
          (cond (!(Go.Rf.eqS (List.getD v2.1 (Int.toNat v5) ([] : List (UInt8))) (List.getD v3.1 (Int.toNat v5) ([] : List (UInt8)))))
            (some (false, ()))
            (lp_spec_SameDevice_0 R L v0 v1 v2 v3 v4 (Go.IntKind.wrap .i64 (v5 + (1 : Int)))))
          (none))
        (none))
      (none))
    (none))
  (lp_spec_SameDevice_1 R L v0 v1 v2 v3 v4 v5 (0 : Int))) := by kernel_rfl
theorem q_spec_SameDevice_1 (R : Run EE) (L : Loops) (v0 : d13) (v1 : d13) (v2 : d13) (v3 : d13) (v4 : Bool) (v5 : Int) (v6 : Int) : @Eq (Option ((Bool × Unit))) (from_ EE R L 62 Go.Proofs.Tryz.f62 [1, 1, 1, 0, 1, 0, 0] (mk 59 [(0, .dat ⟨t2, v0, .sh⟩), (1, .dat ⟨t2, v1, .sh⟩), (2, .dat ⟨(.ptr t2), v2, (.own .sh)⟩), (3, .dat ⟨(.ptr t2), v3, (.own .sh)⟩), (4, .dat ⟨.bool, v4, .sh⟩), (5, .dat ⟨(.int .i64), v5, .sh⟩), (6, .dat ⟨(.int .i64), v6, .sh⟩)])) (
  cond (decide (v6 < (((List.length v2.2.1) : Nat) : Int)))
  (cond (Go.Rf.nonneg v6)
    (cond (Nat.blt (Int.toNat v6) (List.length v2.2.1))
      (cond (Go.Rf.nonneg v6)
        (cond (Nat.blt (Int.toNat v6) (List.length v3.2.1))
          (cond (!(Bool.and (Go.Rf.eqI (List.getD v2.2.1 (Int.toNat v6) ((0 : Int), (([] : List (UInt8)), ()))).1 (List.getD v3.2.1 (Int.toNat v6) ((0 : Int), (([] : List (UInt8)), ()))).1) (Bool.and (Go.Rf.eqS (List.getD v2.2.1 (Int.toNat v6) ((0 : Int), (([] : List (UInt8)), ()))).2.1 (List.getD v3.2.1 (Int.toNat v6) ((0 : Int), (([] : List (UInt8)), ()))).2.1) true)))
            (some (false, ()))
            (lp_spec_SameDevice_1 R L v0 v1 v2 v3 v4 v5 (Go.IntKind.wrap .i64 (v6 + (1 : Int)))))
          (none))
        (none))
      (none))
    (none))
  (some (true, ()))) := by kernel_rfl
/-- loop.example/g00548/spec.SameStore -/
theorem q_spec_SameStore (R : Run EE) (L : Loops) (x0 : d14) (x1 : d14) : @Eq (Option ((Bool × Unit))) (bodyK EE R L 61 [⟨t3, x0⟩, ⟨t3, x1⟩]) (
  cond (Go.Rf.eqS x0.1 x1.1)
  (cond (Bool.and (Go.Rf.eqI x0.2.1.1 x1.2.1.1) (Bool.and (Go.Rf.eqI x0.2.1.2.1 x1.2.1.2.1) (Bool.and (Go.Rf.eqI x0.2.1.2.2.1 x1.2.1.2.2.1) (Bool.and (Go.Rf.eqI x0.2.1.2.2.2.1 x1.2.1.2.2.2.1) (Bool.and (Go.Rf.eqS x0.2.1.2.2.2.2.1 x1.2.1.2.2.2.2.1) (Bool.and (Go.Rf.eqS x0.2.1.2.2.2.2.2.1 x1.2.1.2.2.2.2.2.1) (Bool.and (Go.Rf.eqS x0.2.1.2.2.2.2.2.2.1 x1.2.1.2.2.2.2.2.2.1) true)))))))
    (cond (Go.Rf.eqB x0.2.2.2.1 x1.2.2.2.1)
      (cond (Go.Rf.eqB x0.2.2.2.2.1 x1.2.2.2.2.1)
        ((c_spec_SameDevice R x0.2.2.1 x1.2.2.1).bind fun r0 =>
          some (r0.1, ()))
        (some (false, ())))
      (some (false, ())))
    (some (false, ())))
  (some (false, ()))) := by kernel_rfl
/-- loop.example/g00548/spec.CodeWord -/
theorem q_spec_CodeWord (R : Run EE) (L : Loops) (x0 : Int) : @Eq (Option ((List UInt8 × Unit))) (bodyK EE R L 214 [⟨(.int .i64), x0⟩]) (
  cond (decide (x0 < (0 : Int)))
  (some (([] : List (UInt8)), ()))
  (cond (decide ((((List.length (((111 : UInt8) :: ((107 : UInt8) :: ([] : List (UInt8)))) :: (((98 : UInt8) :: ((97 : UInt8) :: ((100 : UInt8) :: ([] : List (UInt8))))) :: (((108 : UInt8) :: ((111 : UInt8) :: ((110 : UInt8) :: ((103 : UInt8) :: ([] : List (UInt8)))))) :: (((102 : UInt8) :: ((111 : UInt8) :: ((114 : UInt8) :: ((109 : UInt8) :: ([] : List (UInt8)))))) :: (((114 : UInt8) :: ((97 : UInt8) :: ((110 : UInt8) :: ((103 : UInt8) :: ((101 : UInt8) :: ([] : List (UInt8))))))) :: (((110 : UInt8) :: ((111 : UInt8) :: ((110 : UInt8) :: ((101 : UInt8) :: ([] : List (UInt8)))))) :: (((109 : UInt8) :: ((97 : UInt8) :: ((110 : UInt8) :: ((121 : UInt8) :: ([] : List (UInt8)))))) :: (((102 : UInt8) :: ((117 : UInt8) :: ((108 : UInt8) :: ((108 : UInt8) :: ([] : List (UInt8)))))) :: (((115 : UInt8) :: ((105 : UInt8) :: ((122 : UInt8) :: ((101 : UInt8) :: ([] : List (UInt8)))))) :: (((116 : UInt8) :: ((97 : UInt8) :: ((103 : UInt8) :: ([] : List (UInt8))))) :: (((116 : UInt8) :: ((97 : UInt8) :: ((109 : UInt8) :: ((112 : UInt8) :: ((101 : UInt8) :: ((114 : UInt8) :: ((101 : UInt8) :: ((100 : UInt8) :: ([] : List (UInt8)))))))))) :: (((116 : UInt8) :: ((111 : UInt8) :: ((114 : UInt8) :: ((110 : UInt8) :: ([] : List (UInt8)))))) :: (((115 : UInt8) :: ((116 : UInt8) :: ((97 : UInt8) :: ((115 : UInt8) :: ((104 : UInt8) :: ([] : List (UInt8))))))) :: (((116 : UInt8) :: ((97 : UInt8) :: ((112 : UInt8) :: ((101 : UInt8) :: ([] : List (UInt8)))))) :: (((99 : UInt8) :: ((104 : UInt8) :: ((101 : UInt8) :: ((99 : UInt8) :: ((107 : UInt8) :: ([] : List (UInt8))))))) :: (((112 : UInt8) :: ((101 : UInt8) :: ((110 : UInt8) :: ((100 : UInt8) :: ((105 : UInt8) :: ((110 : UInt8) :: ((103 : UInt8) :: ([] : List (UInt8))))))))) :: (((100 : UInt8) :: ((111 : UInt8) :: ((119 : UInt8) :: ((110 : UInt8) :: ([] : List (UInt8)))))) :: (((117 : UInt8) :: ((112 : UInt8) :: ([] : List (UInt8)))) :: (((115 : UInt8) :: ((112 : UInt8) :: ((101 : UInt8) :: ((110 : UInt8) :: ((116 : UInt8) :: ([] : List (UInt8))))))) :: (((107 : UInt8) :: ((101 : UInt8) :: ((121 : UInt8) :: ([] : List (UInt8))))) :: ([] : List (List (UInt8)))))))))))))))))))))))) : Nat) : Int) ≤ x0))
    (some (([] : List (UInt8)), ()))
    (cond (Go.Rf.nonneg x0)
      (cond (Nat.blt (Int.toNat x0) (List.length (((111 : UInt8) :: ((107 : UInt8) :: ([] : List (UInt8)))) :: (((98 : UInt8) :: ((97 : UInt8) :: ((100 : UInt8) :: ([] : List (UInt8))))) :: (((108 : UInt8) :: ((111 : UInt8) :: ((110 : UInt8) :: ((103 : UInt8) :: ([] : List (UInt8)))))) :: (((102 : UInt8) :: ((111 : UInt8) :: ((114 : UInt8) :: ((109 : UInt8) :: ([] : List (UInt8)))))) :: (((114 : UInt8) :: ((97 : UInt8) :: ((110 : UInt8) :: ((103 : UInt8) :: ((101 : UInt8) :: ([] : List (UInt8))))))) :: (((110 : UInt8) :: ((111 : UInt8) :: ((110 : UInt8) :: ((101 : UInt8) :: ([] : List (UInt8)))))) :: (((109 : UInt8) :: ((97 : UInt8) :: ((110 : UInt8) :: ((121 : UInt8) :: ([] : List (UInt8)))))) :: (((102 : UInt8) :: ((117 : UInt8) :: ((108 : UInt8) :: ((108 : UInt8) :: ([] : List (UInt8)))))) :: (((115 : UInt8) :: ((105 : UInt8) :: ((122 : UInt8) :: ((101 : UInt8) :: ([] : List (UInt8)))))) :: (((116 : UInt8) :: ((97 : UInt8) :: ((103 : UInt8) :: ([] : List (UInt8))))) :: (((116 : UInt8) :: ((97 : UInt8) :: ((109 : UInt8) :: ((112 : UInt8) :: ((101 : UInt8) :: ((114 : UInt8) :: ((101 : UInt8) :: ((100 : UInt8) :: ([] : List (UInt8)))))))))) :: (((116 : UInt8) :: ((111 : UInt8) :: ((114 : UInt8) :: ((110 : UInt8) :: ([] : List (UInt8)))))) :: (((115 : UInt8) :: ((116 : UInt8) :: ((97 : UInt8) :: ((115 : UInt8) :: ((104 : UInt8) :: ([] : List (UInt8))))))) :: (((116 : UInt8) :: ((97 : UInt8) :: ((112 : UInt8) :: ((101 : UInt8) :: ([] : List (UInt8)))))) :: (((99 : UInt8) :: ((104 : UInt8) :: ((101 : UInt8) :: ((99 : UInt8) :: ((107 : UInt8) :: ([] : List (UInt8))))))) :: (((112 : UInt8) :: ((101 : UInt8) :: ((110 : UInt8) :: ((100 : UInt8) :: ((105 : UInt8) :: ((110 : UInt8) :: ((103 : UInt8) :: ([] : List (UInt8))))))))) :: (((100 : UInt8) :: ((111 : UInt8) :: ((119 : UInt8) :: ((110 : UInt8) :: ([] : List (UInt8)))))) :: (((117 : UInt8) :: ((112 : UInt8) :: ([] : List (UInt8)))) :: (((115 : UInt8) :: ((112 : UInt8) :: ((101 : UInt8) :: ((110 : UInt8) :: ((116 : UInt8) :: ([] : List (UInt8))))))) :: (((107 : UInt8) :: ((101 : UInt8) :: ((121 : UInt8) :: ([] : List (UInt8))))) :: ([] : List (List (UInt8)))))))))))))))))))))))))
        (some ((List.getD (((111 : UInt8) :: ((107 : UInt8) :: ([] : List (UInt8)))) :: (((98 : UInt8) :: ((97 : UInt8) :: ((100 : UInt8) :: ([] : List (UInt8))))) :: (((108 : UInt8) :: ((111 : UInt8) :: ((110 : UInt8) :: ((103 : UInt8) :: ([] : List (UInt8)))))) :: (((102 : UInt8) :: ((111 : UInt8) :: ((114 : UInt8) :: ((109 : UInt8) :: ([] : List (UInt8)))))) :: (((114 : UInt8) :: ((97 : UInt8) :: ((110 : UInt8) :: ((103 : UInt8) :: ((101 : UInt8) :: ([] : List (UInt8))))))) :: (((110 : UInt8) :: ((111 : UInt8) :: ((110 : UInt8) :: ((101 : UInt8) :: ([] : List (UInt8)))))) :: (((109 : UInt8) :: ((97 : UInt8) :: ((110 : UInt8) :: ((121 : UInt8) :: ([] : List (UInt8)))))) :: (((102 : UInt8) :: ((117 : UInt8) :: ((108 : UInt8) :: ((108 : UInt8) :: ([] : List (UInt8)))))) :: (((115 : UInt8) :: ((105 : UInt8) :: ((122 : UInt8) :: ((101 : UInt8) :: ([] : List (UInt8)))))) :: (((116 : UInt8) :: ((97 : UInt8) :: ((103 : UInt8) :: ([] : List (UInt8))))) :: (((116 : UInt8) :: ((97 : UInt8) :: ((109 : UInt8) :: ((112 : UInt8) :: ((101 : UInt8) :: ((114 : UInt8) :: ((101 : UInt8) :: ((100 : UInt8) :: ([] : List (UInt8)))))))))) :: (((116 : UInt8) :: ((111 : UInt8) :: ((114 : UInt8) :: ((110 : UInt8) :: ([] : List (UInt8)))))) :: (((115 : UInt8) :: ((116 : UInt8) :: ((97 : UInt8) :: ((115 : UInt8) :: ((104 : UInt8) :: ([] : List (UInt8))))))) :: (((116 : UInt8) :: ((97 : UInt8) :: ((112 : UInt8) :: ((101 : UInt8) :: ([] : List (UInt8)))))) :: (((99 : UInt8) :: ((104 : UInt8) :: ((101 : UInt8) :: ((99 : UInt8) :: ((107 : UInt8) :: ([] : List (UInt8))))))) :: (((112 : UInt8) :: ((101 : UInt8) :: ((110 : UInt8) :: ((100 : UInt8) :: ((105 : UInt8) :: ((110 : UInt8) :: ((103 : UInt8) :: ([] : List (UInt8))))))))) :: (((100 : UInt8) :: ((111 : UInt8) :: ((119 : UInt8) :: ((110 : UInt8) :: ([] : List (UInt8)))))) :: (((117 : UInt8) :: ((112 : UInt8) :: ([] : List (UInt8)))) :: (((115 : UInt8) :: ((112 : UInt8) :: ((101 : UInt8) :: ((110 : UInt8) :: ((116 : UInt8) :: ([] : List (UInt8))))))) :: (((107 : UInt8) :: ((101 : UInt8) :: ((121 : UInt8) :: ([] : List (UInt8))))) :: ([] : List (List (UInt8))))))))))))))))))))))) (Int.toNat x0) ([] : List (UInt8))), ()))
        (none))
      (none)))) := by kernel_rfl
/-- loop.example/g00548/spec.l00Digits -/
theorem q_spec_l00Digits (R : Run EE) (L : Loops) (x0 : Int) : @Eq (Option ((List UInt8 × Unit))) (bodyK EE R L 215 [⟨(.int .i64), x0⟩]) (
  cond (Go.Rf.eqI x0 (-(9223372036854775808 : Int)))
  (some (((45 : UInt8) :: ((57 : UInt8) :: ((50 : UInt8) :: ((50 : UInt8) :: ((51 : UInt8) :: ((51 : UInt8) :: ((55 : UInt8) :: ((50 : UInt8) :: ((48 : UInt8) :: ((51 : UInt8) :: ((54 : UInt8) :: ((56 : UInt8) :: ((53 : UInt8) :: ((52 : UInt8) :: ((55 : UInt8) :: ((55 : UInt8) :: ((53 : UInt8) :: ((56 : UInt8) :: ((48 : UInt8) :: ((56 : UInt8) :: ([] : List (UInt8)))))))))))))))))))))), ()))
  (cond (decide (x0 < (0 : Int)))
    ((c_spec_l00Digits R (Go.Rf.negI .i64 x0)).bind fun r0 =>
      cond (Go.Rf.lenOK ((List.length ((45 : UInt8) :: ([] : List (UInt8)))) + (List.length r0.1)))
      (some ((((45 : UInt8) :: ([] : List (UInt8))) ++ r0.1), ()))
      (none))
    (cond (decide (x0 < (10 : Int)))
      (some ((List.map (fun (n : Int) => (UInt8.ofNat (Int.toNat n))) ((Go.IntKind.wrap .u8 (Go.IntKind.wrap .i64 ((48 : Int) + x0))) :: ([] : List (Int)))), ()))
      ((c_spec_l00Digits R (Go.IntKind.wrap .i64 (Int.tdiv x0 (10 : Int)))).bind fun r0 =>
        cond (Go.Rf.lenOK ((List.length r0.1) + (List.length (List.map (fun (n : Int) => (UInt8.ofNat (Int.toNat n))) ((Go.IntKind.wrap .u8 (Go.IntKind.wrap .i64 ((48 : Int) + (Int.tmod x0 (10 : Int))))) :: ([] : List (Int)))))))
        (some ((r0.1 ++ (List.map (fun (n : Int) => (UInt8.ofNat (Int.toNat n))) ((Go.IntKind.wrap .u8 (Go.IntKind.wrap .i64 ((48 : Int) + (Int.tmod x0 (10 : Int))))) :: ([] : List (Int))))), ()))
        (none))))) := by kernel_rfl
/-- loop.example/g00548/spec.l10Text -/
theorem q_spec_l10Text (R : Run EE) (L : Loops) (x0 : d16) : @Eq (Option ((List UInt8 × Unit))) (bodyK EE R L 130 [⟨t6, x0⟩]) (
  (c_spec_CodeWord R x0.1).bind fun r0 =>
  lp_spec_l10Text_0 R L x0 x0 ([] : List (UInt8)) r0.1 (0 : Int)) := by kernel_rfl
theorem q_spec_l10Text_0 (R : Run EE) (L : Loops) (v0 : d16) (v1 : d16) (v2 : List UInt8) (v3 : List UInt8) (v4 : Int) : @Eq (Option ((List UInt8 × Unit))) (from_ EE R L 130 Go.Proofs.Tryz.f130 [1, 1, 0, 1, 0, 0] (mk 25 [(0, .dat ⟨t6, v0, .sh⟩), (1, .dat ⟨(.ptr t6), v1, (.own .sh)⟩), (2, .dat ⟨.str, v2, .sh⟩), (3, .dat ⟨.str, v3, .sh⟩), (4, .dat ⟨(.int .i64), v4, .sh⟩)])) (
  cond (decide (v4 < (((List.length v1.2.1) : Nat) : Int)))
  (cond (Go.Rf.nonneg v4)
    (cond (Nat.blt (Int.toNat v4) (List.length v1.2.1))
      ((c_spec_l00Digits R (List.getD v1.2.1 (Int.toNat v4) (0 : Int))).bind fun r0 =>
        cond (Go.Rf.lenOK ((List.length ((32 : UInt8) :: ([] : List (UInt8)))) + (List.length r0.1)))
        (cond (Go.Rf.lenOK ((List.length v3) + (List.length (((32 : UInt8) :: ([] : List (UInt8))) ++ r0.1))))
          (lp_spec_l10Text_0 R L v0 v1 v2 (v3 ++ (((32 : UInt8) :: ([] : List (UInt8))) ++ r0.1)) (Go.IntKind.wrap .i64 (v4 + (1 : Int))))
          (none))
        (none))
      (none))
    (none))
  (some (v3, ()))) := by kernel_rfl
/-- loop.example/g00548/spec.l14Results -/
theorem q_spec_l14Results (R : Run EE) (L : Loops) (x0 : List (d16)) (x1 : List (d16)) : @Eq (Option ((Bool × Unit))) (bodyK EE R L 63 [⟨(.sl t6), x0⟩, ⟨(.sl t6), x1⟩]) (
  cond (!(Go.Rf.eqI (((List.length x0) : Nat) : Int) (((List.length x1) : Nat) : Int)))
  (some (false, ()))
  (lp_spec_l14Results_0 R L x0 x1 false (0 : Int))) := by kernel_rfl
theorem q_spec_l14Results_0 (R : Run EE) (L : Loops) (v0 : List (d16)) (v1 : List (d16)) (v4 : Bool) (v5 : Int) : @Eq (Option ((Bool × Unit))) (from_ EE R L 63 Go.Proofs.Tryz.f63 [1, 1, 0, 1, 0, 0] (mk 28 [(0, .dat ⟨(.sl t6), v0, .sh⟩), (1, .dat ⟨(.sl t6), v1, .sh⟩), (4, .dat ⟨.bool, v4, .sh⟩), (5, .dat ⟨(.int .i64), v5, .sh⟩)])) (
  cond (decide (v5 < (((List.length v0) : Nat) : Int)))
  (cond (Go.Rf.nonneg v5)
    (cond (Nat.blt (Int.toNat v5) (List.length v0))
      ((c_spec_l10Text R (List.getD v0 (Int.toNat v5) ((0 : Int), (([] : List (Int)), ())))).bind fun r0 =>
        cond (Go.Rf.nonneg v5)
        (cond (Nat.blt (Int.toNat v5) (List.length v1))
          ((c_spec_l10Text R (List.getD v1 (Int.toNat v5) ((0 : Int), (([] : List (Int)), ())))).bind fun r1 =>
            cond (!(Go.Rf.eqS r0.1 r1.1))
            (some (false, ()))
            (lp_spec_l14Results_0 R L v0 v1 v4 (Go.IntKind.wrap .i64 (v5 + (1 : Int)))))
          (none))
        (none))
      (none))
    (none))
  (some (true, ()))) := by kernel_rfl
/-- loop.example/g00548/spec.l09Words -/
theorem q_spec_l09Words (R : Run EE) (L : Loops)  : @Eq (Option (d18)) (bodyK EE R L 263 []) (
  some ((([] : List (UInt8)) :: (((103 : UInt8) :: ((101 : UInt8) :: ((116 : UInt8) :: ([] : List (UInt8))))) :: (((112 : UInt8) :: ((117 : UInt8) :: ((116 : UInt8) :: ([] : List (UInt8))))) :: (((100 : UInt8) :: ((114 : UInt8) :: ((111 : UInt8) :: ((112 : UInt8) :: ([] : List (UInt8)))))) :: (((99 : UInt8) :: ((104 : UInt8) :: ((101 : UInt8) :: ((99 : UInt8) :: ((107 : UInt8) :: ([] : List (UInt8))))))) :: (((97 : UInt8) :: ((100 : UInt8) :: ((100 : UInt8) :: ([] : List (UInt8))))) :: (((115 : UInt8) :: ((99 : UInt8) :: ((97 : UInt8) :: ((110 : UInt8) :: ([] : List (UInt8)))))) :: ([] : List (List (UInt8)))))))))), ())) := by kernel_rfl
/-- loop.example/g00548/spec.l09Op -/
theorem q_spec_l09Op (R : Run EE) (L : Loops) (x0 : d15) : @Eq (Option ((List UInt8 × Unit))) (bodyK EE R L 216 [⟨t5, x0⟩]) (
  (c_spec_l09Words R ).bind fun r0 =>
  cond (Go.Rf.nonneg x0.1)
  (cond (Nat.blt (Int.toNat x0.1) (List.length r0.1))
    (cond (Go.Rf.lenOK ((List.length (List.getD r0.1 (Int.toNat x0.1) ([] : List (UInt8)))) + (List.length ((32 : UInt8) :: ([] : List (UInt8))))))
      ((c_spec_l00Digits R x0.2.1).bind fun r1 =>
        cond (Go.Rf.lenOK ((List.length ((List.getD r0.1 (Int.toNat x0.1) ([] : List (UInt8))) ++ ((32 : UInt8) :: ([] : List (UInt8))))) + (List.length r1.1)))
        (cond (!(Go.Rf.eqI x0.1 (1 : Int)))
          (cond (!(Go.Rf.eqI x0.1 (3 : Int)))
            ((c_spec_l00Digits R x0.2.2.1).bind fun r2 =>
              cond (Go.Rf.lenOK ((List.length ((32 : UInt8) :: ([] : List (UInt8)))) + (List.length r2.1)))
              (cond (Go.Rf.lenOK ((List.length (((List.getD r0.1 (Int.toNat x0.1) ([] : List (UInt8))) ++ ((32 : UInt8) :: ([] : List (UInt8)))) ++ r1.1)) + (List.length (((32 : UInt8) :: ([] : List (UInt8))) ++ r2.1))))
                (some (((((List.getD r0.1 (Int.toNat x0.1) ([] : List (UInt8))) ++ ((32 : UInt8) :: ([] : List (UInt8)))) ++ r1.1) ++ (((32 : UInt8) :: ([] : List (UInt8))) ++ r2.1)), ()))
                (none))
              (none))
            (some ((((List.getD r0.1 (Int.toNat x0.1) ([] : List (UInt8))) ++ ((32 : UInt8) :: ([] : List (UInt8)))) ++ r1.1), ())))
          (some ((((List.getD r0.1 (Int.toNat x0.1) ([] : List (UInt8))) ++ ((32 : UInt8) :: ([] : List (UInt8)))) ++ r1.1), ())))
        (none))
      (none))
    (none))
  (none)) := by kernel_rfl
/-- loop.example/g00548/spec.l00Join -/
theorem q_spec_l00Join (R : Run EE) (L : Loops) (x0 : List (List UInt8)) (x1 : List UInt8) : @Eq (Option ((List UInt8 × Unit))) (bodyK EE R L 217 [⟨(.sl .str), x0⟩, ⟨.str, x1⟩]) (
  lp_spec_l00Join_0 R L x0 x1 ([] : List (UInt8)) ([] : List (UInt8)) (0 : Int)) := by kernel_rfl
theorem q_spec_l00Join_0 (R : Run EE) (L : Loops) (v0 : List (List UInt8)) (v1 : List UInt8) (v4 : List UInt8) (v5 : List UInt8) (v6 : Int) : @Eq (Option ((List UInt8 × Unit))) (from_ EE R L 217 Go.Proofs.Tryz.f217 [1, 1, 0, 1, 0, 0] (mk 25 [(0, .dat ⟨(.sl .str), v0, .sh⟩), (1, .dat ⟨.str, v1, .sh⟩), (4, .dat ⟨.str, v4, .sh⟩), (5, .dat ⟨.str, v5, .sh⟩), (6, .dat ⟨(.int .i64), v6, .sh⟩)])) (
  cond (decide (v6 < (((List.length v0) : Nat) : Int)))
  (cond (decide ((0 : Int) < v6))
    (cond (Go.Rf.lenOK ((List.length v5) + (List.length v1)))
      (cond (Go.Rf.nonneg v6)
        (cond (Nat.blt (Int.toNat v6) (List.length v0))
          (cond (Go.Rf.lenOK ((List.length (v5 ++ v1)) + (List.length (List.getD v0 (Int.toNat v6) ([] : List (UInt8))))))
            (lp_spec_l00Join_0 R L v0 v1 v4 ((v5 ++ v1) ++ (List.getD v0 (Int.toNat v6) ([] : List (UInt8)))) (Go.IntKind.wrap .i64 (v6 + (1 : Int))))
            (none))
          (none))
        (none))
      (none))
    (cond (Go.Rf.nonneg v6)
      (cond (Nat.blt (Int.toNat v6) (List.length v0))
        (cond (Go.Rf.lenOK ((List.length v5) + (List.length (List.getD v0 (Int.toNat v6) ([] : List (UInt8))))))
          (lp_spec_l00Join_0 R L v0 v1 v4 (v5 ++ (List.getD v0 (Int.toNat v6) ([] : List (UInt8)))) (Go.IntKind.wrap .i64 (v6 + (1 : Int))))
          (none))
        (none))
      (none)))
  (some (v5, ()))) := by kernel_rfl
/-- loop.example/g00548/spec.l09Text -/
theorem q_spec_l09Text (R : Run EE) (L : Loops) (x0 : List ((List (d15) × Unit))) : @Eq (Option ((List UInt8 × Unit))) (bodyK EE R L 131 [⟨(.sl (.pair (.sl t5) .unit)), x0⟩]) (
  lp_spec_l09Text_0 R L x0 ([] : List (UInt8)) ([] : List (List (UInt8))) (0 : Int)) := by kernel_rfl
theorem q_spec_l09Text_0 (R : Run EE) (L : Loops) (v0 : List ((List (d15) × Unit))) (v2 : List UInt8) (v3 : List (List UInt8)) (v4 : Int) : @Eq (Option ((List UInt8 × Unit))) (from_ EE R L 131 Go.Proofs.Tryz.f131 [1, 1, 0, 1, 0, 0] (mk 44 [(0, .dat ⟨(.sl (.pair (.sl t5) .unit)), v0, .sh⟩), (2, .dat ⟨.str, v2, .sh⟩), (3, .dat ⟨(.sl .str), v3, (.own .sh)⟩), (4, .dat ⟨(.int .i64), v4, .sh⟩)])) (
  cond (decide (v4 < (((List.length v0) : Nat) : Int)))
  (lp_spec_l09Text_1 R L v0 v2 v3 v4 ([] : List (List (UInt8))) (0 : Int))
  ((c_spec_l00Join R v3 ((32 : UInt8) :: ((124 : UInt8) :: ((32 : UInt8) :: ([] : List (UInt8)))))).bind fun r0 =>
    some (r0.1, ()))) := by kernel_rfl
theorem q_spec_l09Text_1 (R : Run EE) (L : Loops) (v0 : List ((List (d15) × Unit))) (v2 : List UInt8) (v3 : List (List UInt8)) (v4 : Int) (v5 : List (List UInt8)) (v6 : Int) : @Eq (Option ((List UInt8 × Unit))) (from_ EE R L 131 Go.Proofs.Tryz.f131 [1, 1, 0, 1, 0, 0, 1, 0, 0, 1, 0, 1, 0, 0] (mk 44 [(0, .dat ⟨(.sl (.pair (.sl t5) .unit)), v0, .sh⟩), (2, .dat ⟨.str, v2, .sh⟩), (3, .dat ⟨(.sl .str), v3, (.own .sh)⟩), (4, .dat ⟨(.int .i64), v4, .sh⟩), (5, .dat ⟨(.sl .str), v5, (.own .sh)⟩), (6, .dat ⟨(.int .i64), v6, .sh⟩)])) (
  cond (Go.Rf.nonneg v4)
  (cond (Nat.blt (Int.toNat v4) (List.length v0))
    (cond (decide (v6 < (((List.length (List.getD v0 (Int.toNat v4) (([] : List (d15)), ())).1) : Nat) : Int)))
      (cond (Go.Rf.nonneg v4)
        (cond (Nat.blt (Int.toNat v4) (List.length v0))
          (cond (Go.Rf.nonneg v6)
            (cond (Nat.blt (Int.toNat v6) (List.length (List.getD v0 (Int.toNat v4) (([] : List (d15)), ())).1))
              ((c_spec_l09Op R (List.getD (List.getD v0 (Int.toNat v4) (([] : List (d15)), ())).1 (Int.toNat v6) ((0 : Int), ((0 : Int), ((0 : Int), ()))))).bind fun r0 =>
                cond (Go.Rf.lenOK ((List.length v5) + (List.length (r0.1 :: ([] : List (List (UInt8)))))))
                (lp_spec_l09Text_1 R L v0 v2 v3 v4 (v5 ++ (r0.1 :: ([] : List (List (UInt8))))) (Go.IntKind.wrap .i64 (v6 + (1 : Int))))
                (none))
              (none))
            (none))
          (none))
        (none))
      ((c_spec_l00Join R v5 ((59 : UInt8) :: ((32 : UInt8) :: ([] : List (UInt8))))).bind fun r0 =>
        cond (Go.Rf.lenOK ((List.length v3) + (List.length (r0.1 :: ([] : List (List (UInt8)))))))
        (lp_spec_l09Text_2 R L v0 v2 (v3 ++ (r0.1 :: ([] : List (List (UInt8))))) (Go.IntKind.wrap .i64 (v4 + (1 : Int))) v5 v6)
        (none)))
    (none))
  (none)) := by kernel_rfl
theorem q_spec_l09Text_2 (R : Run EE) (L : Loops) (v0 : List ((List (d15) × Unit))) (v2 : List UInt8) (v3 : List (List UInt8)) (v4 : Int) (v5 : List (List UInt8)) (v6 : Int) : @Eq (Option ((List UInt8 × Unit))) (from_ EE R L 131 Go.Proofs.Tryz.f131 [1, 1, 0, 1, 0, 0] (mk 44 [(0, .dat ⟨(.sl (.pair (.sl t5) .unit)), v0, .sh⟩), (2, .dat ⟨.str, v2, .sh⟩), (3, .dat ⟨(.sl .str), v3, (.own .sh)⟩), (4, .dat ⟨(.int .i64), v4, .sh⟩), (5, .dat ⟨(.sl .str), v5, (.own .sh)⟩), (6, .dat ⟨(.int .i64), v6, .sh⟩)])) (
  cond (decide (v4 < (((List.length v0) : Nat) : Int)))
  (lp_spec_l09Text_1 R L v0 v2 v3 v4 ([] : List (List (UInt8))) (0 : Int))
  ((c_spec_l00Join R v3 ((32 : UInt8) :: ((124 : UInt8) :: ((32 : UInt8) :: ([] : List (UInt8)))))).bind fun r0 =>
    some (r0.1, ()))) := by kernel_rfl
/-- loop.example/g00548/spec.SameBatch -/
theorem q_spec_SameBatch (R : Run EE) (L : Loops) (x0 : List ((List (d15) × Unit))) (x1 : List ((List (d15) × Unit))) : @Eq (Option ((Bool × Unit))) (bodyK EE R L 64 [⟨(.sl (.pair (.sl t5) .unit)), x0⟩, ⟨(.sl (.pair (.sl t5) .unit)), x1⟩]) (
  cond (decide ((4096 : Int) < (((List.length x0) : Nat) : Int)))
  (some (false, ()))
  (cond (decide ((4096 : Int) < (((List.length x1) : Nat) : Int)))
    (some (false, ()))
    ((c_spec_BatchOK R x0).bind fun r0 =>
      cond r0.1
      ((c_spec_BatchOK R x1).bind fun r1 =>
        cond r1.1
        ((c_spec_l09Text R x0).bind fun r2 =>
          (c_spec_l09Text R x1).bind fun r3 =>
          some ((Go.Rf.eqS r2.1 r3.1), ()))
        (some (false, ())))
      (some (false, ()))))) := by kernel_rfl
/-- loop.example/g00548/spec.SameWorld -/
theorem q_spec_SameWorld (R : Run EE) (L : Loops) (x0 : d17) (x1 : d17) : @Eq (Option ((Bool × Unit))) (bodyK EE R L 8 [⟨t7, x0⟩, ⟨t7, x1⟩]) (
  (c_spec_WorldOK R x0).bind fun r0 =>
  cond (!r0.1)
  (some (false, ()))
  ((c_spec_WorldOK R x1).bind fun r1 =>
    cond (!r1.1)
    (some (false, ()))
    ((c_spec_SameStore R x0.1 x1.1).bind fun r2 =>
      cond (!r2.1)
      (some (false, ()))
      ((c_spec_SameDevice R x0.2.1 x1.2.1).bind fun r3 =>
        cond (!r3.1)
        (some (false, ()))
        (cond (!(Go.Rf.eqI (((List.length x0.2.2.1) : Nat) : Int) (((List.length x1.2.2.1) : Nat) : Int)))
          (some (false, ()))
          (cond (!(Go.Rf.eqI (((List.length x0.2.2.2.1) : Nat) : Int) (((List.length x1.2.2.2.1) : Nat) : Int)))
            (some (false, ()))
            ((c_spec_l14Results R x0.2.2.2.2.1 x1.2.2.2.2.1).bind fun r4 =>
              cond (!r4.1)
              (some (false, ()))
              (cond (!(Go.Rf.eqB x0.2.2.2.2.2.1 x1.2.2.2.2.2.1))
                (some (false, ()))
                (lp_spec_SameWorld_0 R L x0 x1 x0 x1 false (0 : Int)))))))))) := by kernel_rfl
theorem q_spec_SameWorld_0 (R : Run EE) (L : Loops) (v0 : d17) (v1 : d17) (v2 : d17) (v3 : d17) (v4 : Bool) (v5 : Int) : @Eq (Option ((Bool × Unit))) (from_ EE R L 8 Go.Proofs.Tryz.f8 [1, 1, 0, 1, 0, 0] (mk 101 [(0, .dat ⟨t7, v0, .sh⟩), (1, .dat ⟨t7, v1, .sh⟩), (2, .dat ⟨(.ptr t7), v2, (.own .sh)⟩), (3, .dat ⟨(.ptr t7), v3, (.own .sh)⟩), (4, .dat ⟨.bool, v4, .sh⟩), (5, .dat ⟨(.int .i64), v5, .sh⟩)])) (
  cond (decide (v5 < (((List.length v2.2.2.1) : Nat) : Int)))
  (cond (Go.Rf.nonneg v5)
    (cond (Nat.blt (Int.toNat v5) (List.length v2.2.2.1))
      (cond (Go.Rf.nonneg v5)
        (cond (Nat.blt (Int.toNat v5) (List.length v3.2.2.1))
          (cond (!(Bool.and (Go.Rf.eqI (List.getD v2.2.2.1 (Int.toNat v5) ((0 : Int), ((0 : Int), ()))).1 (List.getD v3.2.2.1 (Int.toNat v5) ((0 : Int), ((0 : Int), ()))).1) (Bool.and (Go.Rf.eqI (List.getD v2.2.2.1 (Int.toNat v5) ((0 : Int), ((0 : Int), ()))).2.1 (List.getD v3.2.2.1 (Int.toNat v5) ((0 : Int), ((0 : Int), ()))).2.1) true)))
            (some (false, ()))
            (lp_spec_SameWorld_0 R L v0 v1 v2 v3 v4 (Go.IntKind.wrap .i64 (v5 + (1 : Int)))))
          (none))
        (none))
      (none))
    (none))
  (lp_spec_SameWorld_1 R L v0 v1 v2 v3 v4 v5 (0 : Int))) := by kernel_rfl
theorem q_spec_SameWorld_1 (R : Run EE) (L : Loops) (v0 : d17) (v1 : d17) (v2 : d17) (v3 : d17) (v4 : Bool) (v5 : Int) (v6 : Int) : @Eq (Option ((Bool × Unit))) (from_ EE R L 8 Go.Proofs.Tryz.f8 [1, 1, 1, 0, 1, 0, 0] (mk 101 [(0, .dat ⟨t7, v0, .sh⟩), (1, .dat ⟨t7, v1, .sh⟩), (2, .dat ⟨(.ptr t7), v2, (.own .sh)⟩), (3, .dat ⟨(.ptr t7), v3, (.own .sh)⟩), (4, .dat ⟨.bool, v4, .sh⟩), (5, .dat ⟨(.int .i64), v5, .sh⟩), (6, .dat ⟨(.int .i64), v6, .sh⟩)])) (
  cond (decide (v6 < (((List.length v2.2.2.2.1) : Nat) : Int)))
  (cond (Go.Rf.nonneg v6)
    (cond (Nat.blt (Int.toNat v6) (List.length v2.2.2.2.1))
      (cond (Go.Rf.nonneg v6)
        (cond (Nat.blt (Int.toNat v6) (List.length v3.2.2.2.1))
          ((c_spec_SameBatch R (List.getD v2.2.2.2.1 (Int.toNat v6) ([] : List ((List (d15) × Unit)))) (List.getD v3.2.2.2.1 (Int.toNat v6) ([] : List ((List (d15) × Unit))))).bind fun r0 =>
            cond (!r0.1)
            (some (false, ()))
            (lp_spec_SameWorld_1 R L v0 v1 v2 v3 v4 v5 (Go.IntKind.wrap .i64 (v6 + (1 : Int)))))
          (none))
        (none))
      (none))
    (none))
  (some (true, ()))) := by kernel_rfl
/-- loop.example/g00548/impl.within -/
theorem q_impl_within (R : Run EE) (L : Loops) (x0 : Int) (x1 : Int) (x2 : Int) : @Eq (Option ((Bool × Unit))) (bodyK EE R L 172 [⟨(.int .i64), x0⟩, ⟨(.int .i64), x1⟩, ⟨(.int .i64), x2⟩]) (
  cond (decide (x1 ≤ x0))
  (some ((decide (x0 ≤ x2)), ()))
  (some (false, ()))) := by kernel_rfl
/-- loop.example/g00548/impl.isDigest -/
theorem q_impl_isDigest (R : Run EE) (L : Loops) (x0 : List UInt8) : @Eq (Option ((Bool × Unit))) (bodyK EE R L 264 [⟨.str, x0⟩]) (
  some ((Go.Rf.eqI (((List.length x0) : Nat) : Int) (32 : Int)), ())) := by kernel_rfl
/-- (loop.example/g00548/impl.Register).waiting -/
theorem q_impl_Register_waiting (R : Run EE) (L : Loops) (x0 : d11) : @Eq (Option ((Int × Unit))) (bodyK EE R L 140 [⟨t0, x0⟩]) (
  some ((Go.IntKind.wrap .i64 (x0.2.2.1 - x0.1)), ())) := by kernel_rfl
/-- loop.example/g00548/impl.RegisterOK -/
theorem q_impl_RegisterOK (R : Run EE) (L : Loops) (x0 : d11) : @Eq (Option ((Bool × Unit))) (bodyK EE R L 219 [⟨t0, x0⟩]) (
  (c_impl_within R x0.1 (0 : Int) (1000000 : Int)).bind fun r0 =>
  cond r0.1
  ((c_impl_within R x0.2.1 (0 : Int) (1 : Int)).bind fun r1 =>
    cond r1.1
    ((c_impl_within R x0.2.2.1 x0.1 (Go.Rf.minI (Go.IntKind.wrap .i64 (x0.1 + (4 : Int))) (1000000 : Int))).bind fun r2 =>
      cond r2.1
      ((c_impl_within R x0.2.2.2.1 (0 : Int) (1000000 : Int)).bind fun r3 =>
        cond r3.1
        ((c_impl_isDigest R x0.2.2.2.2.1).bind fun r4 =>
          cond r4.1
          ((c_impl_isDigest R x0.2.2.2.2.2.1).bind fun r5 =>
            cond r5.1
            ((c_impl_isDigest R x0.2.2.2.2.2.2.1).bind fun r6 =>
              cond r6.1
              ((c_impl_Register_waiting R x0).bind fun r7 =>
                cond (decide ((0 : Int) < r7.1))
                (some (true, ()))
                (some ((Go.Rf.eqS x0.2.2.2.2.1 x0.2.2.2.2.2.1), ())))
              (some (false, ())))
            (some (false, ())))
          (some (false, ())))
        (some (false, ())))
      (some (false, ())))
    (some (false, ())))
  (some (false, ()))) := by kernel_rfl
/-- loop.example/g00548/impl.areAll[string]$1 -/
theorem q_impl_areAll_string__1 (R : Run EE) (L : Loops) (x0 : List UInt8) (x1 : FnVal) : @Eq (Option ((Bool × Unit))) (bodyK EE R L 259 [⟨.str, x0⟩, ⟨(.ptr .fn), x1⟩]) (
  (callVB EE R x1 [⟨.str, (x0 : List UInt8)⟩]).bind fun (r0 : Bool) =>
  some ((!r0), ())) := by kernel_rfl
/-- slices.IndexFunc[[]string,string] -/
theorem q_slices_IndexFunc___string_string_ (R : Run EE) (L : Loops) (x0 : List (List UInt8)) (x1 : FnVal) : @Eq (Option ((Int × Unit))) (bodyK EE R L 293 [⟨(.sl .str), x0⟩, ⟨.fn, x1⟩]) (
  lp_slices_IndexFunc___string_string__0 R L x0 x1 (0 : Int) (((List.length x0) : Nat) : Int) (0 : Int)) := by kernel_rfl
theorem q_slices_IndexFunc___string_string__0 (R : Run EE) (L : Loops) (v0 : List (List UInt8)) (v1 : FnVal) (v4 : Int) (v7 : Int) (v8 : Int) : @Eq (Option ((Int × Unit))) (from_ EE R L 293 Go.Proofs.Tryz.f293 [1, 0, 1, 0, 0] (mk 19 [(0, .dat ⟨(.sl .str), v0, .sh⟩), (1, .dat ⟨.fn, v1, .sh⟩), (4, .dat ⟨(.int .i64), v4, .sh⟩), (7, .dat ⟨(.int .i64), v7, .sh⟩), (8, .dat ⟨(.int .i64), v8, .sh⟩)])) (
  cond (decide (v8 < v7))
  (cond (Go.Rf.nonneg v8)
    (cond (Nat.blt (Int.toNat v8) (List.length v0))
      ((callVB EE R v1 [⟨.str, ((List.getD v0 (Int.toNat v8) ([] : List (UInt8))) : List UInt8)⟩]).bind fun (r0 : Bool) =>
        cond r0
        (some (v8, ()))
        (lp_slices_IndexFunc___string_string__1 R L v0 v1 v4 v8 v7 (Go.IntKind.wrap .i64 (v8 + (1 : Int)))))
      (none))
    (none))
  (some ((-(1 : Int)), ()))) := by kernel_rfl
theorem q_slices_IndexFunc___string_string__1 (R : Run EE) (L : Loops) (v0 : List (List UInt8)) (v1 : FnVal) (v4 : Int) (v5 : Int) (v7 : Int) (v8 : Int) : @Eq (Option ((Int × Unit))) (from_ EE R L 293 Go.Proofs.Tryz.f293 [1, 0, 1, 0, 0] (mk 19 [(0, .dat ⟨(.sl .str), v0, .sh⟩), (1, .dat ⟨.fn, v1, .sh⟩), (4, .dat ⟨(.int .i64), v4, .sh⟩), (5, .dat ⟨(.int .i64), v5, .sh⟩), (7, .dat ⟨(.int .i64), v7, .sh⟩), (8, .dat ⟨(.int .i64), v8, .sh⟩)])) (
  cond (decide (v8 < v7))
  (cond (Go.Rf.nonneg v8)
    (cond (Nat.blt (Int.toNat v8) (List.length v0))
      ((callVB EE R v1 [⟨.str, ((List.getD v0 (Int.toNat v8) ([] : List (UInt8))) : List UInt8)⟩]).bind fun (r0 : Bool) =>
        cond r0
        (some (v8, ()))
        (lp_slices_IndexFunc___string_string__1 R L v0 v1 v4 v8 v7 (Go.IntKind.wrap .i64 (v8 + (1 : Int)))))
      (none))
    (none))
  (some ((-(1 : Int)), ()))) := by kernel_rfl
/-- slices.ContainsFunc[[]string,string] -/
theorem q_slices_ContainsFunc___string_string_ (R : Run EE) (L : Loops) (x0 : List (List UInt8)) (x1 : FnVal) : @Eq (Option ((Bool × Unit))) (bodyK EE R L 258 [⟨(.sl .str), x0⟩, ⟨.fn, x1⟩]) (
  (c_slices_IndexFunc___string_string_ R x0 x1).bind fun r0 =>
  some ((decide ((0 : Int) ≤ r0.1)), ())) := by kernel_rfl
/-- loop.example/g00548/impl.areAll[string] -/
theorem q_impl_areAll_string_ (R : Run EE) (L : Loops) (x0 : List (List UInt8)) (x1 : FnVal) : @Eq (Option ((Bool × Unit))) (bodyK EE R L 199 [⟨(.sl .str), x0⟩, ⟨.fn, x1⟩]) (
  (c_slices_ContainsFunc___string_string_ R x0 (Go.Rf.FnVal.mk (259 : Nat) (Go.Rf.FCaps.fn x1 (Go.Rf.FCaps.nil)))).bind fun r0 =>
  some ((!r0.1), ())) := by kernel_rfl
/-- loop.example/g00548/impl.isContent -/
theorem q_impl_isContent (R : Run EE) (L : Loops) (x0 : List UInt8) : @Eq (Option ((Bool × Unit))) (bodyK EE R L 265 [⟨.str, x0⟩]) (
  some ((decide ((((List.length x0) : Nat) : Int) ≤ (700 : Int))), ())) := by kernel_rfl
/-- loop.example/g00548/impl.areAll[loop.example/g00548/impl.Io]$1 -/
theorem q_impl_areAll_impl_Io__1 (R : Run EE) (L : Loops) (x0 : d12) (x1 : FnVal) : @Eq (Option ((Bool × Unit))) (bodyK EE R L 296 [⟨t1, x0⟩, ⟨(.ptr .fn), x1⟩]) (
  (callVB EE R x1 [⟨t1, (x0 : d12)⟩]).bind fun (r0 : Bool) =>
  some ((!r0), ())) := by kernel_rfl
/-- slices.IndexFunc[[]loop.example/g00548/impl.Io,loop.example/g00548/impl.Io] -/
theorem q_slices_IndexFunc___impl_Io_impl_Io_ (R : Run EE) (L : Loops) (x0 : List (d12)) (x1 : FnVal) : @Eq (Option ((Int × Unit))) (bodyK EE R L 306 [⟨(.sl t1), x0⟩, ⟨.fn, x1⟩]) (
  lp_slices_IndexFunc___impl_Io_impl_Io__0 R L x0 x1 (0 : Int) (((List.length x0) : Nat) : Int) (0 : Int)) := by kernel_rfl
theorem q_slices_IndexFunc___impl_Io_impl_Io__0 (R : Run EE) (L : Loops) (v0 : List (d12)) (v1 : FnVal) (v4 : Int) (v7 : Int) (v8 : Int) : @Eq (Option ((Int × Unit))) (from_ EE R L 306 Go.Proofs.Tryz.f306 [1, 0, 1, 0, 0] (mk 19 [(0, .dat ⟨(.sl t1), v0, .sh⟩), (1, .dat ⟨.fn, v1, .sh⟩), (4, .dat ⟨(.int .i64), v4, .sh⟩), (7, .dat ⟨(.int .i64), v7, .sh⟩), (8, .dat ⟨(.int .i64), v8, .sh⟩)])) (
  cond (decide (v8 < v7))
  (cond (Go.Rf.nonneg v8)
    (cond (Nat.blt (Int.toNat v8) (List.length v0))
      ((callVB EE R v1 [⟨t1, ((List.getD v0 (Int.toNat v8) ((0 : Int), (([] : List (UInt8)), ()))) : d12)⟩]).bind fun (r0 : Bool) =>
        cond r0
        (some (v8, ()))
        (lp_slices_IndexFunc___impl_Io_impl_Io__1 R L v0 v1 v4 v8 v7 (Go.IntKind.wrap .i64 (v8 + (1 : Int)))))
      (none))
    (none))
  (some ((-(1 : Int)), ()))) := by kernel_rfl
theorem q_slices_IndexFunc___impl_Io_impl_Io__1 (R : Run EE) (L : Loops) (v0 : List (d12)) (v1 : FnVal) (v4 : Int) (v5 : Int) (v7 : Int) (v8 : Int) : @Eq (Option ((Int × Unit))) (from_ EE R L 306 Go.Proofs.Tryz.f306 [1, 0, 1, 0, 0] (mk 19 [(0, .dat ⟨(.sl t1), v0, .sh⟩), (1, .dat ⟨.fn, v1, .sh⟩), (4, .dat ⟨(.int .i64), v4, .sh⟩), (5, .dat ⟨(.int .i64), v5, .sh⟩), (7, .dat ⟨(.int .i64), v7, .sh⟩), (8, .dat ⟨(.int .i64), v8, .sh⟩)])) (
  cond (decide (v8 < v7))
  (cond (Go.Rf.nonneg v8)
    (cond (Nat.blt (Int.toNat v8) (List.length v0))
      ((callVB EE R v1 [⟨t1, ((List.getD v0 (Int.toNat v8) ((0 : Int), (([] : List (UInt8)), ()))) : d12)⟩]).bind fun (r0 : Bool) =>
        cond r0
        (some (v8, ()))
        (lp_slices_IndexFunc___impl_Io_impl_Io__1 R L v0 v1 v4 v8 v7 (Go.IntKind.wrap .i64 (v8 + (1 : Int)))))
      (none))
    (none))
  (some ((-(1 : Int)), ()))) := by kernel_rfl
/-- slices.ContainsFunc[[]loop.example/g00548/impl.Io,loop.example/g00548/impl.Io] -/
theorem q_slices_ContainsFunc___impl_Io_impl_Io_ (R : Run EE) (L : Loops) (x0 : List (d12)) (x1 : FnVal) : @Eq (Option ((Bool × Unit))) (bodyK EE R L 295 [⟨(.sl t1), x0⟩, ⟨.fn, x1⟩]) (
  (c_slices_IndexFunc___impl_Io_impl_Io_ R x0 x1).bind fun r0 =>
  some ((decide ((0 : Int) ≤ r0.1)), ())) := by kernel_rfl
/-- loop.example/g00548/impl.areAll[loop.example/g00548/impl.Io] -/
theorem q_impl_areAll_impl_Io_ (R : Run EE) (L : Loops) (x0 : List (d12)) (x1 : FnVal) : @Eq (Option ((Bool × Unit))) (bodyK EE R L 266 [⟨(.sl t1), x0⟩, ⟨.fn, x1⟩]) (
  (c_slices_ContainsFunc___impl_Io_impl_Io_ R x0 (Go.Rf.FnVal.mk (296 : Nat) (Go.Rf.FCaps.fn x1 (Go.Rf.FCaps.nil)))).bind fun r0 =>
  some ((!r0.1), ())) := by kernel_rfl
/-- loop.example/g00548/impl.isSector -/
theorem q_impl_isSector (R : Run EE) (L : Loops) (x0 : Int) : @Eq (Option ((Bool × Unit))) (bodyK EE R L 268 [⟨(.int .i64), x0⟩]) (
  (c_impl_within R x0 (0 : Int) (39 : Int)).bind fun r0 =>
  some (r0.1, ())) := by kernel_rfl
/-- loop.example/g00548/impl.DeviceOK$1 -/
theorem q_impl_DeviceOK_1 (R : Run EE) (L : Loops) (x0 : d12) : @Eq (Option ((Bool × Unit))) (bodyK EE R L 267 [⟨t1, x0⟩]) (
  (c_impl_isSector R x0.1).bind fun r0 =>
  cond r0.1
  ((c_impl_isContent R x0.2.1).bind fun r1 =>
    some (r1.1, ()))
  (some (false, ()))) := by kernel_rfl
/-- loop.example/g00548/impl.DeviceOK -/
theorem q_impl_DeviceOK (R : Run EE) (L : Loops) (x0 : d13) : @Eq (Option ((Bool × Unit))) (bodyK EE R L 220 [⟨t2, x0⟩]) (
  cond (Go.Rf.eqI (((List.length x0.1) : Nat) : Int) (40 : Int))
  ((c_impl_areAll_string_ R x0.1 (Go.Rf.FnVal.mk (265 : Nat) (Go.Rf.FCaps.nil))).bind fun r0 =>
    cond r0.1
    (cond (decide ((((List.length x0.2.1) : Nat) : Int) ≤ (60 : Int)))
      ((c_impl_areAll_impl_Io_ R x0.2.1 (Go.Rf.FnVal.mk (267 : Nat) (Go.Rf.FCaps.nil))).bind fun r1 =>
        some (r1.1, ()))
      (some (false, ())))
    (some (false, ())))
  (some (false, ()))) := by kernel_rfl
/-- loop.example/g00548/impl.isSure -/
theorem q_impl_isSure (R : Run EE) (L : Loops) (x0 : d13) : @Eq (Option ((Bool × Unit))) (bodyK EE R L 138 [⟨t2, x0⟩]) (
  (c_impl_DeviceOK R x0).bind fun r0 =>
  cond r0.1
  (some ((Go.Rf.eqI (((List.length x0.2.1) : Nat) : Int) (0 : Int)), ()))
  (some (false, ()))) := by kernel_rfl
/-- loop.example/g00548/impl.StoreOK -/
theorem q_impl_StoreOK (R : Run EE) (L : Loops) (x0 : d14) : @Eq (Option ((Bool × Unit))) (bodyK EE R L 137 [⟨t3, x0⟩]) (
  cond (Go.Rf.eqI (((List.length x0.1) : Nat) : Int) (32 : Int))
  ((c_impl_RegisterOK R x0.2.1).bind fun r0 =>
    cond r0.1
    ((c_impl_isSure R x0.2.2.1).bind fun r1 =>
      cond r1.1
      (cond x0.2.2.2.1
        (some ((!x0.2.2.2.2.1), ()))
        (some ((!false), ())))
      (some (false, ())))
    (some (false, ())))
  (some (false, ()))) := by kernel_rfl
/-- loop.example/g00548/impl.isKey -/
theorem q_impl_isKey (R : Run EE) (L : Loops) (x0 : Int) : @Eq (Option ((Bool × Unit))) (bodyK EE R L 170 [⟨(.int .i64), x0⟩]) (
  (c_impl_within R x0 (1 : Int) (9999 : Int)).bind fun r0 =>
  some (r0.1, ())) := by kernel_rfl
/-- loop.example/g00548/impl.isValue -/
theorem q_impl_isValue (R : Run EE) (L : Loops) (x0 : Int) : @Eq (Option ((Bool × Unit))) (bodyK EE R L 209 [⟨(.int .i64), x0⟩]) (
  (c_impl_within R x0 (0 : Int) (999999 : Int)).bind fun r0 =>
  some (r0.1, ())) := by kernel_rfl
/-- loop.example/g00548/impl.MapOK -/
theorem q_impl_MapOK (R : Run EE) (L : Loops) (x0 : List ((Int × (Int × Unit)))) : @Eq (Option ((Bool × Unit))) (bodyK EE R L 139 [⟨(.sl t4), x0⟩]) (
  lp_impl_MapOK_0 R L x0 false x0 (((List.length x0) : Nat) : Int) (0 : Int)) := by kernel_rfl
theorem q_impl_MapOK_0 (R : Run EE) (L : Loops) (v0 : List ((Int × (Int × Unit)))) (v2 : Bool) (v5 : List ((Int × (Int × Unit)))) (v6 : Int) (v7 : Int) : @Eq (Option ((Bool × Unit))) (from_ EE R L 139 Go.Proofs.Tryz.f139 [1, 0, 1, 0, 0] (mk 41 [(0, .dat ⟨(.sl t4), v0, .sh⟩), (2, .dat ⟨.bool, v2, .sh⟩), (5, .dat ⟨(.sl t4), v5, .sh⟩), (6, .dat ⟨(.int .i64), v6, .sh⟩), (7, .dat ⟨(.int .i64), v7, .sh⟩)])) (
  cond (decide (v7 < v6))
  (cond (Go.Rf.nonneg v7)
    (cond (Nat.blt (Int.toNat v7) (List.length v5))
      ((c_impl_isKey R (List.getD v5 (Int.toNat v7) ((0 : Int), ((0 : Int), ()))).1).bind fun r0 =>
        cond (!r0.1)
        (some (false, ()))
        ((c_impl_isValue R (List.getD v5 (Int.toNat v7) ((0 : Int), ((0 : Int), ()))).2.1).bind fun r1 =>
          cond (!r1.1)
          (some (false, ()))
          (cond (decide ((0 : Int) < v7))
            (cond (Go.Rf.nonneg (Go.IntKind.wrap .i64 (v7 - (1 : Int))))
              (cond (Nat.blt (Int.toNat (Go.IntKind.wrap .i64 (v7 - (1 : Int)))) (List.length v0))
                (cond (decide ((List.getD v5 (Int.toNat v7) ((0 : Int), ((0 : Int), ()))).1 ≤ (List.getD v0 (Int.toNat (Go.IntKind.wrap .i64 (v7 - (1 : Int)))) ((0 : Int), ((0 : Int), ()))).1))
                  (some (false, ()))
                  (lp_impl_MapOK_1 R L v0 v2 v7 (List.getD v5 (Int.toNat v7) ((0 : Int), ((0 : Int), ()))) v5 v6 (Go.IntKind.wrap .i64 (v7 + (1 : Int)))))
                (none))
              (none))
            (lp_impl_MapOK_1 R L v0 v2 v7 (List.getD v5 (Int.toNat v7) ((0 : Int), ((0 : Int), ()))) v5 v6 (Go.IntKind.wrap .i64 (v7 + (1 : Int)))))))
      (none))
    (none))
  (some ((decide ((((List.length v0) : Nat) : Int) ≤ (11 : Int))), ()))) := by kernel_rfl
theorem q_impl_MapOK_1 (R : Run EE) (L : Loops) (v0 : List ((Int × (Int × Unit)))) (v2 : Bool) (v3 : Int) (v4 : (Int × (Int × Unit))) (v5 : List ((Int × (Int × Unit)))) (v6 : Int) (v7 : Int) : @Eq (Option ((Bool × Unit))) (from_ EE R L 139 Go.Proofs.Tryz.f139 [1, 0, 1, 0, 0] (mk 41 [(0, .dat ⟨(.sl t4), v0, .sh⟩), (2, .dat ⟨.bool, v2, .sh⟩), (3, .dat ⟨(.int .i64), v3, .sh⟩), (4, .dat ⟨(.ptr t4), v4, (.own .sh)⟩), (5, .dat ⟨(.sl t4), v5, .sh⟩), (6, .dat ⟨(.int .i64), v6, .sh⟩), (7, .dat ⟨(.int .i64), v7, .sh⟩)])) (
  cond (decide (v7 < v6))
  (cond (Go.Rf.nonneg v7)
    (cond (Nat.blt (Int.toNat v7) (List.length v5))
      ((c_impl_isKey R (List.getD v5 (Int.toNat v7) ((0 : Int), ((0 : Int), ()))).1).bind fun r0 =>
        cond (!r0.1)
        (some (false, ()))
        ((c_impl_isValue R (List.getD v5 (Int.toNat v7) ((0 : Int), ((0 : Int), ()))).2.1).bind fun r1 =>
          cond (!r1.1)
          (some (false, ()))
          (cond (decide ((0 : Int) < v7))
            (cond (Go.Rf.nonneg (Go.IntKind.wrap .i64 (v7 - (1 : Int))))
              (cond (Nat.blt (Int.toNat (Go.IntKind.wrap .i64 (v7 - (1 : Int)))) (List.length v0))
                (cond (decide ((List.getD v5 (Int.toNat v7) ((0 : Int), ((0 : Int), ()))).1 ≤ (List.getD v0 (Int.toNat (Go.IntKind.wrap .i64 (v7 - (1 : Int)))) ((0 : Int), ((0 : Int), ()))).1))
                  (some (false, ()))
                  (lp_impl_MapOK_1 R L v0 v2 v7 (List.getD v5 (Int.toNat v7) ((0 : Int), ((0 : Int), ()))) v5 v6 (Go.IntKind.wrap .i64 (v7 + (1 : Int)))))
                (none))
              (none))
            (lp_impl_MapOK_1 R L v0 v2 v7 (List.getD v5 (Int.toNat v7) ((0 : Int), ((0 : Int), ()))) v5 v6 (Go.IntKind.wrap .i64 (v7 + (1 : Int)))))))
      (none))
    (none))
  (some ((decide ((((List.length v0) : Nat) : Int) ≤ (11 : Int))), ()))) := by kernel_rfl
/-- loop.example/g00548/impl.areAll[[]loop.example/g00548/impl.Txn]$1 -/
theorem q_impl_areAll___impl_Txn__1 (R : Run EE) (L : Loops) (x0 : List ((List (d15) × Unit))) (x1 : FnVal) : @Eq (Option ((Bool × Unit))) (bodyK EE R L 222 [⟨(.sl (.pair (.sl t5) .unit)), x0⟩, ⟨(.ptr .fn), x1⟩]) (
  (callVB EE R x1 [⟨(.sl (.pair (.sl t5) .unit)), (x0 : List ((List (d15) × Unit)))⟩]).bind fun (r0 : Bool) =>
  some ((!r0), ())) := by kernel_rfl
/-- slices.IndexFunc[[][]loop.example/g00548/impl.Txn,[]loop.example/g00548/impl.Txn] -/
theorem q_slices_IndexFunc_____impl_Txn___impl_Txn_ (R : Run EE) (L : Loops) (x0 : List (List ((List (d15) × Unit)))) (x1 : FnVal) : @Eq (Option ((Int × Unit))) (bodyK EE R L 269 [⟨(.sl (.sl (.pair (.sl t5) .unit))), x0⟩, ⟨.fn, x1⟩]) (
  lp_slices_IndexFunc_____impl_Txn___impl_Txn__0 R L x0 x1 (0 : Int) (((List.length x0) : Nat) : Int) (0 : Int)) := by kernel_rfl
theorem q_slices_IndexFunc_____impl_Txn___impl_Txn__0 (R : Run EE) (L : Loops) (v0 : List (List ((List (d15) × Unit)))) (v1 : FnVal) (v4 : Int) (v7 : Int) (v8 : Int) : @Eq (Option ((Int × Unit))) (from_ EE R L 269 Go.Proofs.Tryz.f269 [1, 0, 1, 0, 0] (mk 19 [(0, .dat ⟨(.sl (.sl (.pair (.sl t5) .unit))), v0, .sh⟩), (1, .dat ⟨.fn, v1, .sh⟩), (4, .dat ⟨(.int .i64), v4, .sh⟩), (7, .dat ⟨(.int .i64), v7, .sh⟩), (8, .dat ⟨(.int .i64), v8, .sh⟩)])) (
  cond (decide (v8 < v7))
  (cond (Go.Rf.nonneg v8)
    (cond (Nat.blt (Int.toNat v8) (List.length v0))
      ((callVB EE R v1 [⟨(.sl (.pair (.sl t5) .unit)), ((List.getD v0 (Int.toNat v8) ([] : List ((List (d15) × Unit)))) : List ((List (d15) × Unit)))⟩]).bind fun (r0 : Bool) =>
        cond r0
        (some (v8, ()))
        (lp_slices_IndexFunc_____impl_Txn___impl_Txn__1 R L v0 v1 v4 v8 v7 (Go.IntKind.wrap .i64 (v8 + (1 : Int)))))
      (none))
    (none))
  (some ((-(1 : Int)), ()))) := by kernel_rfl
theorem q_slices_IndexFunc_____impl_Txn___impl_Txn__1 (R : Run EE) (L : Loops) (v0 : List (List ((List (d15) × Unit)))) (v1 : FnVal) (v4 : Int) (v5 : Int) (v7 : Int) (v8 : Int) : @Eq (Option ((Int × Unit))) (from_ EE R L 269 Go.Proofs.Tryz.f269 [1, 0, 1, 0, 0] (mk 19 [(0, .dat ⟨(.sl (.sl (.pair (.sl t5) .unit))), v0, .sh⟩), (1, .dat ⟨.fn, v1, .sh⟩), (4, .dat ⟨(.int .i64), v4, .sh⟩), (5, .dat ⟨(.int .i64), v5, .sh⟩), (7, .dat ⟨(.int .i64), v7, .sh⟩), (8, .dat ⟨(.int .i64), v8, .sh⟩)])) (
  cond (decide (v8 < v7))
  (cond (Go.Rf.nonneg v8)
    (cond (Nat.blt (Int.toNat v8) (List.length v0))
      ((callVB EE R v1 [⟨(.sl (.pair (.sl t5) .unit)), ((List.getD v0 (Int.toNat v8) ([] : List ((List (d15) × Unit)))) : List ((List (d15) × Unit)))⟩]).bind fun (r0 : Bool) =>
        cond r0
        (some (v8, ()))
        (lp_slices_IndexFunc_____impl_Txn___impl_Txn__1 R L v0 v1 v4 v8 v7 (Go.IntKind.wrap .i64 (v8 + (1 : Int)))))
      (none))
    (none))
  (some ((-(1 : Int)), ()))) := by kernel_rfl
/-- slices.ContainsFunc[[][]loop.example/g00548/impl.Txn,[]loop.example/g00548/impl.Txn] -/
theorem q_slices_ContainsFunc_____impl_Txn___impl_Txn_ (R : Run EE) (L : Loops) (x0 : List (List ((List (d15) × Unit)))) (x1 : FnVal) : @Eq (Option ((Bool × Unit))) (bodyK EE R L 221 [⟨(.sl (.sl (.pair (.sl t5) .unit))), x0⟩, ⟨.fn, x1⟩]) (
  (c_slices_IndexFunc_____impl_Txn___impl_Txn_ R x0 x1).bind fun r0 =>
  some ((decide ((0 : Int) ≤ r0.1)), ())) := by kernel_rfl
/-- loop.example/g00548/impl.areAll[[]loop.example/g00548/impl.Txn] -/
theorem q_impl_areAll___impl_Txn_ (R : Run EE) (L : Loops) (x0 : List (List ((List (d15) × Unit)))) (x1 : FnVal) : @Eq (Option ((Bool × Unit))) (bodyK EE R L 141 [⟨(.sl (.sl (.pair (.sl t5) .unit))), x0⟩, ⟨.fn, x1⟩]) (
  (c_slices_ContainsFunc_____impl_Txn___impl_Txn_ R x0 (Go.Rf.FnVal.mk (222 : Nat) (Go.Rf.FCaps.fn x1 (Go.Rf.FCaps.nil)))).bind fun r0 =>
  some ((!r0.1), ())) := by kernel_rfl
/-- loop.example/g00548/impl.areAll[loop.example/g00548/impl.Txn]$1 -/
theorem q_impl_areAll_impl_Txn__1 (R : Run EE) (L : Loops) (x0 : (List (d15) × Unit)) (x1 : FnVal) : @Eq (Option ((Bool × Unit))) (bodyK EE R L 249 [⟨(.pair (.sl t5) .unit), x0⟩, ⟨(.ptr .fn), x1⟩]) (
  (callVB EE R x1 [⟨(.pair (.sl t5) .unit), (x0 : (List (d15) × Unit))⟩]).bind fun (r0 : Bool) =>
  some ((!r0), ())) := by kernel_rfl
/-- slices.IndexFunc[[]loop.example/g00548/impl.Txn,loop.example/g00548/impl.Txn] -/
theorem q_slices_IndexFunc___impl_Txn_impl_Txn_ (R : Run EE) (L : Loops) (x0 : List ((List (d15) × Unit))) (x1 : FnVal) : @Eq (Option ((Int × Unit))) (bodyK EE R L 285 [⟨(.sl (.pair (.sl t5) .unit)), x0⟩, ⟨.fn, x1⟩]) (
  lp_slices_IndexFunc___impl_Txn_impl_Txn__0 R L x0 x1 (0 : Int) (((List.length x0) : Nat) : Int) (0 : Int)) := by kernel_rfl
theorem q_slices_IndexFunc___impl_Txn_impl_Txn__0 (R : Run EE) (L : Loops) (v0 : List ((List (d15) × Unit))) (v1 : FnVal) (v4 : Int) (v7 : Int) (v8 : Int) : @Eq (Option ((Int × Unit))) (from_ EE R L 285 Go.Proofs.Tryz.f285 [1, 0, 1, 0, 0] (mk 19 [(0, .dat ⟨(.sl (.pair (.sl t5) .unit)), v0, .sh⟩), (1, .dat ⟨.fn, v1, .sh⟩), (4, .dat ⟨(.int .i64), v4, .sh⟩), (7, .dat ⟨(.int .i64), v7, .sh⟩), (8, .dat ⟨(.int .i64), v8, .sh⟩)])) (
  cond (decide (v8 < v7))
  (cond (Go.Rf.nonneg v8)
    (cond (Nat.blt (Int.toNat v8) (List.length v0))
      ((callVB EE R v1 [⟨(.pair (.sl t5) .unit), ((List.getD v0 (Int.toNat v8) (([] : List (d15)), ())) : (List (d15) × Unit))⟩]).bind fun (r0 : Bool) =>
        cond r0
        (some (v8, ()))
        (lp_slices_IndexFunc___impl_Txn_impl_Txn__1 R L v0 v1 v4 v8 v7 (Go.IntKind.wrap .i64 (v8 + (1 : Int)))))
      (none))
    (none))
  (some ((-(1 : Int)), ()))) := by kernel_rfl
theorem q_slices_IndexFunc___impl_Txn_impl_Txn__1 (R : Run EE) (L : Loops) (v0 : List ((List (d15) × Unit))) (v1 : FnVal) (v4 : Int) (v5 : Int) (v7 : Int) (v8 : Int) : @Eq (Option ((Int × Unit))) (from_ EE R L 285 Go.Proofs.Tryz.f285 [1, 0, 1, 0, 0] (mk 19 [(0, .dat ⟨(.sl (.pair (.sl t5) .unit)), v0, .sh⟩), (1, .dat ⟨.fn, v1, .sh⟩), (4, .dat ⟨(.int .i64), v4, .sh⟩), (5, .dat ⟨(.int .i64), v5, .sh⟩), (7, .dat ⟨(.int .i64), v7, .sh⟩), (8, .dat ⟨(.int .i64), v8, .sh⟩)])) (
  cond (decide (v8 < v7))
  (cond (Go.Rf.nonneg v8)
    (cond (Nat.blt (Int.toNat v8) (List.length v0))
      ((callVB EE R v1 [⟨(.pair (.sl t5) .unit), ((List.getD v0 (Int.toNat v8) (([] : List (d15)), ())) : (List (d15) × Unit))⟩]).bind fun (r0 : Bool) =>
        cond r0
        (some (v8, ()))
        (lp_slices_IndexFunc___impl_Txn_impl_Txn__1 R L v0 v1 v4 v8 v7 (Go.IntKind.wrap .i64 (v8 + (1 : Int)))))
      (none))
    (none))
  (some ((-(1 : Int)), ()))) := by kernel_rfl
/-- slices.ContainsFunc[[]loop.example/g00548/impl.Txn,loop.example/g00548/impl.Txn] -/
theorem q_slices_ContainsFunc___impl_Txn_impl_Txn_ (R : Run EE) (L : Loops) (x0 : List ((List (d15) × Unit))) (x1 : FnVal) : @Eq (Option ((Bool × Unit))) (bodyK EE R L 248 [⟨(.sl (.pair (.sl t5) .unit)), x0⟩, ⟨.fn, x1⟩]) (
  (c_slices_IndexFunc___impl_Txn_impl_Txn_ R x0 x1).bind fun r0 =>
  some ((decide ((0 : Int) ≤ r0.1)), ())) := by kernel_rfl
/-- loop.example/g00548/impl.areAll[loop.example/g00548/impl.Txn] -/
theorem q_impl_areAll_impl_Txn_ (R : Run EE) (L : Loops) (x0 : List ((List (d15) × Unit))) (x1 : FnVal) : @Eq (Option ((Bool × Unit))) (bodyK EE R L 187 [⟨(.sl (.pair (.sl t5) .unit)), x0⟩, ⟨.fn, x1⟩]) (
  (c_slices_ContainsFunc___impl_Txn_impl_Txn_ R x0 (Go.Rf.FnVal.mk (249 : Nat) (Go.Rf.FCaps.fn x1 (Go.Rf.FCaps.nil)))).bind fun r0 =>
  some ((!r0.1), ())) := by kernel_rfl
/-- loop.example/g00548/impl.areAll[loop.example/g00548/impl.Op]$1 -/
theorem q_impl_areAll_impl_Op__1 (R : Run EE) (L : Loops) (x0 : d15) (x1 : FnVal) : @Eq (Option ((Bool × Unit))) (bodyK EE R L 238 [⟨t5, x0⟩, ⟨(.ptr .fn), x1⟩]) (
  (callVB EE R x1 [⟨t5, (x0 : d15)⟩]).bind fun (r0 : Bool) =>
  some ((!r0), ())) := by kernel_rfl
/-- slices.IndexFunc[[]loop.example/g00548/impl.Op,loop.example/g00548/impl.Op] -/
theorem q_slices_IndexFunc___impl_Op_impl_Op_ (R : Run EE) (L : Loops) (x0 : List (d15)) (x1 : FnVal) : @Eq (Option ((Int × Unit))) (bodyK EE R L 276 [⟨(.sl t5), x0⟩, ⟨.fn, x1⟩]) (
  lp_slices_IndexFunc___impl_Op_impl_Op__0 R L x0 x1 (0 : Int) (((List.length x0) : Nat) : Int) (0 : Int)) := by kernel_rfl
theorem q_slices_IndexFunc___impl_Op_impl_Op__0 (R : Run EE) (L : Loops) (v0 : List (d15)) (v1 : FnVal) (v4 : Int) (v7 : Int) (v8 : Int) : @Eq (Option ((Int × Unit))) (from_ EE R L 276 Go.Proofs.Tryz.f276 [1, 0, 1, 0, 0] (mk 19 [(0, .dat ⟨(.sl t5), v0, .sh⟩), (1, .dat ⟨.fn, v1, .sh⟩), (4, .dat ⟨(.int .i64), v4, .sh⟩), (7, .dat ⟨(.int .i64), v7, .sh⟩), (8, .dat ⟨(.int .i64), v8, .sh⟩)])) (
  cond (decide (v8 < v7))
  (cond (Go.Rf.nonneg v8)
    (cond (Nat.blt (Int.toNat v8) (List.length v0))
      ((callVB EE R v1 [⟨t5, ((List.getD v0 (Int.toNat v8) ((0 : Int), ((0 : Int), ((0 : Int), ())))) : d15)⟩]).bind fun (r0 : Bool) =>
        cond r0
        (some (v8, ()))
        (lp_slices_IndexFunc___impl_Op_impl_Op__1 R L v0 v1 v4 v8 v7 (Go.IntKind.wrap .i64 (v8 + (1 : Int)))))
      (none))
    (none))
  (some ((-(1 : Int)), ()))) := by kernel_rfl
theorem q_slices_IndexFunc___impl_Op_impl_Op__1 (R : Run EE) (L : Loops) (v0 : List (d15)) (v1 : FnVal) (v4 : Int) (v5 : Int) (v7 : Int) (v8 : Int) : @Eq (Option ((Int × Unit))) (from_ EE R L 276 Go.Proofs.Tryz.f276 [1, 0, 1, 0, 0] (mk 19 [(0, .dat ⟨(.sl t5), v0, .sh⟩), (1, .dat ⟨.fn, v1, .sh⟩), (4, .dat ⟨(.int .i64), v4, .sh⟩), (5, .dat ⟨(.int .i64), v5, .sh⟩), (7, .dat ⟨(.int .i64), v7, .sh⟩), (8, .dat ⟨(.int .i64), v8, .sh⟩)])) (
  cond (decide (v8 < v7))
  (cond (Go.Rf.nonneg v8)
    (cond (Nat.blt (Int.toNat v8) (List.length v0))
      ((callVB EE R v1 [⟨t5, ((List.getD v0 (Int.toNat v8) ((0 : Int), ((0 : Int), ((0 : Int), ())))) : d15)⟩]).bind fun (r0 : Bool) =>
        cond r0
        (some (v8, ()))
        (lp_slices_IndexFunc___impl_Op_impl_Op__1 R L v0 v1 v4 v8 v7 (Go.IntKind.wrap .i64 (v8 + (1 : Int)))))
      (none))
    (none))
  (some ((-(1 : Int)), ()))) := by kernel_rfl
/-- slices.ContainsFunc[[]loop.example/g00548/impl.Op,loop.example/g00548/impl.Op] -/
theorem q_slices_ContainsFunc___impl_Op_impl_Op_ (R : Run EE) (L : Loops) (x0 : List (d15)) (x1 : FnVal) : @Eq (Option ((Bool × Unit))) (bodyK EE R L 237 [⟨(.sl t5), x0⟩, ⟨.fn, x1⟩]) (
  (c_slices_IndexFunc___impl_Op_impl_Op_ R x0 x1).bind fun r0 =>
  some ((decide ((0 : Int) ≤ r0.1)), ())) := by kernel_rfl
/-- loop.example/g00548/impl.areAll[loop.example/g00548/impl.Op] -/
theorem q_impl_areAll_impl_Op_ (R : Run EE) (L : Loops) (x0 : List (d15)) (x1 : FnVal) : @Eq (Option ((Bool × Unit))) (bodyK EE R L 173 [⟨(.sl t5), x0⟩, ⟨.fn, x1⟩]) (
  (c_slices_ContainsFunc___impl_Op_impl_Op_ R x0 (Go.Rf.FnVal.mk (238 : Nat) (Go.Rf.FCaps.fn x1 (Go.Rf.FCaps.nil)))).bind fun r0 =>
  some ((!r0.1), ())) := by kernel_rfl
/-- loop.example/g00548/impl.isBare -/
theorem q_impl_isBare (R : Run EE) (L : Loops) (x0 : Int) : @Eq (Option ((Bool × Unit))) (bodyK EE R L 239 [⟨(.int .i64), x0⟩]) (
  cond (Go.Rf.eqI x0 (1 : Int))
  (some (true, ()))
  (some ((Go.Rf.eqI x0 (3 : Int)), ()))) := by kernel_rfl
/-- loop.example/g00548/impl.OpOK -/
theorem q_impl_OpOK (R : Run EE) (L : Loops) (x0 : d15) : @Eq (Option ((Bool × Unit))) (bodyK EE R L 174 [⟨t5, x0⟩]) (
  (c_impl_within R x0.1 (1 : Int) (6 : Int)).bind fun r0 =>
  cond (!r0.1)
  (some (false, ()))
  ((c_impl_isKey R x0.2.1).bind fun r1 =>
    cond (!r1.1)
    (some (false, ()))
    ((c_impl_isBare R x0.1).bind fun r2 =>
      cond r2.1
      (some ((Go.Rf.eqI x0.2.2.1 (0 : Int)), ()))
      (cond (Go.Rf.eqI x0.1 (6 : Int))
        ((c_impl_within R x0.2.2.1 (1 : Int) (4 : Int)).bind fun r3 =>
          some (r3.1, ()))
        ((c_impl_isValue R x0.2.2.1).bind fun r3 =>
          some (r3.1, ())))))) := by kernel_rfl
/-- loop.example/g00548/impl.isTxn -/
theorem q_impl_isTxn (R : Run EE) (L : Loops) (x0 : (List (d15) × Unit)) : @Eq (Option ((Bool × Unit))) (bodyK EE R L 93 [⟨(.pair (.sl t5) .unit), x0⟩]) (
  (c_impl_within R (((List.length x0.1) : Nat) : Int) (1 : Int) (4 : Int)).bind fun r0 =>
  cond r0.1
  ((c_impl_areAll_impl_Op_ R x0.1 (Go.Rf.FnVal.mk (174 : Nat) (Go.Rf.FCaps.nil))).bind fun r1 =>
    some (r1.1, ()))
  (some (false, ()))) := by kernel_rfl
/-- loop.example/g00548/impl.BatchOK -/
theorem q_impl_BatchOK (R : Run EE) (L : Loops) (x0 : List ((List (d15) × Unit))) : @Eq (Option ((Bool × Unit))) (bodyK EE R L 104 [⟨(.sl (.pair (.sl t5) .unit)), x0⟩]) (
  (c_impl_within R (((List.length x0) : Nat) : Int) (1 : Int) (2 : Int)).bind fun r0 =>
  cond r0.1
  ((c_impl_areAll_impl_Txn_ R x0 (Go.Rf.FnVal.mk (93 : Nat) (Go.Rf.FCaps.nil))).bind fun r1 =>
    some (r1.1, ()))
  (some (false, ()))) := by kernel_rfl
/-- loop.example/g00548/impl.areAll[loop.example/g00548/impl.Result]$1 -/
theorem q_impl_areAll_impl_Result__1 (R : Run EE) (L : Loops) (x0 : d16) (x1 : FnVal) : @Eq (Option ((Bool × Unit))) (bodyK EE R L 254 [⟨t6, x0⟩, ⟨(.ptr .fn), x1⟩]) (
  (callVB EE R x1 [⟨t6, (x0 : d16)⟩]).bind fun (r0 : Bool) =>
  some ((!r0), ())) := by kernel_rfl
/-- slices.IndexFunc[[]loop.example/g00548/impl.Result,loop.example/g00548/impl.Result] -/
theorem q_slices_IndexFunc___impl_Result_impl_Result_ (R : Run EE) (L : Loops) (x0 : List (d16)) (x1 : FnVal) : @Eq (Option ((Int × Unit))) (bodyK EE R L 288 [⟨(.sl t6), x0⟩, ⟨.fn, x1⟩]) (
  lp_slices_IndexFunc___impl_Result_impl_Result__0 R L x0 x1 (0 : Int) (((List.length x0) : Nat) : Int) (0 : Int)) := by kernel_rfl
theorem q_slices_IndexFunc___impl_Result_impl_Result__0 (R : Run EE) (L : Loops) (v0 : List (d16)) (v1 : FnVal) (v4 : Int) (v7 : Int) (v8 : Int) : @Eq (Option ((Int × Unit))) (from_ EE R L 288 Go.Proofs.Tryz.f288 [1, 0, 1, 0, 0] (mk 19 [(0, .dat ⟨(.sl t6), v0, .sh⟩), (1, .dat ⟨.fn, v1, .sh⟩), (4, .dat ⟨(.int .i64), v4, .sh⟩), (7, .dat ⟨(.int .i64), v7, .sh⟩), (8, .dat ⟨(.int .i64), v8, .sh⟩)])) (
  cond (decide (v8 < v7))
  (cond (Go.Rf.nonneg v8)
    (cond (Nat.blt (Int.toNat v8) (List.length v0))
      ((callVB EE R v1 [⟨t6, ((List.getD v0 (Int.toNat v8) ((0 : Int), (([] : List (Int)), ()))) : d16)⟩]).bind fun (r0 : Bool) =>
        cond r0
        (some (v8, ()))
        (lp_slices_IndexFunc___impl_Result_impl_Result__1 R L v0 v1 v4 v8 v7 (Go.IntKind.wrap .i64 (v8 + (1 : Int)))))
      (none))
    (none))
  (some ((-(1 : Int)), ()))) := by kernel_rfl
theorem q_slices_IndexFunc___impl_Result_impl_Result__1 (R : Run EE) (L : Loops) (v0 : List (d16)) (v1 : FnVal) (v4 : Int) (v5 : Int) (v7 : Int) (v8 : Int) : @Eq (Option ((Int × Unit))) (from_ EE R L 288 Go.Proofs.Tryz.f288 [1, 0, 1, 0, 0] (mk 19 [(0, .dat ⟨(.sl t6), v0, .sh⟩), (1, .dat ⟨.fn, v1, .sh⟩), (4, .dat ⟨(.int .i64), v4, .sh⟩), (5, .dat ⟨(.int .i64), v5, .sh⟩), (7, .dat ⟨(.int .i64), v7, .sh⟩), (8, .dat ⟨(.int .i64), v8, .sh⟩)])) (
  cond (decide (v8 < v7))
  (cond (Go.Rf.nonneg v8)
    (cond (Nat.blt (Int.toNat v8) (List.length v0))
      ((callVB EE R v1 [⟨t6, ((List.getD v0 (Int.toNat v8) ((0 : Int), (([] : List (Int)), ()))) : d16)⟩]).bind fun (r0 : Bool) =>
        cond r0
        (some (v8, ()))
        (lp_slices_IndexFunc___impl_Result_impl_Result__1 R L v0 v1 v4 v8 v7 (Go.IntKind.wrap .i64 (v8 + (1 : Int)))))
      (none))
    (none))
  (some ((-(1 : Int)), ()))) := by kernel_rfl
/-- slices.ContainsFunc[[]loop.example/g00548/impl.Result,loop.example/g00548/impl.Result] -/
theorem q_slices_ContainsFunc___impl_Result_impl_Result_ (R : Run EE) (L : Loops) (x0 : List (d16)) (x1 : FnVal) : @Eq (Option ((Bool × Unit))) (bodyK EE R L 253 [⟨(.sl t6), x0⟩, ⟨.fn, x1⟩]) (
  (c_slices_IndexFunc___impl_Result_impl_Result_ R x0 x1).bind fun r0 =>
  some ((decide ((0 : Int) ≤ r0.1)), ())) := by kernel_rfl
/-- loop.example/g00548/impl.areAll[loop.example/g00548/impl.Result] -/
theorem q_impl_areAll_impl_Result_ (R : Run EE) (L : Loops) (x0 : List (d16)) (x1 : FnVal) : @Eq (Option ((Bool × Unit))) (bodyK EE R L 193 [⟨(.sl t6), x0⟩, ⟨.fn, x1⟩]) (
  (c_slices_ContainsFunc___impl_Result_impl_Result_ R x0 (Go.Rf.FnVal.mk (254 : Nat) (Go.Rf.FCaps.fn x1 (Go.Rf.FCaps.nil)))).bind fun r0 =>
  some ((!r0.1), ())) := by kernel_rfl
/-- loop.example/g00548/impl.isCode -/
theorem q_impl_isCode (R : Run EE) (L : Loops) (x0 : Int) : @Eq (Option ((Bool × Unit))) (bodyK EE R L 255 [⟨(.int .i64), x0⟩]) (
  (c_impl_within R x0 (0 : Int) (19 : Int)).bind fun r0 =>
  some (r0.1, ())) := by kernel_rfl
/-- loop.example/g00548/impl.areAll[int]$1 -/
theorem q_impl_areAll_int__1 (R : Run EE) (L : Loops) (x0 : Int) (x1 : FnVal) : @Eq (Option ((Bool × Unit))) (bodyK EE R L 233 [⟨(.int .i64), x0⟩, ⟨(.ptr .fn), x1⟩]) (
  (callVB EE R x1 [⟨(.int .i64), (x0 : Int)⟩]).bind fun (r0 : Bool) =>
  some ((!r0), ())) := by kernel_rfl
/-- slices.IndexFunc[[]int,int] -/
theorem q_slices_IndexFunc___int_int_ (R : Run EE) (L : Loops) (x0 : List (Int)) (x1 : FnVal) : @Eq (Option ((Int × Unit))) (bodyK EE R L 271 [⟨(.sl (.int .i64)), x0⟩, ⟨.fn, x1⟩]) (
  lp_slices_IndexFunc___int_int__0 R L x0 x1 (0 : Int) (((List.length x0) : Nat) : Int) (0 : Int)) := by kernel_rfl
theorem q_slices_IndexFunc___int_int__0 (R : Run EE) (L : Loops) (v0 : List (Int)) (v1 : FnVal) (v4 : Int) (v7 : Int) (v8 : Int) : @Eq (Option ((Int × Unit))) (from_ EE R L 271 Go.Proofs.Tryz.f271 [1, 0, 1, 0, 0] (mk 19 [(0, .dat ⟨(.sl (.int .i64)), v0, .sh⟩), (1, .dat ⟨.fn, v1, .sh⟩), (4, .dat ⟨(.int .i64), v4, .sh⟩), (7, .dat ⟨(.int .i64), v7, .sh⟩), (8, .dat ⟨(.int .i64), v8, .sh⟩)])) (
  cond (decide (v8 < v7))
  (cond (Go.Rf.nonneg v8)
    (cond (Nat.blt (Int.toNat v8) (List.length v0))
      ((callVB EE R v1 [⟨(.int .i64), ((List.getD v0 (Int.toNat v8) (0 : Int)) : Int)⟩]).bind fun (r0 : Bool) =>
        cond r0
        (some (v8, ()))
        (lp_slices_IndexFunc___int_int__1 R L v0 v1 v4 v8 v7 (Go.IntKind.wrap .i64 (v8 + (1 : Int)))))
      (none))
    (none))
  (some ((-(1 : Int)), ()))) := by kernel_rfl
theorem q_slices_IndexFunc___int_int__1 (R : Run EE) (L : Loops) (v0 : List (Int)) (v1 : FnVal) (v4 : Int) (v5 : Int) (v7 : Int) (v8 : Int) : @Eq (Option ((Int × Unit))) (from_ EE R L 271 Go.Proofs.Tryz.f271 [1, 0, 1, 0, 0] (mk 19 [(0, .dat ⟨(.sl (.int .i64)), v0, .sh⟩), (1, .dat ⟨.fn, v1, .sh⟩), (4, .dat ⟨(.int .i64), v4, .sh⟩), (5, .dat ⟨(.int .i64), v5, .sh⟩), (7, .dat ⟨(.int .i64), v7, .sh⟩), (8, .dat ⟨(.int .i64), v8, .sh⟩)])) (
  cond (decide (v8 < v7))
  (cond (Go.Rf.nonneg v8)
    (cond (Nat.blt (Int.toNat v8) (List.length v0))
      ((callVB EE R v1 [⟨(.int .i64), ((List.getD v0 (Int.toNat v8) (0 : Int)) : Int)⟩]).bind fun (r0 : Bool) =>
        cond r0
        (some (v8, ()))
        (lp_slices_IndexFunc___int_int__1 R L v0 v1 v4 v8 v7 (Go.IntKind.wrap .i64 (v8 + (1 : Int)))))
      (none))
    (none))
  (some ((-(1 : Int)), ()))) := by kernel_rfl
/-- slices.ContainsFunc[[]int,int] -/
theorem q_slices_ContainsFunc___int_int_ (R : Run EE) (L : Loops) (x0 : List (Int)) (x1 : FnVal) : @Eq (Option ((Bool × Unit))) (bodyK EE R L 232 [⟨(.sl (.int .i64)), x0⟩, ⟨.fn, x1⟩]) (
  (c_slices_IndexFunc___int_int_ R x0 x1).bind fun r0 =>
  some ((decide ((0 : Int) ≤ r0.1)), ())) := by kernel_rfl
/-- loop.example/g00548/impl.areAll[int] -/
theorem q_impl_areAll_int_ (R : Run EE) (L : Loops) (x0 : List (Int)) (x1 : FnVal) : @Eq (Option ((Bool × Unit))) (bodyK EE R L 168 [⟨(.sl (.int .i64)), x0⟩, ⟨.fn, x1⟩]) (
  (c_slices_ContainsFunc___int_int_ R x0 (Go.Rf.FnVal.mk (233 : Nat) (Go.Rf.FCaps.fn x1 (Go.Rf.FCaps.nil)))).bind fun r0 =>
  some ((!r0.1), ())) := by kernel_rfl
/-- loop.example/g00548/impl.isResult -/
theorem q_impl_isResult (R : Run EE) (L : Loops) (x0 : d16) : @Eq (Option ((Bool × Unit))) (bodyK EE R L 194 [⟨t6, x0⟩]) (
  (c_impl_isCode R x0.1).bind fun r0 =>
  cond r0.1
  (cond (decide ((((List.length x0.2.1) : Nat) : Int) ≤ (32 : Int)))
    ((c_impl_areAll_int_ R x0.2.1 (Go.Rf.FnVal.mk (209 : Nat) (Go.Rf.FCaps.nil))).bind fun r1 =>
      cond r1.1
      (cond (Go.Rf.eqI x0.1 (0 : Int))
        (some (true, ()))
        (some ((Go.Rf.eqI (((List.length x0.2.1) : Nat) : Int) (0 : Int)), ())))
      (some (false, ())))
    (some (false, ())))
  (some (false, ()))) := by kernel_rfl
/-- loop.example/g00548/impl.areResults -/
theorem q_impl_areResults (R : Run EE) (L : Loops) (x0 : List (d16)) : @Eq (Option ((Bool × Unit))) (bodyK EE R L 109 [⟨(.sl t6), x0⟩]) (
  cond (decide ((((List.length x0) : Nat) : Int) ≤ (2 : Int)))
  ((c_impl_areAll_impl_Result_ R x0 (Go.Rf.FnVal.mk (194 : Nat) (Go.Rf.FCaps.nil))).bind fun r0 =>
    some (r0.1, ()))
  (some (false, ()))) := by kernel_rfl
/-- loop.example/g00548/impl.WorldOK -/
theorem q_impl_WorldOK (R : Run EE) (L : Loops) (x0 : d17) : @Eq (Option ((Bool × Unit))) (bodyK EE R L 70 [⟨t7, x0⟩]) (
  (c_impl_StoreOK R x0.1).bind fun r0 =>
  cond r0.1
  ((c_impl_isSure R x0.2.1).bind fun r1 =>
    cond r1.1
    ((c_impl_MapOK R x0.2.2.1).bind fun r2 =>
      cond r2.1
      ((c_impl_Register_waiting R x0.1.2.1).bind fun r3 =>
        cond (Go.Rf.eqI (((List.length x0.2.2.2.1) : Nat) : Int) r3.1)
        ((c_impl_areAll___impl_Txn_ R x0.2.2.2.1 (Go.Rf.FnVal.mk (104 : Nat) (Go.Rf.FCaps.nil))).bind fun r4 =>
          cond r4.1
          ((c_impl_areResults R x0.2.2.2.2.1).bind fun r5 =>
            some (r5.1, ()))
          (some (false, ())))
        (some (false, ())))
      (some (false, ())))
    (some (false, ())))
  (some (false, ()))) := by kernel_rfl
/-- slices.Equal[[]string,string] -/
theorem q_slices_Equal___string_string_ (R : Run EE) (L : Loops) (x0 : List (List UInt8)) (x1 : List (List UInt8)) : @Eq (Option ((Bool × Unit))) (bodyK EE R L 142 [⟨(.sl .str), x0⟩, ⟨(.sl .str), x1⟩]) (
  cond (!(Go.Rf.eqI (((List.length x0) : Nat) : Int) (((List.length x1) : Nat) : Int)))
  (some (false, ()))
  (lp_slices_Equal___string_string__0 R L x0 x1 false (((List.length x0) : Nat) : Int) (0 : Int))) := by kernel_rfl
theorem q_slices_Equal___string_string__0 (R : Run EE) (L : Loops) (v0 : List (List UInt8)) (v1 : List (List UInt8)) (v4 : Bool) (v12 : Int) (v13 : Int) : @Eq (Option ((Bool × Unit))) (from_ EE R L 142 Go.Proofs.Tryz.f142 [1, 1, 0, 1, 0, 0] (mk 26 [(0, .dat ⟨(.sl .str), v0, .sh⟩), (1, .dat ⟨(.sl .str), v1, .sh⟩), (4, .dat ⟨.bool, v4, .sh⟩), (12, .dat ⟨(.int .i64), v12, .sh⟩), (13, .dat ⟨(.int .i64), v13, .sh⟩)])) (
  cond (decide (v13 < v12))
  (cond (Go.Rf.nonneg v13)
    (cond (Nat.blt (Int.toNat v13) (List.length v0))
      (cond (Go.Rf.nonneg v13)
        (cond (Nat.blt (Int.toNat v13) (List.length v1))
          (cond (!(Go.Rf.eqS (List.getD v0 (Int.toNat v13) ([] : List (UInt8))) (List.getD v1 (Int.toNat v13) ([] : List (UInt8)))))
            (some (false, ()))
            (lp_slices_Equal___string_string__1 R L v0 v1 v4 v13 v12 (Go.IntKind.wrap .i64 (v13 + (1 : Int)))))
          (none))
        (none))
      (none))
    (none))
  (some (true, ()))) := by kernel_rfl
theorem q_slices_Equal___string_string__1 (R : Run EE) (L : Loops) (v0 : List (List UInt8)) (v1 : List (List UInt8)) (v4 : Bool) (v5 : Int) (v12 : Int) (v13 : Int) : @Eq (Option ((Bool × Unit))) (from_ EE R L 142 Go.Proofs.Tryz.f142 [1, 1, 0, 1, 0, 0] (mk 26 [(0, .dat ⟨(.sl .str), v0, .sh⟩), (1, .dat ⟨(.sl .str), v1, .sh⟩), (4, .dat ⟨.bool, v4, .sh⟩), (5, .dat ⟨(.int .i64), v5, .sh⟩), (12, .dat ⟨(.int .i64), v12, .sh⟩), (13, .dat ⟨(.int .i64), v13, .sh⟩)])) (
  cond (decide (v13 < v12))
  (cond (Go.Rf.nonneg v13)
    (cond (Nat.blt (Int.toNat v13) (List.length v0))
      (cond (Go.Rf.nonneg v13)
        (cond (Nat.blt (Int.toNat v13) (List.length v1))
          (cond (!(Go.Rf.eqS (List.getD v0 (Int.toNat v13) ([] : List (UInt8))) (List.getD v1 (Int.toNat v13) ([] : List (UInt8)))))
            (some (false, ()))
            (lp_slices_Equal___string_string__1 R L v0 v1 v4 v13 v12 (Go.IntKind.wrap .i64 (v13 + (1 : Int)))))
          (none))
        (none))
      (none))
    (none))
  (some (true, ()))) := by kernel_rfl
/-- slices.Equal[[]loop.example/g00548/impl.Io,loop.example/g00548/impl.Io] -/
theorem q_slices_Equal___impl_Io_impl_Io_ (R : Run EE) (L : Loops) (x0 : List (d12)) (x1 : List (d12)) : @Eq (Option ((Bool × Unit))) (bodyK EE R L 143 [⟨(.sl t1), x0⟩, ⟨(.sl t1), x1⟩]) (
  cond (!(Go.Rf.eqI (((List.length x0) : Nat) : Int) (((List.length x1) : Nat) : Int)))
  (some (false, ()))
  (lp_slices_Equal___impl_Io_impl_Io__0 R L x0 x1 false (((List.length x0) : Nat) : Int) (0 : Int))) := by kernel_rfl
theorem q_slices_Equal___impl_Io_impl_Io__0 (R : Run EE) (L : Loops) (v0 : List (d12)) (v1 : List (d12)) (v4 : Bool) (v12 : Int) (v13 : Int) : @Eq (Option ((Bool × Unit))) (from_ EE R L 143 Go.Proofs.Tryz.f143 [1, 1, 0, 1, 0, 0] (mk 26 [(0, .dat ⟨(.sl t1), v0, .sh⟩), (1, .dat ⟨(.sl t1), v1, .sh⟩), (4, .dat ⟨.bool, v4, .sh⟩), (12, .dat ⟨(.int .i64), v12, .sh⟩), (13, .dat ⟨(.int .i64), v13, .sh⟩)])) (
  cond (decide (v13 < v12))
  (cond (Go.Rf.nonneg v13)
    (cond (Nat.blt (Int.toNat v13) (List.length v0))
      (cond (Go.Rf.nonneg v13)
        (cond (Nat.blt (Int.toNat v13) (List.length v1))
          (cond (!(Bool.and (Go.Rf.eqI (List.getD v0 (Int.toNat v13) ((0 : Int), (([] : List (UInt8)), ()))).1 (List.getD v1 (Int.toNat v13) ((0 : Int), (([] : List (UInt8)), ()))).1) (Bool.and (Go.Rf.eqS (List.getD v0 (Int.toNat v13) ((0 : Int), (([] : List (UInt8)), ()))).2.1 (List.getD v1 (Int.toNat v13) ((0 : Int), (([] : List (UInt8)), ()))).2.1) true)))
            (some (false, ()))
            (lp_slices_Equal___impl_Io_impl_Io__1 R L v0 v1 v4 v13 v12 (Go.IntKind.wrap .i64 (v13 + (1 : Int)))))
          (none))
        (none))
      (none))
    (none))
  (some (true, ()))) := by kernel_rfl
theorem q_slices_Equal___impl_Io_impl_Io__1 (R : Run EE) (L : Loops) (v0 : List (d12)) (v1 : List (d12)) (v4 : Bool) (v5 : Int) (v12 : Int) (v13 : Int) : @Eq (Option ((Bool × Unit))) (from_ EE R L 143 Go.Proofs.Tryz.f143 [1, 1, 0, 1, 0, 0] (mk 26 [(0, .dat ⟨(.sl t1), v0, .sh⟩), (1, .dat ⟨(.sl t1), v1, .sh⟩), (4, .dat ⟨.bool, v4, .sh⟩), (5, .dat ⟨(.int .i64), v5, .sh⟩), (12, .dat ⟨(.int .i64), v12, .sh⟩), (13, .dat ⟨(.int .i64), v13, .sh⟩)])) (
  cond (decide (v13 < v12))
  (cond (Go.Rf.nonneg v13)
    (cond (Nat.blt (Int.toNat v13) (List.length v0))
      (cond (Go.Rf.nonneg v13)
        (cond (Nat.blt (Int.toNat v13) (List.length v1))
          (cond (!(Bool.and (Go.Rf.eqI (List.getD v0 (Int.toNat v13) ((0 : Int), (([] : List (UInt8)), ()))).1 (List.getD v1 (Int.toNat v13) ((0 : Int), (([] : List (UInt8)), ()))).1) (Bool.and (Go.Rf.eqS (List.getD v0 (Int.toNat v13) ((0 : Int), (([] : List (UInt8)), ()))).2.1 (List.getD v1 (Int.toNat v13) ((0 : Int), (([] : List (UInt8)), ()))).2.1) true)))
            (some (false, ()))
            (lp_slices_Equal___impl_Io_impl_Io__1 R L v0 v1 v4 v13 v12 (Go.IntKind.wrap .i64 (v13 + (1 : Int)))))
          (none))
        (none))
      (none))
    (none))
  (some (true, ()))) := by kernel_rfl
/-- loop.example/g00548/impl.SameDevice -/
theorem q_impl_SameDevice (R : Run EE) (L : Loops) (x0 : d13) (x1 : d13) : @Eq (Option ((Bool × Unit))) (bodyK EE R L 72 [⟨t2, x0⟩, ⟨t2, x1⟩]) (
  (c_slices_Equal___string_string_ R x0.1 x1.1).bind fun r0 =>
  cond r0.1
  ((c_slices_Equal___impl_Io_impl_Io_ R x0.2.1 x1.2.1).bind fun r1 =>
    some (r1.1, ()))
  (some (false, ()))) := by kernel_rfl
/-- loop.example/g00548/impl.SameStore -/
theorem q_impl_SameStore (R : Run EE) (L : Loops) (x0 : d14) (x1 : d14) : @Eq (Option ((Bool × Unit))) (bodyK EE R L 71 [⟨t3, x0⟩, ⟨t3, x1⟩]) (
  cond (Go.Rf.eqS x0.1 x1.1)
  (cond (Bool.and (Go.Rf.eqI x0.2.1.1 x1.2.1.1) (Bool.and (Go.Rf.eqI x0.2.1.2.1 x1.2.1.2.1) (Bool.and (Go.Rf.eqI x0.2.1.2.2.1 x1.2.1.2.2.1) (Bool.and (Go.Rf.eqI x0.2.1.2.2.2.1 x1.2.1.2.2.2.1) (Bool.and (Go.Rf.eqS x0.2.1.2.2.2.2.1 x1.2.1.2.2.2.2.1) (Bool.and (Go.Rf.eqS x0.2.1.2.2.2.2.2.1 x1.2.1.2.2.2.2.2.1) (Bool.and (Go.Rf.eqS x0.2.1.2.2.2.2.2.2.1 x1.2.1.2.2.2.2.2.2.1) true)))))))
    (cond (Go.Rf.eqB x0.2.2.2.1 x1.2.2.2.1)
      (cond (Go.Rf.eqB x0.2.2.2.2.1 x1.2.2.2.2.1)
        ((c_impl_SameDevice R x0.2.2.1 x1.2.2.1).bind fun r0 =>
          some (r0.1, ()))
        (some (false, ())))
      (some (false, ())))
    (some (false, ())))
  (some (false, ()))) := by kernel_rfl
/-- slices.Equal[[]loop.example/g00548/impl.Entry,loop.example/g00548/impl.Entry] -/
theorem q_slices_Equal___impl_Entry_impl_Entry_ (R : Run EE) (L : Loops) (x0 : List ((Int × (Int × Unit)))) (x1 : List ((Int × (Int × Unit)))) : @Eq (Option ((Bool × Unit))) (bodyK EE R L 73 [⟨(.sl t4), x0⟩, ⟨(.sl t4), x1⟩]) (
  cond (!(Go.Rf.eqI (((List.length x0) : Nat) : Int) (((List.length x1) : Nat) : Int)))
  (some (false, ()))
  (lp_slices_Equal___impl_Entry_impl_Entry__0 R L x0 x1 false (((List.length x0) : Nat) : Int) (0 : Int))) := by kernel_rfl
theorem q_slices_Equal___impl_Entry_impl_Entry__0 (R : Run EE) (L : Loops) (v0 : List ((Int × (Int × Unit)))) (v1 : List ((Int × (Int × Unit)))) (v4 : Bool) (v12 : Int) (v13 : Int) : @Eq (Option ((Bool × Unit))) (from_ EE R L 73 Go.Proofs.Tryz.f73 [1, 1, 0, 1, 0, 0] (mk 26 [(0, .dat ⟨(.sl t4), v0, .sh⟩), (1, .dat ⟨(.sl t4), v1, .sh⟩), (4, .dat ⟨.bool, v4, .sh⟩), (12, .dat ⟨(.int .i64), v12, .sh⟩), (13, .dat ⟨(.int .i64), v13, .sh⟩)])) (
  cond (decide (v13 < v12))
  (cond (Go.Rf.nonneg v13)
    (cond (Nat.blt (Int.toNat v13) (List.length v0))
      (cond (Go.Rf.nonneg v13)
        (cond (Nat.blt (Int.toNat v13) (List.length v1))
          (cond (!(Bool.and (Go.Rf.eqI (List.getD v0 (Int.toNat v13) ((0 : Int), ((0 : Int), ()))).1 (List.getD v1 (Int.toNat v13) ((0 : Int), ((0 : Int), ()))).1) (Bool.and (Go.Rf.eqI (List.getD v0 (Int.toNat v13) ((0 : Int), ((0 : Int), ()))).2.1 (List.getD v1 (Int.toNat v13) ((0 : Int), ((0 : Int), ()))).2.1) true)))
            (some (false, ()))
            (lp_slices_Equal___impl_Entry_impl_Entry__1 R L v0 v1 v4 v13 v12 (Go.IntKind.wrap .i64 (v13 + (1 : Int)))))
          (none))
        (none))
      (none))
    (none))
  (some (true, ()))) := by kernel_rfl
theorem q_slices_Equal___impl_Entry_impl_Entry__1 (R : Run EE) (L : Loops) (v0 : List ((Int × (Int × Unit)))) (v1 : List ((Int × (Int × Unit)))) (v4 : Bool) (v5 : Int) (v12 : Int) (v13 : Int) : @Eq (Option ((Bool × Unit))) (from_ EE R L 73 Go.Proofs.Tryz.f73 [1, 1, 0, 1, 0, 0] (mk 26 [(0, .dat ⟨(.sl t4), v0, .sh⟩), (1, .dat ⟨(.sl t4), v1, .sh⟩), (4, .dat ⟨.bool, v4, .sh⟩), (5, .dat ⟨(.int .i64), v5, .sh⟩), (12, .dat ⟨(.int .i64), v12, .sh⟩), (13, .dat ⟨(.int .i64), v13, .sh⟩)])) (
  cond (decide (v13 < v12))
  (cond (Go.Rf.nonneg v13)
    (cond (Nat.blt (Int.toNat v13) (List.length v0))
      (cond (Go.Rf.nonneg v13)
        (cond (Nat.blt (Int.toNat v13) (List.length v1))
          (cond (!(Bool.and (Go.Rf.eqI (List.getD v0 (Int.toNat v13) ((0 : Int), ((0 : Int), ()))).1 (List.getD v1 (Int.toNat v13) ((0 : Int), ((0 : Int), ()))).1) (Bool.and (Go.Rf.eqI (List.getD v0 (Int.toNat v13) ((0 : Int), ((0 : Int), ()))).2.1 (List.getD v1 (Int.toNat v13) ((0 : Int), ((0 : Int), ()))).2.1) true)))
            (some (false, ()))
            (lp_slices_Equal___impl_Entry_impl_Entry__1 R L v0 v1 v4 v13 v12 (Go.IntKind.wrap .i64 (v13 + (1 : Int)))))
          (none))
        (none))
      (none))
    (none))
  (some (true, ()))) := by kernel_rfl
/-- slices.EqualFunc[[][]loop.example/g00548/impl.Txn,[][]loop.example/g00548/impl.Txn,[]loop.example/g00548/impl.Txn,[]loop.example/g00548/impl.Txn] -/
theorem q_slices_EqualFunc_____impl_Txn_____impl_Txn___impl_Txn___impl_Txn_ (R : Run EE) (L : Loops) (x0 : List (List ((List (d15) × Unit)))) (x1 : List (List ((List (d15) × Unit)))) (x2 : FnVal) : @Eq (Option ((Bool × Unit))) (bodyK EE R L 74 [⟨(.sl (.sl (.pair (.sl t5) .unit))), x0⟩, ⟨(.sl (.sl (.pair (.sl t5) .unit))), x1⟩, ⟨.fn, x2⟩]) (
  cond (!(Go.Rf.eqI (((List.length x0) : Nat) : Int) (((List.length x1) : Nat) : Int)))
  (some (false, ()))
  (lp_slices_EqualFunc_____impl_Txn_____impl_Txn___impl_Txn___impl_Txn__0 R L x0 x1 x2 false x0 (((List.length x0) : Nat) : Int) (0 : Int))) := by kernel_rfl
theorem q_slices_EqualFunc_____impl_Txn_____impl_Txn___impl_Txn___impl_Txn__0 (R : Run EE) (L : Loops) (v0 : List (List ((List (d15) × Unit)))) (v1 : List (List ((List (d15) × Unit)))) (v2 : FnVal) (v6 : Bool) (v15 : List (List ((List (d15) × Unit)))) (v16 : Int) (v17 : Int) : @Eq (Option ((Bool × Unit))) (from_ EE R L 74 Go.Proofs.Tryz.f74 [1, 1, 0, 1, 0, 0] (mk 32 [(0, .dat ⟨(.sl (.sl (.pair (.sl t5) .unit))), v0, .sh⟩), (1, .dat ⟨(.sl (.sl (.pair (.sl t5) .unit))), v1, .sh⟩), (2, .dat ⟨.fn, v2, .sh⟩), (6, .dat ⟨.bool, v6, .sh⟩), (15, .dat ⟨(.sl (.sl (.pair (.sl t5) .unit))), v15, .sh⟩), (16, .dat ⟨(.int .i64), v16, .sh⟩), (17, .dat ⟨(.int .i64), v17, .sh⟩)])) (
  cond (decide (v17 < v16))
  (cond (Go.Rf.nonneg v17)
    (cond (Nat.blt (Int.toNat v17) (List.length v15))
      (cond (Go.Rf.nonneg v17)
        (cond (Nat.blt (Int.toNat v17) (List.length v1))
          ((callVB EE R v2 [⟨(.sl (.pair (.sl t5) .unit)), ((List.getD v15 (Int.toNat v17) ([] : List ((List (d15) × Unit)))) : List ((List (d15) × Unit)))⟩, ⟨(.sl (.pair (.sl t5) .unit)), ((List.getD v1 (Int.toNat v17) ([] : List ((List (d15) × Unit)))) : List ((List (d15) × Unit)))⟩]).bind fun (r0 : Bool) =>
            cond (!r0)
            (some (false, ()))
            (lp_slices_EqualFunc_____impl_Txn_____impl_Txn___impl_Txn___impl_Txn__1 R L v0 v1 v2 v6 v17 (List.getD v15 (Int.toNat v17) ([] : List ((List (d15) × Unit)))) (List.getD v1 (Int.toNat v17) ([] : List ((List (d15) × Unit)))) v15 v16 (Go.IntKind.wrap .i64 (v17 + (1 : Int)))))
          (none))
        (none))
      (none))
    (none))
  (some (true, ()))) := by kernel_rfl
theorem q_slices_EqualFunc_____impl_Txn_____impl_Txn___impl_Txn___impl_Txn__1 (R : Run EE) (L : Loops) (v0 : List (List ((List (d15) × Unit)))) (v1 : List (List ((List (d15) × Unit)))) (v2 : FnVal) (v6 : Bool) (v7 : Int) (v8 : List ((List (d15) × Unit))) (v9 : List ((List (d15) × Unit))) (v15 : List (List ((List (d15) × Unit)))) (v16 : Int) (v17 : Int) : @Eq (Option ((Bool × Unit))) (from_ EE R L 74 Go.Proofs.Tryz.f74 [1, 1, 0, 1, 0, 0] (mk 32 [(0, .dat ⟨(.sl (.sl (.pair (.sl t5) .unit))), v0, .sh⟩), (1, .dat ⟨(.sl (.sl (.pair (.sl t5) .unit))), v1, .sh⟩), (2, .dat ⟨.fn, v2, .sh⟩), (6, .dat ⟨.bool, v6, .sh⟩), (7, .dat ⟨(.int .i64), v7, .sh⟩), (8, .dat ⟨(.sl (.pair (.sl t5) .unit)), v8, .sh⟩), (9, .dat ⟨(.sl (.pair (.sl t5) .unit)), v9, .sh⟩), (15, .dat ⟨(.sl (.sl (.pair (.sl t5) .unit))), v15, .sh⟩), (16, .dat ⟨(.int .i64), v16, .sh⟩), (17, .dat ⟨(.int .i64), v17, .sh⟩)])) (
  cond (decide (v17 < v16))
  (cond (Go.Rf.nonneg v17)
    (cond (Nat.blt (Int.toNat v17) (List.length v15))
      (cond (Go.Rf.nonneg v17)
        (cond (Nat.blt (Int.toNat v17) (List.length v1))
          ((callVB EE R v2 [⟨(.sl (.pair (.sl t5) .unit)), ((List.getD v15 (Int.toNat v17) ([] : List ((List (d15) × Unit)))) : List ((List (d15) × Unit)))⟩, ⟨(.sl (.pair (.sl t5) .unit)), ((List.getD v1 (Int.toNat v17) ([] : List ((List (d15) × Unit)))) : List ((List (d15) × Unit)))⟩]).bind fun (r0 : Bool) =>
            cond (!r0)
            (some (false, ()))
            (lp_slices_EqualFunc_____impl_Txn_____impl_Txn___impl_Txn___impl_Txn__1 R L v0 v1 v2 v6 v17 (List.getD v15 (Int.toNat v17) ([] : List ((List (d15) × Unit)))) (List.getD v1 (Int.toNat v17) ([] : List ((List (d15) × Unit)))) v15 v16 (Go.IntKind.wrap .i64 (v17 + (1 : Int)))))
          (none))
        (none))
      (none))
    (none))
  (some (true, ()))) := by kernel_rfl
/-- slices.EqualFunc[[]loop.example/g00548/impl.Txn,[]loop.example/g00548/impl.Txn,loop.example/g00548/impl.Txn,loop.example/g00548/impl.Txn] -/
theorem q_slices_EqualFunc___impl_Txn___impl_Txn_impl_Txn_impl_Txn_ (R : Run EE) (L : Loops) (x0 : List ((List (d15) × Unit))) (x1 : List ((List (d15) × Unit))) (x2 : FnVal) : @Eq (Option ((Bool × Unit))) (bodyK EE R L 144 [⟨(.sl (.pair (.sl t5) .unit)), x0⟩, ⟨(.sl (.pair (.sl t5) .unit)), x1⟩, ⟨.fn, x2⟩]) (
  cond (!(Go.Rf.eqI (((List.length x0) : Nat) : Int) (((List.length x1) : Nat) : Int)))
  (some (false, ()))
  (lp_slices_EqualFunc___impl_Txn___impl_Txn_impl_Txn_impl_Txn__0 R L x0 x1 x2 false x0 (((List.length x0) : Nat) : Int) (0 : Int))) := by kernel_rfl
theorem q_slices_EqualFunc___impl_Txn___impl_Txn_impl_Txn_impl_Txn__0 (R : Run EE) (L : Loops) (v0 : List ((List (d15) × Unit))) (v1 : List ((List (d15) × Unit))) (v2 : FnVal) (v6 : Bool) (v15 : List ((List (d15) × Unit))) (v16 : Int) (v17 : Int) : @Eq (Option ((Bool × Unit))) (from_ EE R L 144 Go.Proofs.Tryz.f144 [1, 1, 0, 1, 0, 0] (mk 32 [(0, .dat ⟨(.sl (.pair (.sl t5) .unit)), v0, .sh⟩), (1, .dat ⟨(.sl (.pair (.sl t5) .unit)), v1, .sh⟩), (2, .dat ⟨.fn, v2, .sh⟩), (6, .dat ⟨.bool, v6, .sh⟩), (15, .dat ⟨(.sl (.pair (.sl t5) .unit)), v15, .sh⟩), (16, .dat ⟨(.int .i64), v16, .sh⟩), (17, .dat ⟨(.int .i64), v17, .sh⟩)])) (
  cond (decide (v17 < v16))
  (cond (Go.Rf.nonneg v17)
    (cond (Nat.blt (Int.toNat v17) (List.length v15))
      (cond (Go.Rf.nonneg v17)
        (cond (Nat.blt (Int.toNat v17) (List.length v1))
          ((callVB EE R v2 [⟨(.pair (.sl t5) .unit), ((List.getD v15 (Int.toNat v17) (([] : List (d15)), ())) : (List (d15) × Unit))⟩, ⟨(.pair (.sl t5) .unit), ((List.getD v1 (Int.toNat v17) (([] : List (d15)), ())) : (List (d15) × Unit))⟩]).bind fun (r0 : Bool) =>
            cond (!r0)
            (some (false, ()))
            (lp_slices_EqualFunc___impl_Txn___impl_Txn_impl_Txn_impl_Txn__1 R L v0 v1 v2 v6 v17 (List.getD v15 (Int.toNat v17) (([] : List (d15)), ())) (List.getD v1 (Int.toNat v17) (([] : List (d15)), ())) v15 v16 (Go.IntKind.wrap .i64 (v17 + (1 : Int)))))
          (none))
        (none))
      (none))
    (none))
  (some (true, ()))) := by kernel_rfl
theorem q_slices_EqualFunc___impl_Txn___impl_Txn_impl_Txn_impl_Txn__1 (R : Run EE) (L : Loops) (v0 : List ((List (d15) × Unit))) (v1 : List ((List (d15) × Unit))) (v2 : FnVal) (v6 : Bool) (v7 : Int) (v8 : (List (d15) × Unit)) (v9 : (List (d15) × Unit)) (v15 : List ((List (d15) × Unit))) (v16 : Int) (v17 : Int) : @Eq (Option ((Bool × Unit))) (from_ EE R L 144 Go.Proofs.Tryz.f144 [1, 1, 0, 1, 0, 0] (mk 32 [(0, .dat ⟨(.sl (.pair (.sl t5) .unit)), v0, .sh⟩), (1, .dat ⟨(.sl (.pair (.sl t5) .unit)), v1, .sh⟩), (2, .dat ⟨.fn, v2, .sh⟩), (6, .dat ⟨.bool, v6, .sh⟩), (7, .dat ⟨(.int .i64), v7, .sh⟩), (8, .dat ⟨(.ptr (.pair (.sl t5) .unit)), v8, (.own .sh)⟩), (9, .dat ⟨(.ptr (.pair (.sl t5) .unit)), v9, (.own .sh)⟩), (15, .dat ⟨(.sl (.pair (.sl t5) .unit)), v15, .sh⟩), (16, .dat ⟨(.int .i64), v16, .sh⟩), (17, .dat ⟨(.int .i64), v17, .sh⟩)])) (
  cond (decide (v17 < v16))
  (cond (Go.Rf.nonneg v17)
    (cond (Nat.blt (Int.toNat v17) (List.length v15))
      (cond (Go.Rf.nonneg v17)
        (cond (Nat.blt (Int.toNat v17) (List.length v1))
          ((callVB EE R v2 [⟨(.pair (.sl t5) .unit), ((List.getD v15 (Int.toNat v17) (([] : List (d15)), ())) : (List (d15) × Unit))⟩, ⟨(.pair (.sl t5) .unit), ((List.getD v1 (Int.toNat v17) (([] : List (d15)), ())) : (List (d15) × Unit))⟩]).bind fun (r0 : Bool) =>
            cond (!r0)
            (some (false, ()))
            (lp_slices_EqualFunc___impl_Txn___impl_Txn_impl_Txn_impl_Txn__1 R L v0 v1 v2 v6 v17 (List.getD v15 (Int.toNat v17) (([] : List (d15)), ())) (List.getD v1 (Int.toNat v17) (([] : List (d15)), ())) v15 v16 (Go.IntKind.wrap .i64 (v17 + (1 : Int)))))
          (none))
        (none))
      (none))
    (none))
  (some (true, ()))) := by kernel_rfl
/-- slices.Equal[[]loop.example/g00548/impl.Op,loop.example/g00548/impl.Op] -/
theorem q_slices_Equal___impl_Op_impl_Op_ (R : Run EE) (L : Loops) (x0 : List (d15)) (x1 : List (d15)) : @Eq (Option ((Bool × Unit))) (bodyK EE R L 146 [⟨(.sl t5), x0⟩, ⟨(.sl t5), x1⟩]) (
  cond (!(Go.Rf.eqI (((List.length x0) : Nat) : Int) (((List.length x1) : Nat) : Int)))
  (some (false, ()))
  (lp_slices_Equal___impl_Op_impl_Op__0 R L x0 x1 false (((List.length x0) : Nat) : Int) (0 : Int))) := by kernel_rfl
theorem q_slices_Equal___impl_Op_impl_Op__0 (R : Run EE) (L : Loops) (v0 : List (d15)) (v1 : List (d15)) (v4 : Bool) (v12 : Int) (v13 : Int) : @Eq (Option ((Bool × Unit))) (from_ EE R L 146 Go.Proofs.Tryz.f146 [1, 1, 0, 1, 0, 0] (mk 26 [(0, .dat ⟨(.sl t5), v0, .sh⟩), (1, .dat ⟨(.sl t5), v1, .sh⟩), (4, .dat ⟨.bool, v4, .sh⟩), (12, .dat ⟨(.int .i64), v12, .sh⟩), (13, .dat ⟨(.int .i64), v13, .sh⟩)])) (
  cond (decide (v13 < v12))
  (cond (Go.Rf.nonneg v13)
    (cond (Nat.blt (Int.toNat v13) (List.length v0))
      (cond (Go.Rf.nonneg v13)
        (cond (Nat.blt (Int.toNat v13) (List.length v1))
          (cond (!(Bool.and (Go.Rf.eqI (List.getD v0 (Int.toNat v13) ((0 : Int), ((0 : Int), ((0 : Int), ())))).1 (List.getD v1 (Int.toNat v13) ((0 : Int), ((0 : Int), ((0 : Int), ())))).1) (Bool.and (Go.Rf.eqI (List.getD v0 (Int.toNat v13) ((0 : Int), ((0 : Int), ((0 : Int), ())))).2.1 (List.getD v1 (Int.toNat v13) ((0 : Int), ((0 : Int), ((0 : Int), ())))).2.1) (Bool.and (Go.Rf.eqI (List.getD v0 (Int.toNat v13) ((0 : Int), ((0 : Int), ((0 : Int), ())))).2.2.1 (List.getD v1 (Int.toNat v13) ((0 : Int), ((0 : Int), ((0 : Int), ())))).2.2.1) true))))
            (some (false, ()))
            (lp_slices_Equal___impl_Op_impl_Op__1 R L v0 v1 v4 v13 v12 (Go.IntKind.wrap .i64 (v13 + (1 : Int)))))
          (none))
        (none))
      (none))
    (none))
  (some (true, ()))) := by kernel_rfl
theorem q_slices_Equal___impl_Op_impl_Op__1 (R : Run EE) (L : Loops) (v0 : List (d15)) (v1 : List (d15)) (v4 : Bool) (v5 : Int) (v12 : Int) (v13 : Int) : @Eq (Option ((Bool × Unit))) (from_ EE R L 146 Go.Proofs.Tryz.f146 [1, 1, 0, 1, 0, 0] (mk 26 [(0, .dat ⟨(.sl t5), v0, .sh⟩), (1, .dat ⟨(.sl t5), v1, .sh⟩), (4, .dat ⟨.bool, v4, .sh⟩), (5, .dat ⟨(.int .i64), v5, .sh⟩), (12, .dat ⟨(.int .i64), v12, .sh⟩), (13, .dat ⟨(.int .i64), v13, .sh⟩)])) (
  cond (decide (v13 < v12))
  (cond (Go.Rf.nonneg v13)
    (cond (Nat.blt (Int.toNat v13) (List.length v0))
      (cond (Go.Rf.nonneg v13)
        (cond (Nat.blt (Int.toNat v13) (List.length v1))
          (cond (!(Bool.and (Go.Rf.eqI (List.getD v0 (Int.toNat v13) ((0 : Int), ((0 : Int), ((0 : Int), ())))).1 (List.getD v1 (Int.toNat v13) ((0 : Int), ((0 : Int), ((0 : Int), ())))).1) (Bool.and (Go.Rf.eqI (List.getD v0 (Int.toNat v13) ((0 : Int), ((0 : Int), ((0 : Int), ())))).2.1 (List.getD v1 (Int.toNat v13) ((0 : Int), ((0 : Int), ((0 : Int), ())))).2.1) (Bool.and (Go.Rf.eqI (List.getD v0 (Int.toNat v13) ((0 : Int), ((0 : Int), ((0 : Int), ())))).2.2.1 (List.getD v1 (Int.toNat v13) ((0 : Int), ((0 : Int), ((0 : Int), ())))).2.2.1) true))))
            (some (false, ()))
            (lp_slices_Equal___impl_Op_impl_Op__1 R L v0 v1 v4 v13 v12 (Go.IntKind.wrap .i64 (v13 + (1 : Int)))))
          (none))
        (none))
      (none))
    (none))
  (some (true, ()))) := by kernel_rfl
/-- loop.example/g00548/impl.alike$1 -/
theorem q_impl_alike_1 (R : Run EE) (L : Loops) (x0 : (List (d15) × Unit)) (x1 : (List (d15) × Unit)) : @Eq (Option ((Bool × Unit))) (bodyK EE R L 145 [⟨(.pair (.sl t5) .unit), x0⟩, ⟨(.pair (.sl t5) .unit), x1⟩]) (
  (c_slices_Equal___impl_Op_impl_Op_ R x0.1 x1.1).bind fun r0 =>
  some (r0.1, ())) := by kernel_rfl
/-- loop.example/g00548/impl.alike -/
theorem q_impl_alike (R : Run EE) (L : Loops) (x0 : List ((List (d15) × Unit))) (x1 : List ((List (d15) × Unit))) : @Eq (Option ((Bool × Unit))) (bodyK EE R L 75 [⟨(.sl (.pair (.sl t5) .unit)), x0⟩, ⟨(.sl (.pair (.sl t5) .unit)), x1⟩]) (
  (c_slices_EqualFunc___impl_Txn___impl_Txn_impl_Txn_impl_Txn_ R x0 x1 (Go.Rf.FnVal.mk (145 : Nat) (Go.Rf.FCaps.nil))).bind fun r0 =>
  some (r0.1, ())) := by kernel_rfl
/-- slices.EqualFunc[[]loop.example/g00548/impl.Result,[]loop.example/g00548/impl.Result,loop.example/g00548/impl.Result,loop.example/g00548/impl.Result] -/
theorem q_slices_EqualFunc___impl_Result___impl_Result_impl_Result_impl_Result_ (R : Run EE) (L : Loops) (x0 : List (d16)) (x1 : List (d16)) (x2 : FnVal) : @Eq (Option ((Bool × Unit))) (bodyK EE R L 147 [⟨(.sl t6), x0⟩, ⟨(.sl t6), x1⟩, ⟨.fn, x2⟩]) (
  cond (!(Go.Rf.eqI (((List.length x0) : Nat) : Int) (((List.length x1) : Nat) : Int)))
  (some (false, ()))
  (lp_slices_EqualFunc___impl_Result___impl_Result_impl_Result_impl_Result__0 R L x0 x1 x2 false x0 (((List.length x0) : Nat) : Int) (0 : Int))) := by kernel_rfl
theorem q_slices_EqualFunc___impl_Result___impl_Result_impl_Result_impl_Result__0 (R : Run EE) (L : Loops) (v0 : List (d16)) (v1 : List (d16)) (v2 : FnVal) (v6 : Bool) (v15 : List (d16)) (v16 : Int) (v17 : Int) : @Eq (Option ((Bool × Unit))) (from_ EE R L 147 Go.Proofs.Tryz.f147 [1, 1, 0, 1, 0, 0] (mk 32 [(0, .dat ⟨(.sl t6), v0, .sh⟩), (1, .dat ⟨(.sl t6), v1, .sh⟩), (2, .dat ⟨.fn, v2, .sh⟩), (6, .dat ⟨.bool, v6, .sh⟩), (15, .dat ⟨(.sl t6), v15, .sh⟩), (16, .dat ⟨(.int .i64), v16, .sh⟩), (17, .dat ⟨(.int .i64), v17, .sh⟩)])) (
  cond (decide (v17 < v16))
  (cond (Go.Rf.nonneg v17)
    (cond (Nat.blt (Int.toNat v17) (List.length v15))
      (cond (Go.Rf.nonneg v17)
        (cond (Nat.blt (Int.toNat v17) (List.length v1))
          ((callVB EE R v2 [⟨t6, ((List.getD v15 (Int.toNat v17) ((0 : Int), (([] : List (Int)), ()))) : d16)⟩, ⟨t6, ((List.getD v1 (Int.toNat v17) ((0 : Int), (([] : List (Int)), ()))) : d16)⟩]).bind fun (r0 : Bool) =>
            cond (!r0)
            (some (false, ()))
            (lp_slices_EqualFunc___impl_Result___impl_Result_impl_Result_impl_Result__1 R L v0 v1 v2 v6 v17 (List.getD v15 (Int.toNat v17) ((0 : Int), (([] : List (Int)), ()))) (List.getD v1 (Int.toNat v17) ((0 : Int), (([] : List (Int)), ()))) v15 v16 (Go.IntKind.wrap .i64 (v17 + (1 : Int)))))
          (none))
        (none))
      (none))
    (none))
  (some (true, ()))) := by kernel_rfl
theorem q_slices_EqualFunc___impl_Result___impl_Result_impl_Result_impl_Result__1 (R : Run EE) (L : Loops) (v0 : List (d16)) (v1 : List (d16)) (v2 : FnVal) (v6 : Bool) (v7 : Int) (v8 : d16) (v9 : d16) (v15 : List (d16)) (v16 : Int) (v17 : Int) : @Eq (Option ((Bool × Unit))) (from_ EE R L 147 Go.Proofs.Tryz.f147 [1, 1, 0, 1, 0, 0] (mk 32 [(0, .dat ⟨(.sl t6), v0, .sh⟩), (1, .dat ⟨(.sl t6), v1, .sh⟩), (2, .dat ⟨.fn, v2, .sh⟩), (6, .dat ⟨.bool, v6, .sh⟩), (7, .dat ⟨(.int .i64), v7, .sh⟩), (8, .dat ⟨(.ptr t6), v8, (.own .sh)⟩), (9, .dat ⟨(.ptr t6), v9, (.own .sh)⟩), (15, .dat ⟨(.sl t6), v15, .sh⟩), (16, .dat ⟨(.int .i64), v16, .sh⟩), (17, .dat ⟨(.int .i64), v17, .sh⟩)])) (
  cond (decide (v17 < v16))
  (cond (Go.Rf.nonneg v17)
    (cond (Nat.blt (Int.toNat v17) (List.length v15))
      (cond (Go.Rf.nonneg v17)
        (cond (Nat.blt (Int.toNat v17) (List.length v1))
          ((callVB EE R v2 [⟨t6, ((List.getD v15 (Int.toNat v17) ((0 : Int), (([] : List (Int)), ()))) : d16)⟩, ⟨t6, ((List.getD v1 (Int.toNat v17) ((0 : Int), (([] : List (Int)), ()))) : d16)⟩]).bind fun (r0 : Bool) =>
            cond (!r0)
            (some (false, ()))
            (lp_slices_EqualFunc___impl_Result___impl_Result_impl_Result_impl_Result__1 R L v0 v1 v2 v6 v17 (List.getD v15 (Int.toNat v17) ((0 : Int), (([] : List (Int)), ()))) (List.getD v1 (Int.toNat v17) ((0 : Int), (([] : List (Int)), ()))) v15 v16 (Go.IntKind.wrap .i64 (v17 + (1 : Int)))))
          (none))
        (none))
      (none))
    (none))
  (some (true, ()))) := by kernel_rfl
/-- slices.Equal[[]int,int] -/
theorem q_slices_Equal___int_int_ (R : Run EE) (L : Loops) (x0 : List (Int)) (x1 : List (Int)) : @Eq (Option ((Bool × Unit))) (bodyK EE R L 149 [⟨(.sl (.int .i64)), x0⟩, ⟨(.sl (.int .i64)), x1⟩]) (
  cond (!(Go.Rf.eqI (((List.length x0) : Nat) : Int) (((List.length x1) : Nat) : Int)))
  (some (false, ()))
  (lp_slices_Equal___int_int__0 R L x0 x1 false (((List.length x0) : Nat) : Int) (0 : Int))) := by kernel_rfl
theorem q_slices_Equal___int_int__0 (R : Run EE) (L : Loops) (v0 : List (Int)) (v1 : List (Int)) (v4 : Bool) (v12 : Int) (v13 : Int) : @Eq (Option ((Bool × Unit))) (from_ EE R L 149 Go.Proofs.Tryz.f149 [1, 1, 0, 1, 0, 0] (mk 26 [(0, .dat ⟨(.sl (.int .i64)), v0, .sh⟩), (1, .dat ⟨(.sl (.int .i64)), v1, .sh⟩), (4, .dat ⟨.bool, v4, .sh⟩), (12, .dat ⟨(.int .i64), v12, .sh⟩), (13, .dat ⟨(.int .i64), v13, .sh⟩)])) (
  cond (decide (v13 < v12))
  (cond (Go.Rf.nonneg v13)
    (cond (Nat.blt (Int.toNat v13) (List.length v0))
      (cond (Go.Rf.nonneg v13)
        (cond (Nat.blt (Int.toNat v13) (List.length v1))
          (cond (!(Go.Rf.eqI (List.getD v0 (Int.toNat v13) (0 : Int)) (List.getD v1 (Int.toNat v13) (0 : Int))))
            (some (false, ()))
            (lp_slices_Equal___int_int__1 R L v0 v1 v4 v13 v12 (Go.IntKind.wrap .i64 (v13 + (1 : Int)))))
          (none))
        (none))
      (none))
    (none))
  (some (true, ()))) := by kernel_rfl
theorem q_slices_Equal___int_int__1 (R : Run EE) (L : Loops) (v0 : List (Int)) (v1 : List (Int)) (v4 : Bool) (v5 : Int) (v12 : Int) (v13 : Int) : @Eq (Option ((Bool × Unit))) (from_ EE R L 149 Go.Proofs.Tryz.f149 [1, 1, 0, 1, 0, 0] (mk 26 [(0, .dat ⟨(.sl (.int .i64)), v0, .sh⟩), (1, .dat ⟨(.sl (.int .i64)), v1, .sh⟩), (4, .dat ⟨.bool, v4, .sh⟩), (5, .dat ⟨(.int .i64), v5, .sh⟩), (12, .dat ⟨(.int .i64), v12, .sh⟩), (13, .dat ⟨(.int .i64), v13, .sh⟩)])) (
  cond (decide (v13 < v12))
  (cond (Go.Rf.nonneg v13)
    (cond (Nat.blt (Int.toNat v13) (List.length v0))
      (cond (Go.Rf.nonneg v13)
        (cond (Nat.blt (Int.toNat v13) (List.length v1))
          (cond (!(Go.Rf.eqI (List.getD v0 (Int.toNat v13) (0 : Int)) (List.getD v1 (Int.toNat v13) (0 : Int))))
            (some (false, ()))
            (lp_slices_Equal___int_int__1 R L v0 v1 v4 v13 v12 (Go.IntKind.wrap .i64 (v13 + (1 : Int)))))
          (none))
        (none))
      (none))
    (none))
  (some (true, ()))) := by kernel_rfl
/-- loop.example/g00548/impl.sameResults$1 -/
theorem q_impl_sameResults_1 (R : Run EE) (L : Loops) (x0 : d16) (x1 : d16) : @Eq (Option ((Bool × Unit))) (bodyK EE R L 148 [⟨t6, x0⟩, ⟨t6, x1⟩]) (
  cond (Go.Rf.eqI x0.1 x1.1)
  ((c_slices_Equal___int_int_ R x0.2.1 x1.2.1).bind fun r0 =>
    some (r0.1, ()))
  (some (false, ()))) := by kernel_rfl
/-- loop.example/g00548/impl.sameResults -/
theorem q_impl_sameResults (R : Run EE) (L : Loops) (x0 : List (d16)) (x1 : List (d16)) : @Eq (Option ((Bool × Unit))) (bodyK EE R L 76 [⟨(.sl t6), x0⟩, ⟨(.sl t6), x1⟩]) (
  (c_slices_EqualFunc___impl_Result___impl_Result_impl_Result_impl_Result_ R x0 x1 (Go.Rf.FnVal.mk (148 : Nat) (Go.Rf.FCaps.nil))).bind fun r0 =>
  some (r0.1, ())) := by kernel_rfl
/-- loop.example/g00548/impl.SameWorld -/
theorem q_impl_SameWorld (R : Run EE) (L : Loops) (x0 : d17) (x1 : d17) : @Eq (Option ((Bool × Unit))) (bodyK EE R L 10 [⟨t7, x0⟩, ⟨t7, x1⟩]) (
  (c_impl_WorldOK R x0).bind fun r0 =>
  cond r0.1
  ((c_impl_WorldOK R x1).bind fun r1 =>
    cond r1.1
    ((c_impl_SameStore R x0.1 x1.1).bind fun r2 =>
      cond r2.1
      ((c_impl_SameDevice R x0.2.1 x1.2.1).bind fun r3 =>
        cond r3.1
        ((c_slices_Equal___impl_Entry_impl_Entry_ R x0.2.2.1 x1.2.2.1).bind fun r4 =>
          cond r4.1
          ((c_slices_EqualFunc_____impl_Txn_____impl_Txn___impl_Txn___impl_Txn_ R x0.2.2.2.1 x1.2.2.2.1 (Go.Rf.FnVal.mk (75 : Nat) (Go.Rf.FCaps.nil))).bind fun r5 =>
            cond r5.1
            ((c_impl_sameResults R x0.2.2.2.2.1 x1.2.2.2.2.1).bind fun r6 =>
              cond r6.1
              (some ((Go.Rf.eqB x0.2.2.2.2.2.1 x1.2.2.2.2.2.1), ()))
              (some (false, ())))
            (some (false, ())))
          (some (false, ())))
        (some (false, ())))
      (some (false, ())))
    (some (false, ())))
  (some (false, ()))) := by kernel_rfl
/-- loop.example/g00548/laws.eqRegister -/
theorem q_laws_eqRegister (R : Run EE) (L : Loops) (x0 : d11) (x1 : d11) : @Eq (Option ((Bool × Unit))) (bodyK EE R L 150 [⟨t0, x0⟩, ⟨t0, x1⟩]) (
  cond (!(Go.Rf.eqI x0.1 x1.1))
  (some (false, ()))
  (cond (!(Go.Rf.eqI x0.2.1 x1.2.1))
    (some (false, ()))
    (cond (!(Go.Rf.eqI x0.2.2.1 x1.2.2.1))
      (some (false, ()))
      (cond (!(Go.Rf.eqI x0.2.2.2.1 x1.2.2.2.1))
        (some (false, ()))
        (cond (!(Go.Rf.eqS x0.2.2.2.2.1 x1.2.2.2.2.1))
          (some (false, ()))
          (cond (!(Go.Rf.eqS x0.2.2.2.2.2.1 x1.2.2.2.2.2.1))
            (some (false, ()))
            (cond (!(Go.Rf.eqS x0.2.2.2.2.2.2.1 x1.2.2.2.2.2.2.1))
              (some (false, ()))
              (some (true, ()))))))))) := by kernel_rfl
/-- loop.example/g00548/laws.eqStringS -/
theorem q_laws_eqStringS (R : Run EE) (L : Loops) (x0 : List (List UInt8)) (x1 : List (List UInt8)) : @Eq (Option ((Bool × Unit))) (bodyK EE R L 151 [⟨(.sl .str), x0⟩, ⟨(.sl .str), x1⟩]) (
  cond (!(Go.Rf.eqI (((List.length x0) : Nat) : Int) (((List.length x1) : Nat) : Int)))
  (some (false, ()))
  (lp_laws_eqStringS_0 R L x0 x1 false (0 : Int))) := by kernel_rfl
theorem q_laws_eqStringS_0 (R : Run EE) (L : Loops) (v0 : List (List UInt8)) (v1 : List (List UInt8)) (v4 : Bool) (v5 : Int) : @Eq (Option ((Bool × Unit))) (from_ EE R L 151 Go.Proofs.Tryz.f151 [1, 1, 0, 1, 0, 0] (mk 26 [(0, .dat ⟨(.sl .str), v0, .sh⟩), (1, .dat ⟨(.sl .str), v1, .sh⟩), (4, .dat ⟨.bool, v4, .sh⟩), (5, .dat ⟨(.int .i64), v5, .sh⟩)])) (
  cond (decide (v5 < (((List.length v0) : Nat) : Int)))
  (cond (Go.Rf.nonneg v5)
    (cond (Nat.blt (Int.toNat v5) (List.length v0))
      (cond (Go.Rf.nonneg v5)
        (cond (Nat.blt (Int.toNat v5) (List.length v1))
          (cond (!(Go.Rf.eqS (List.getD v0 (Int.toNat v5) ([] : List (UInt8))) (List.getD v1 (Int.toNat v5) ([] : List (UInt8)))))
            (some (false, ()))
            (lp_laws_eqStringS_0 R L v0 v1 v4 (Go.IntKind.wrap .i64 (v5 + (1 : Int)))))
          (none))
        (none))
      (none))
    (none))
  (some (true, ()))) := by kernel_rfl
/-- loop.example/g00548/laws.eqIo -/
theorem q_laws_eqIo (R : Run EE) (L : Loops) (x0 : d12) (x1 : d12) : @Eq (Option ((Bool × Unit))) (bodyK EE R L 223 [⟨t1, x0⟩, ⟨t1, x1⟩]) (
  cond (!(Go.Rf.eqI x0.1 x1.1))
  (some (false, ()))
  (cond (!(Go.Rf.eqS x0.2.1 x1.2.1))
    (some (false, ()))
    (some (true, ())))) := by kernel_rfl
/-- loop.example/g00548/laws.eqIoS -/
theorem q_laws_eqIoS (R : Run EE) (L : Loops) (x0 : List (d12)) (x1 : List (d12)) : @Eq (Option ((Bool × Unit))) (bodyK EE R L 152 [⟨(.sl t1), x0⟩, ⟨(.sl t1), x1⟩]) (
  cond (!(Go.Rf.eqI (((List.length x0) : Nat) : Int) (((List.length x1) : Nat) : Int)))
  (some (false, ()))
  (lp_laws_eqIoS_0 R L x0 x1 false (0 : Int))) := by kernel_rfl
theorem q_laws_eqIoS_0 (R : Run EE) (L : Loops) (v0 : List (d12)) (v1 : List (d12)) (v4 : Bool) (v5 : Int) : @Eq (Option ((Bool × Unit))) (from_ EE R L 152 Go.Proofs.Tryz.f152 [1, 1, 0, 1, 0, 0] (mk 27 [(0, .dat ⟨(.sl t1), v0, .sh⟩), (1, .dat ⟨(.sl t1), v1, .sh⟩), (4, .dat ⟨.bool, v4, .sh⟩), (5, .dat ⟨(.int .i64), v5, .sh⟩)])) (
  cond (decide (v5 < (((List.length v0) : Nat) : Int)))
  (cond (Go.Rf.nonneg v5)
    (cond (Nat.blt (Int.toNat v5) (List.length v0))
      (cond (Go.Rf.nonneg v5)
        (cond (Nat.blt (Int.toNat v5) (List.length v1))
          ((c_laws_eqIo R (List.getD v0 (Int.toNat v5) ((0 : Int), (([] : List (UInt8)), ()))) (List.getD v1 (Int.toNat v5) ((0 : Int), (([] : List (UInt8)), ())))).bind fun r0 =>
            cond (!r0.1)
            (some (false, ()))
            (lp_laws_eqIoS_0 R L v0 v1 v4 (Go.IntKind.wrap .i64 (v5 + (1 : Int)))))
          (none))
        (none))
      (none))
    (none))
  (some (true, ()))) := by kernel_rfl
/-- loop.example/g00548/laws.eqDevice -/
theorem q_laws_eqDevice (R : Run EE) (L : Loops) (x0 : d13) (x1 : d13) : @Eq (Option ((Bool × Unit))) (bodyK EE R L 78 [⟨t2, x0⟩, ⟨t2, x1⟩]) (
  (c_laws_eqStringS R x0.1 x1.1).bind fun r0 =>
  cond (!r0.1)
  (some (false, ()))
  ((c_laws_eqIoS R x0.2.1 x1.2.1).bind fun r1 =>
    cond (!r1.1)
    (some (false, ()))
    (some (true, ())))) := by kernel_rfl
/-- loop.example/g00548/laws.eqStore -/
theorem q_laws_eqStore (R : Run EE) (L : Loops) (x0 : d14) (x1 : d14) : @Eq (Option ((Bool × Unit))) (bodyK EE R L 77 [⟨t3, x0⟩, ⟨t3, x1⟩]) (
  cond (!(Go.Rf.eqS x0.1 x1.1))
  (some (false, ()))
  ((c_laws_eqRegister R x0.2.1 x1.2.1).bind fun r0 =>
    cond (!r0.1)
    (some (false, ()))
    ((c_laws_eqDevice R x0.2.2.1 x1.2.2.1).bind fun r1 =>
      cond (!r1.1)
      (some (false, ()))
      (cond (!(Go.Rf.eqB x0.2.2.2.1 x1.2.2.2.1))
        (some (false, ()))
        (cond (!(Go.Rf.eqB x0.2.2.2.2.1 x1.2.2.2.2.1))
          (some (false, ()))
          (some (true, ()))))))) := by kernel_rfl
/-- loop.example/g00548/laws.eqEntry -/
theorem q_laws_eqEntry (R : Run EE) (L : Loops) (x0 : (Int × (Int × Unit))) (x1 : (Int × (Int × Unit))) : @Eq (Option ((Bool × Unit))) (bodyK EE R L 153 [⟨t4, x0⟩, ⟨t4, x1⟩]) (
  cond (!(Go.Rf.eqI x0.1 x1.1))
  (some (false, ()))
  (cond (!(Go.Rf.eqI x0.2.1 x1.2.1))
    (some (false, ()))
    (some (true, ())))) := by kernel_rfl
/-- loop.example/g00548/laws.eqEntryS -/
theorem q_laws_eqEntryS (R : Run EE) (L : Loops) (x0 : List ((Int × (Int × Unit)))) (x1 : List ((Int × (Int × Unit)))) : @Eq (Option ((Bool × Unit))) (bodyK EE R L 79 [⟨(.sl t4), x0⟩, ⟨(.sl t4), x1⟩]) (
  cond (!(Go.Rf.eqI (((List.length x0) : Nat) : Int) (((List.length x1) : Nat) : Int)))
  (some (false, ()))
  (lp_laws_eqEntryS_0 R L x0 x1 false (0 : Int))) := by kernel_rfl
theorem q_laws_eqEntryS_0 (R : Run EE) (L : Loops) (v0 : List ((Int × (Int × Unit)))) (v1 : List ((Int × (Int × Unit)))) (v4 : Bool) (v5 : Int) : @Eq (Option ((Bool × Unit))) (from_ EE R L 79 Go.Proofs.Tryz.f79 [1, 1, 0, 1, 0, 0] (mk 27 [(0, .dat ⟨(.sl t4), v0, .sh⟩), (1, .dat ⟨(.sl t4), v1, .sh⟩), (4, .dat ⟨.bool, v4, .sh⟩), (5, .dat ⟨(.int .i64), v5, .sh⟩)])) (
  cond (decide (v5 < (((List.length v0) : Nat) : Int)))
  (cond (Go.Rf.nonneg v5)
    (cond (Nat.blt (Int.toNat v5) (List.length v0))
      (cond (Go.Rf.nonneg v5)
        (cond (Nat.blt (Int.toNat v5) (List.length v1))
          ((c_laws_eqEntry R (List.getD v0 (Int.toNat v5) ((0 : Int), ((0 : Int), ()))) (List.getD v1 (Int.toNat v5) ((0 : Int), ((0 : Int), ())))).bind fun r0 =>
            cond (!r0.1)
            (some (false, ()))
            (lp_laws_eqEntryS_0 R L v0 v1 v4 (Go.IntKind.wrap .i64 (v5 + (1 : Int)))))
          (none))
        (none))
      (none))
    (none))
  (some (true, ()))) := by kernel_rfl
/-- loop.example/g00548/laws.eqOp -/
theorem q_laws_eqOp (R : Run EE) (L : Loops) (x0 : d15) (x1 : d15) : @Eq (Option ((Bool × Unit))) (bodyK EE R L 182 [⟨t5, x0⟩, ⟨t5, x1⟩]) (
  cond (!(Go.Rf.eqI x0.1 x1.1))
  (some (false, ()))
  (cond (!(Go.Rf.eqI x0.2.1 x1.2.1))
    (some (false, ()))
    (cond (!(Go.Rf.eqI x0.2.2.1 x1.2.2.1))
      (some (false, ()))
      (some (true, ()))))) := by kernel_rfl
/-- loop.example/g00548/laws.eqOpS -/
theorem q_laws_eqOpS (R : Run EE) (L : Loops) (x0 : List (d15)) (x1 : List (d15)) : @Eq (Option ((Bool × Unit))) (bodyK EE R L 98 [⟨(.sl t5), x0⟩, ⟨(.sl t5), x1⟩]) (
  cond (!(Go.Rf.eqI (((List.length x0) : Nat) : Int) (((List.length x1) : Nat) : Int)))
  (some (false, ()))
  (lp_laws_eqOpS_0 R L x0 x1 false (0 : Int))) := by kernel_rfl
theorem q_laws_eqOpS_0 (R : Run EE) (L : Loops) (v0 : List (d15)) (v1 : List (d15)) (v4 : Bool) (v5 : Int) : @Eq (Option ((Bool × Unit))) (from_ EE R L 98 Go.Proofs.Tryz.f98 [1, 1, 0, 1, 0, 0] (mk 27 [(0, .dat ⟨(.sl t5), v0, .sh⟩), (1, .dat ⟨(.sl t5), v1, .sh⟩), (4, .dat ⟨.bool, v4, .sh⟩), (5, .dat ⟨(.int .i64), v5, .sh⟩)])) (
  cond (decide (v5 < (((List.length v0) : Nat) : Int)))
  (cond (Go.Rf.nonneg v5)
    (cond (Nat.blt (Int.toNat v5) (List.length v0))
      (cond (Go.Rf.nonneg v5)
        (cond (Nat.blt (Int.toNat v5) (List.length v1))
          ((c_laws_eqOp R (List.getD v0 (Int.toNat v5) ((0 : Int), ((0 : Int), ((0 : Int), ())))) (List.getD v1 (Int.toNat v5) ((0 : Int), ((0 : Int), ((0 : Int), ()))))).bind fun r0 =>
            cond (!r0.1)
            (some (false, ()))
            (lp_laws_eqOpS_0 R L v0 v1 v4 (Go.IntKind.wrap .i64 (v5 + (1 : Int)))))
          (none))
        (none))
      (none))
    (none))
  (some (true, ()))) := by kernel_rfl
/-- loop.example/g00548/laws.eqTxn -/
theorem q_laws_eqTxn (R : Run EE) (L : Loops) (x0 : (List (d15) × Unit)) (x1 : (List (d15) × Unit)) : @Eq (Option ((Bool × Unit))) (bodyK EE R L 22 [⟨(.pair (.sl t5) .unit), x0⟩, ⟨(.pair (.sl t5) .unit), x1⟩]) (
  (c_laws_eqOpS R x0.1 x1.1).bind fun r0 =>
  cond (!r0.1)
  (some (false, ()))
  (some (true, ()))) := by kernel_rfl
/-- loop.example/g00548/laws.eqTxnS -/
theorem q_laws_eqTxnS (R : Run EE) (L : Loops) (x0 : List ((List (d15) × Unit))) (x1 : List ((List (d15) × Unit))) : @Eq (Option ((Bool × Unit))) (bodyK EE R L 35 [⟨(.sl (.pair (.sl t5) .unit)), x0⟩, ⟨(.sl (.pair (.sl t5) .unit)), x1⟩]) (
  cond (!(Go.Rf.eqI (((List.length x0) : Nat) : Int) (((List.length x1) : Nat) : Int)))
  (some (false, ()))
  (lp_laws_eqTxnS_0 R L x0 x1 false (0 : Int))) := by kernel_rfl
theorem q_laws_eqTxnS_0 (R : Run EE) (L : Loops) (v0 : List ((List (d15) × Unit))) (v1 : List ((List (d15) × Unit))) (v4 : Bool) (v5 : Int) : @Eq (Option ((Bool × Unit))) (from_ EE R L 35 Go.Proofs.Tryz.f35 [1, 1, 0, 1, 0, 0] (mk 27 [(0, .dat ⟨(.sl (.pair (.sl t5) .unit)), v0, .sh⟩), (1, .dat ⟨(.sl (.pair (.sl t5) .unit)), v1, .sh⟩), (4, .dat ⟨.bool, v4, .sh⟩), (5, .dat ⟨(.int .i64), v5, .sh⟩)])) (
  cond (decide (v5 < (((List.length v0) : Nat) : Int)))
  (cond (Go.Rf.nonneg v5)
    (cond (Nat.blt (Int.toNat v5) (List.length v0))
      (cond (Go.Rf.nonneg v5)
        (cond (Nat.blt (Int.toNat v5) (List.length v1))
          ((c_laws_eqTxn R (List.getD v0 (Int.toNat v5) (([] : List (d15)), ())) (List.getD v1 (Int.toNat v5) (([] : List (d15)), ()))).bind fun r0 =>
            cond (!r0.1)
            (some (false, ()))
            (lp_laws_eqTxnS_0 R L v0 v1 v4 (Go.IntKind.wrap .i64 (v5 + (1 : Int)))))
          (none))
        (none))
      (none))
    (none))
  (some (true, ()))) := by kernel_rfl
/-- loop.example/g00548/laws.eqTxnSS -/
theorem q_laws_eqTxnSS (R : Run EE) (L : Loops) (x0 : List (List ((List (d15) × Unit)))) (x1 : List (List ((List (d15) × Unit)))) : @Eq (Option ((Bool × Unit))) (bodyK EE R L 80 [⟨(.sl (.sl (.pair (.sl t5) .unit))), x0⟩, ⟨(.sl (.sl (.pair (.sl t5) .unit))), x1⟩]) (
  cond (!(Go.Rf.eqI (((List.length x0) : Nat) : Int) (((List.length x1) : Nat) : Int)))
  (some (false, ()))
  (lp_laws_eqTxnSS_0 R L x0 x1 false (0 : Int))) := by kernel_rfl
theorem q_laws_eqTxnSS_0 (R : Run EE) (L : Loops) (v0 : List (List ((List (d15) × Unit)))) (v1 : List (List ((List (d15) × Unit)))) (v4 : Bool) (v5 : Int) : @Eq (Option ((Bool × Unit))) (from_ EE R L 80 Go.Proofs.Tryz.f80 [1, 1, 0, 1, 0, 0] (mk 27 [(0, .dat ⟨(.sl (.sl (.pair (.sl t5) .unit))), v0, .sh⟩), (1, .dat ⟨(.sl (.sl (.pair (.sl t5) .unit))), v1, .sh⟩), (4, .dat ⟨.bool, v4, .sh⟩), (5, .dat ⟨(.int .i64), v5, .sh⟩)])) (
  cond (decide (v5 < (((List.length v0) : Nat) : Int)))
  (cond (Go.Rf.nonneg v5)
    (cond (Nat.blt (Int.toNat v5) (List.length v0))
      (cond (Go.Rf.nonneg v5)
        (cond (Nat.blt (Int.toNat v5) (List.length v1))
          ((c_laws_eqTxnS R (List.getD v0 (Int.toNat v5) ([] : List ((List (d15) × Unit)))) (List.getD v1 (Int.toNat v5) ([] : List ((List (d15) × Unit))))).bind fun r0 =>
            cond (!r0.1)
            (some (false, ()))
            (lp_laws_eqTxnSS_0 R L v0 v1 v4 (Go.IntKind.wrap .i64 (v5 + (1 : Int)))))
          (none))
        (none))
      (none))
    (none))
  (some (true, ()))) := by kernel_rfl
/-- loop.example/g00548/laws.eqIntS -/
theorem q_laws_eqIntS (R : Run EE) (L : Loops) (x0 : List (Int)) (x1 : List (Int)) : @Eq (Option ((Bool × Unit))) (bodyK EE R L 21 [⟨(.sl (.int .i64)), x0⟩, ⟨(.sl (.int .i64)), x1⟩]) (
  cond (!(Go.Rf.eqI (((List.length x0) : Nat) : Int) (((List.length x1) : Nat) : Int)))
  (some (false, ()))
  (lp_laws_eqIntS_0 R L x0 x1 false (0 : Int))) := by kernel_rfl
theorem q_laws_eqIntS_0 (R : Run EE) (L : Loops) (v0 : List (Int)) (v1 : List (Int)) (v4 : Bool) (v5 : Int) : @Eq (Option ((Bool × Unit))) (from_ EE R L 21 Go.Proofs.Tryz.f21 [1, 1, 0, 1, 0, 0] (mk 26 [(0, .dat ⟨(.sl (.int .i64)), v0, .sh⟩), (1, .dat ⟨(.sl (.int .i64)), v1, .sh⟩), (4, .dat ⟨.bool, v4, .sh⟩), (5, .dat ⟨(.int .i64), v5, .sh⟩)])) (
  cond (decide (v5 < (((List.length v0) : Nat) : Int)))
  (cond (Go.Rf.nonneg v5)
    (cond (Nat.blt (Int.toNat v5) (List.length v0))
      (cond (Go.Rf.nonneg v5)
        (cond (Nat.blt (Int.toNat v5) (List.length v1))
          (cond (!(Go.Rf.eqI (List.getD v0 (Int.toNat v5) (0 : Int)) (List.getD v1 (Int.toNat v5) (0 : Int))))
            (some (false, ()))
            (lp_laws_eqIntS_0 R L v0 v1 v4 (Go.IntKind.wrap .i64 (v5 + (1 : Int)))))
          (none))
        (none))
      (none))
    (none))
  (some (true, ()))) := by kernel_rfl
/-- loop.example/g00548/laws.eqResult -/
theorem q_laws_eqResult (R : Run EE) (L : Loops) (x0 : d16) (x1 : d16) : @Eq (Option ((Bool × Unit))) (bodyK EE R L 20 [⟨t6, x0⟩, ⟨t6, x1⟩]) (
  cond (!(Go.Rf.eqI x0.1 x1.1))
  (some (false, ()))
  ((c_laws_eqIntS R x0.2.1 x1.2.1).bind fun r0 =>
    cond (!r0.1)
    (some (false, ()))
    (some (true, ())))) := by kernel_rfl
/-- loop.example/g00548/laws.eqResultS -/
theorem q_laws_eqResultS (R : Run EE) (L : Loops) (x0 : List (d16)) (x1 : List (d16)) : @Eq (Option ((Bool × Unit))) (bodyK EE R L 34 [⟨(.sl t6), x0⟩, ⟨(.sl t6), x1⟩]) (
  cond (!(Go.Rf.eqI (((List.length x0) : Nat) : Int) (((List.length x1) : Nat) : Int)))
  (some (false, ()))
  (lp_laws_eqResultS_0 R L x0 x1 false (0 : Int))) := by kernel_rfl
theorem q_laws_eqResultS_0 (R : Run EE) (L : Loops) (v0 : List (d16)) (v1 : List (d16)) (v4 : Bool) (v5 : Int) : @Eq (Option ((Bool × Unit))) (from_ EE R L 34 Go.Proofs.Tryz.f34 [1, 1, 0, 1, 0, 0] (mk 27 [(0, .dat ⟨(.sl t6), v0, .sh⟩), (1, .dat ⟨(.sl t6), v1, .sh⟩), (4, .dat ⟨.bool, v4, .sh⟩), (5, .dat ⟨(.int .i64), v5, .sh⟩)])) (
  cond (decide (v5 < (((List.length v0) : Nat) : Int)))
  (cond (Go.Rf.nonneg v5)
    (cond (Nat.blt (Int.toNat v5) (List.length v0))
      (cond (Go.Rf.nonneg v5)
        (cond (Nat.blt (Int.toNat v5) (List.length v1))
          ((c_laws_eqResult R (List.getD v0 (Int.toNat v5) ((0 : Int), (([] : List (Int)), ()))) (List.getD v1 (Int.toNat v5) ((0 : Int), (([] : List (Int)), ())))).bind fun r0 =>
            cond (!r0.1)
            (some (false, ()))
            (lp_laws_eqResultS_0 R L v0 v1 v4 (Go.IntKind.wrap .i64 (v5 + (1 : Int)))))
          (none))
        (none))
      (none))
    (none))
  (some (true, ()))) := by kernel_rfl
/-- loop.example/g00548/laws.eqWorld -/
theorem q_laws_eqWorld (R : Run EE) (L : Loops) (x0 : d17) (x1 : d17) : @Eq (Option ((Bool × Unit))) (bodyK EE R L 11 [⟨t7, x0⟩, ⟨t7, x1⟩]) (
  (c_laws_eqStore R x0.1 x1.1).bind fun r0 =>
  cond (!r0.1)
  (some (false, ()))
  ((c_laws_eqDevice R x0.2.1 x1.2.1).bind fun r1 =>
    cond (!r1.1)
    (some (false, ()))
    ((c_laws_eqEntryS R x0.2.2.1 x1.2.2.1).bind fun r2 =>
      cond (!r2.1)
      (some (false, ()))
      ((c_laws_eqTxnSS R x0.2.2.2.1 x1.2.2.2.1).bind fun r3 =>
        cond (!r3.1)
        (some (false, ()))
        ((c_laws_eqResultS R x0.2.2.2.2.1 x1.2.2.2.2.1).bind fun r4 =>
          cond (!r4.1)
          (some (false, ()))
          (cond (!(Go.Rf.eqB x0.2.2.2.2.2.1 x1.2.2.2.2.2.1))
            (some (false, ()))
            (some (true, ())))))))) := by kernel_rfl
/-- loop.example/g00548/laws.FnExactSameWorld -/
theorem q_laws_FnExactSameWorld (R : Run EE) (L : Loops) (x0 : d17) (x1 : d17) : @Eq (Option ((Bool × Unit))) (bodyK EE R L 3 [⟨t7, x0⟩, ⟨t7, x1⟩]) (
  (c_laws_szWorld R x0 (1048576 : Int)).bind fun r0 =>
  cond (decide (r0.1 < (0 : Int)))
  (some (true, ()))
  ((c_laws_szWorld R x1 r0.1).bind fun r1 =>
    cond (decide (r1.1 < (0 : Int)))
    (some (true, ()))
    ((c_laws_toWorld R x0).bind fun r2 =>
      (c_laws_toWorld R x1).bind fun r3 =>
      (c_spec_SameWorld R r2.1 r3.1).bind fun r4 =>
      (c_laws_toWorld R x0).bind fun r5 =>
      (c_laws_toWorld R x1).bind fun r6 =>
      (c_impl_SameWorld R r5.1 r6.1).bind fun r7 =>
      cond (!(Go.Rf.eqB r7.1 r4.1))
      (some (false, ()))
      ((c_laws_toWorld R x0).bind fun r8 =>
        (c_laws_eqWorld R r5.1 r8.1).bind fun r9 =>
        cond (!r9.1)
        (some (false, ()))
        ((c_laws_toWorld R x1).bind fun r10 =>
          (c_laws_eqWorld R r6.1 r10.1).bind fun r11 =>
          cond (!r11.1)
          (some (false, ()))
          (some (true, ()))))))) := by kernel_rfl

end Go.Rf.S
