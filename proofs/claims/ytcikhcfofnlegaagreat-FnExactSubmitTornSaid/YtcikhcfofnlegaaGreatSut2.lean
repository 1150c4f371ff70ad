/- What the program computes, in plain words: part 6. No condition. -/
import Derived.Test.YtcikhcfofnlegaaGreatProg
import Derived.KernelRfl
import Derived.Test.YtcikhcfofnlegaaGreatSgC
import Derived.Test.YtcikhcfofnlegaaGreatSgD
import Derived.Test.YtcikhcfofnlegaaGreatSut1
set_option linter.unusedVariables false
set_option linter.unusedSimpArgs false
section
open Go Go.Rf
set_option maxRecDepth 100000
namespace Go.Rf.S
def mvD (l : List (Nat × Nat)) (d : List (Nat × List Nat)) : List (Nat × Nat) := l ++ d.flatMap fun x => x.2.map fun s => (4000000 + x.1, s)
abbrev t0 : Ty := (.sl (.int .i64))
abbrev t1 : Ty := (.pair t0 .unit)
abbrev t2 : Ty := (.pair .str .unit)
abbrev t3 : Ty := (.pair (.int .i64) (.pair (.int .i64) (.pair (.int .i64) .unit)))
abbrev t4 : Ty := (.pair (.sl t3) .unit)
abbrev t5 : Ty := (.sl (.int .u8))
abbrev t6 : Ty := (.pair t5 .unit)
abbrev t7 : Ty := (.arr 8 (.int .i64))
abbrev t8 : Ty := (.pair t7 .unit)
abbrev t9 : Ty := (.pair t7 (.pair .str (.pair (.int .i64) .unit)))
abbrev t10 : Ty := (.pair t9 .unit)
abbrev t11 : Ty := (.pair (.int .i64) .unit)
abbrev t12 : Ty := (.arr 64 (.int .i64))
abbrev t13 : Ty := (.pair t12 .unit)
abbrev t14 : Ty := (.arr 64 (.int .u32))
abbrev t15 : Ty := (.pair t14 .unit)
abbrev t16 : Ty := (.pair (.int .u32) .unit)
abbrev t17 : Ty := (.pair (.ptr t9) .unit)
abbrev t18 : Ty := (.pair (.int .u32) (.pair (.int .u32) (.pair (.int .u32) (.pair (.int .u32) .unit))))
abbrev t19 : Ty := (.arr 4 (.int .i64))
abbrev t20 : Ty := (.pair t19 .unit)
abbrev t21 : Ty := (.arr 16 (.int .i64))
abbrev t22 : Ty := (.pair t21 .unit)
abbrev t23 : Ty := (.pair (.int .i64) (.pair (.int .i64) (.pair (.int .i64) (.pair (.int .i64) (.pair .str (.pair .str (.pair .str .unit)))))))
abbrev t24 : Ty := (.pair (.int .i64) (.pair .str .unit))
abbrev t25 : Ty := (.pair (.sl .str) (.pair (.sl t24) .unit))
abbrev t26 : Ty := (.pair .str (.pair t23 (.pair t25 (.pair .bool (.pair .bool .unit)))))
abbrev t27 : Ty := (.pair t23 .unit)
abbrev t28 : Ty := (.pair (.sl .str) .unit)
abbrev t29 : Ty := (.pair t24 .unit)
abbrev t30 : Ty := (.pair (.sl t24) .unit)
abbrev t31 : Ty := (.pair t25 .unit)
abbrev t32 : Ty := (.pair t26 .unit)
abbrev t33 : Ty := (.pair t3 .unit)
abbrev t34 : Ty := (.pair t4 .unit)
abbrev t35 : Ty := (.pair (.sl t4) .unit)
abbrev t36 : Ty := (.pair .bool .unit)
abbrev t37 : Ty := (.arr 5 (.int .i64))
abbrev t38 : Ty := (.pair t37 .unit)
abbrev t39 : Ty := (.pair t26 (.pair .str .unit))
abbrev t40 : Ty := (.pair t26 (.pair (.int .i64) .unit))
abbrev t41 : Ty := (.arr 5 (.int .u64))
abbrev t42 : Ty := (.pair t41 .unit)
abbrev t43 : Ty := (.pair t25 (.pair t23 (.pair (.int .i64) .unit)))
abbrev t44 : Ty := (.pair (.int .i64) (.pair (.sl .str) .unit))
abbrev t45 : Ty := (.pair (.int .i64) (.pair (.sl t24) .unit))
abbrev t46 : Ty := (.pair (.int .i64) (.pair t25 .unit))
abbrev t47 : Ty := (.pair (.int .i64) (.pair t26 .unit))
abbrev t48 : Ty := (.pair (.int .i64) (.pair (.sl t3) .unit))
abbrev t49 : Ty := (.pair (.int .i64) (.pair (.sl t4) .unit))
abbrev t50 : Ty := (.pair (.int .i64) (.pair t0 .unit))
abbrev d51 : Type := (List Int × Unit)
abbrev d52 : Type := (List UInt8 × Unit)
abbrev d53 : Type := (Int × (Int × (Int × Unit)))
abbrev d54 : Type := (List d53 × Unit)
abbrev d55 : Type := (List Int × (List UInt8 × (Int × Unit)))
abbrev d56 : Type := (d55 × Unit)
abbrev d57 : Type := (Int × Unit)
abbrev d58 : Type := (Int × (Int × (Int × (Int × Unit))))
abbrev d59 : Type := (Int × (Int × (Int × (Int × (List UInt8 × (List UInt8 × (List UInt8 × Unit)))))))
abbrev d60 : Type := (Int × (List UInt8 × Unit))
abbrev d61 : Type := (List (List UInt8) × (List d60 × Unit))
abbrev d62 : Type := (List UInt8 × (d59 × (d61 × (Bool × (Bool × Unit)))))
abbrev d63 : Type := (d59 × Unit)
abbrev d64 : Type := (List (List UInt8) × Unit)
abbrev d65 : Type := (d60 × Unit)
abbrev d66 : Type := (List d60 × Unit)
abbrev d67 : Type := (d61 × Unit)
abbrev d68 : Type := (d62 × Unit)
abbrev d69 : Type := (d53 × Unit)
abbrev d70 : Type := (d54 × Unit)
abbrev d71 : Type := (List d54 × Unit)
abbrev d72 : Type := (Bool × Unit)
abbrev d73 : Type := (d62 × (List UInt8 × Unit))
abbrev d74 : Type := (d62 × (Int × Unit))
abbrev d75 : Type := (d61 × (d59 × (Int × Unit)))
abbrev d76 : Type := (Int × (List (List UInt8) × Unit))
abbrev d77 : Type := (Int × (List d60 × Unit))
abbrev d78 : Type := (Int × (d61 × Unit))
abbrev d79 : Type := (Int × (d62 × Unit))
abbrev d80 : Type := (Int × (List d53 × Unit))
abbrev d81 : Type := (Int × (List d54 × Unit))
abbrev d82 : Type := (Int × (List Int × Unit))
abbrev t83 : Ty := (.arr 8 (.int .u32))
abbrev t84 : Ty := (.arr 2 (.int .i64))
abbrev t85 : Ty := (.arr 2 t84)
abbrev t86 : Ty := (.arr 16 (.int .u32))
noncomputable def cfgs : List (Nat × FCfg) := [
(210, ⟨[.ro t0], 1, t1, (.pr (.own .sh) .sh), [900000, 0, 2, 4], [(3, 3), (2, 0)]⟩),
(275, ⟨[.ro t0], 1, t2, .sh, [], []⟩),
(211, ⟨[.mv t0 (.own .sh), .ro (.int .i64)], 1, t2, .sh, [0, 1, 4], [(1, 7)]⟩),
(142, ⟨[.ro (.sl t4), .ro t0], 1, t2, .sh, [0, 1, 4, 5, 7, 9, 16, 17, 18, 19, 29, 30, 31, 32], mvD [(12, 2)] [(72, [0, 1, 4, 7, 9, 19, 29, 30, 31, 32]), (38, [0, 1, 4, 7, 9, 19, 32])]⟩),
(263, ⟨[.mv t5 (.own .sh), .ro (.int .i64)], 1, t6, (.pr (.own .sh) .sh), [0, 1, 4], [(1, 14)]⟩),
(197, ⟨[.ro t0], 1, t2, .sh, [0, 2, 3, 4, 9], mvD [(6, 2)] [(15, [2, 9])]⟩),
(266, ⟨[.mv t0 (.own .sh), .ro (.int .i64)], 1, t2, .sh, [0, 1, 4, 8], mvD [(3, 2)] [(5, [4, 8])]⟩),
(200, ⟨[.ro (.sl t4), .ro t0], 1, t2, .sh, [0, 1, 4, 5, 6, 7, 8, 19, 38], mvD [(11, 2)] [(60, [1, 4, 7, 8, 19, 38]), (38, [1, 4, 8, 19, 38])]⟩),
(305, ⟨[], 1, t8, .sh, [0], [(1, 1)]⟩),
(250, ⟨[], 1, t10, .sh, [0], [(1, 2)]⟩),
(341, ⟨[.ro .str, .ro (.int .i64)], 1, t11, .sh, [0, 1, 4], [(1, 25)]⟩),
(342, ⟨[.ro (.int .i64), .ro (.int .i64)], 1, t11, .sh, [0, 1, 4], [(1, 9)]⟩),
(343, ⟨[], 1, t13, .sh, [0], [(1, 1)]⟩),
(304, ⟨[.ro t7, .ro .str], 1, t8, .sh, [0, 1, 2, 4, 5, 6, 7, 8, 9, 10, 11, 12, 13, 14, 15, 16, 17, 18, 21, 31, 87, 180], mvD [(27, 1)] [(15, [0, 7, 8, 9, 10, 11, 12, 13, 14, 15, 16, 17, 18, 21, 31, 87, 180]), (50, [0, 1, 6, 8, 9, 10, 11, 12, 13, 14, 15, 16, 17, 18, 21, 31, 87, 180]), (156, [0, 1, 6, 7, 8, 9, 13, 14, 15, 16, 17, 18, 21, 31, 87, 180]), (78, [0, 1, 5, 6, 7, 8, 9, 10, 12, 13, 14, 15, 16, 17, 21, 31, 87, 180])]⟩),
(249, ⟨[.ro t9, .ro .str], 1, t10, .sh, [0, 1, 2, 4, 19], mvD [(6, 1)] [(15, [0, 1, 19])]⟩),
(248, ⟨[.ro t9], 1, t2, .sh, [0, 1, 2, 3, 4, 5, 6, 7, 8, 19, 24, 41, 45], mvD [(18, 2)] [(9, [0, 2, 5, 6, 7, 8, 19, 24, 41, 45]), (24, [0, 2, 6, 7, 8, 19, 24, 41, 45]), (93, [0, 2, 3, 4, 5, 8, 19, 24, 41, 45]), (51, [0, 2, 3, 4, 5, 19, 24, 41, 45])]⟩),
(181, ⟨[.ro .str], 1, t2, .sh, [0, 2], [(1, 4)]⟩),
(257, ⟨[], 1, t10, .sh, [0], [(1, 2)]⟩),
(309, ⟨[], 1, t15, .sh, [0], [(1, 1)]⟩),
(367, ⟨[.ro (.int .u32), .ro (.int .i64)], 1, t16, .sh, [0, 1, 4, 5], [(2, 8)]⟩),
(344, ⟨[.ro (.int .u32), .ro (.int .i64)], 1, t16, .sh, [0, 1, 4], [(1, 4)]⟩),
(310, ⟨[.io (.ptr t9) (.own .sh) (.own .sh) 0 [], .ro .str, .ro (.ptr t14)], 0, t17, (.pr (.own .sh) .sh), [0, 1, 2, 6, 7, 8, 9, 10, 11, 12, 13, 14, 15, 16, 17, 18, 19, 20, 21, 22, 23, 24, 25, 26, 61, 104, 105, 106, 114, 115, 194, 195, 196], mvD [] [(18, [7, 8, 9, 10, 11, 12, 13, 14, 15, 16, 17, 18, 19, 20, 21, 22, 23, 24, 26, 61, 104, 105, 106, 114, 115, 194, 195, 196]), (38, [1, 7, 9, 10, 11, 12, 13, 14, 15, 16, 17, 18, 19, 20, 21, 22, 23, 24, 25, 26, 61, 104, 105, 106, 114, 115, 194, 195, 196]), (62, [1, 7, 8, 9, 10, 12, 13, 14, 15, 16, 17, 18, 19, 20, 21, 22, 23, 24, 25, 26, 61, 106, 114, 115, 194, 195, 196]), (154, [1, 7, 8, 9, 10, 12, 13, 14, 15, 16, 17, 18, 19, 20, 21, 22, 23, 24, 25, 26, 61, 104, 105, 106, 115, 194, 195, 196]), (114, [1, 2, 6, 7, 8, 9, 10, 11, 12, 13, 14, 15, 16, 17, 18, 19, 20, 21, 22, 23, 24, 25, 26, 61, 104, 105, 106, 114, 115, 196])]⟩),
(258, ⟨[.ro t9, .ro .str], 1, t10, .sh, [0, 1, 2, 4, 5, 19], mvD [(8, 1)] [(18, [0, 19])]⟩),
(311, ⟨[.ro .str, .ro (.int .i64)], 1, t2, .sh, [], []⟩),
(259, ⟨[.ro t9], 1, t2, .sh, [0, 1, 2, 3, 4, 5, 6, 8, 20, 35, 36, 37], mvD [(13, 2)] [(18, [0, 2, 6, 8, 20, 35, 36, 37]), (46, [0, 1, 2, 3, 4, 5, 8, 20, 37])]⟩),
(190, ⟨[.ro .str], 1, t2, .sh, [0, 2], [(1, 4)]⟩),
(139, ⟨[.ro (.int .i64), .ro (.int .i64)], 1, t2, .sh, [0, 1, 4, 5, 6, 7, 8, 9], mvD [(7, 2)] [(22, [1, 4, 6, 9])]⟩),
(332, ⟨[.ro .str], 1, t16, .sh, [0, 2], [(1, 18)]⟩),
(354, ⟨[.ro (.int .u32), .ro (.int .u32), .ro (.int .u32), .ro (.int .u32)], 4, t18, .sh, [0, 1, 2, 3, 8, 9, 10, 11, 13, 16, 17, 18], mvD [(9, 4), (9, 5), (9, 6), (9, 7)] [(42, [8, 9, 10, 11, 13, 18])]⟩),
(322, ⟨[.ro .str, .ro .str, .ro (.int .i64)], 1, t2, .sh, [0, 1, 2, 6, 7, 8, 9, 10, 11, 12, 13, 14, 15, 16, 17, 25, 26, 41, 42, 43, 44, 46, 47, 95, 96], mvD [(28, 1)] [(35, [0, 1, 2, 6, 10, 11, 12, 13, 14, 15, 16, 17, 26, 41, 42, 43, 44, 46, 47, 95, 96]), (198, [0, 1, 2, 6, 7, 10, 11, 12, 13, 14, 15, 16, 17, 25, 26, 42, 43, 44, 46, 47, 95, 96]), (153, [0, 1, 2, 6, 7, 10, 11, 12, 13, 14, 15, 16, 17, 25, 26, 42, 44, 46, 47, 95, 96]), (90, [0, 1, 2, 6, 7, 10, 12, 13, 14, 15, 16, 17, 25, 26, 42, 44, 47, 95, 96]), (106, [0, 1, 2, 6, 7, 10, 11, 12, 13, 14, 15, 17, 25, 26, 41, 42, 43, 44, 46, 47, 96])]⟩),
(361, ⟨[.ro .str, .ro (.int .i64)], 1, t11, .sh, [0, 1, 4], [(1, 25)]⟩),
(382, ⟨[.ro (.int .i64), .ro (.int .i64)], 1, t11, .sh, [0, 1, 4], [(1, 9)]⟩),
(381, ⟨[.ro (.int .i64), .ro (.int .i64), .ro (.int .i64), .ro (.int .i64)], 1, t20, .sh, [0, 1, 2, 3, 8], [(9, 5)]⟩),
(372, ⟨[.ro t21, .ro (.int .i64), .ro (.int .i64), .ro (.int .i64), .ro (.int .i64)], 1, t22, .sh, [0, 1, 2, 3, 4, 5, 10, 11], [(6, 1)]⟩),
(349, ⟨[.ro .str, .ro .str, .ro (.int .i64)], 1, t2, .sh, [0, 1, 2, 6, 7, 8, 9, 10, 11, 12, 13, 14, 15, 16, 19, 28, 41, 53, 57, 70, 90], mvD [(32, 2)] [(15, [6, 9, 10, 11, 12, 13, 14, 15, 16, 19, 28, 41, 53, 57, 70, 90]), (27, [6, 8, 10, 11, 12, 13, 14, 15, 16, 19, 28, 41, 53, 57, 70, 90]), (42, [0, 2, 6, 8, 9, 11, 12, 13, 14, 15, 16, 19, 28, 41, 53, 57, 70, 90]), (225, [0, 1, 2, 6, 8, 9, 10, 13, 14, 15, 16, 19, 28, 41, 53, 57, 70, 90]), (66, [0, 1, 2, 6, 8, 9, 10, 14, 15, 16, 19, 28, 41, 53, 57, 70, 90]), (78, [0, 1, 2, 6, 8, 9, 10, 13, 15, 16, 19, 28, 41, 53, 57, 70, 90]), (93, [0, 1, 2, 6, 8, 9, 10, 12, 13, 14, 19, 28, 41, 53, 57, 70, 90])]⟩),
(321, ⟨[.ro .str, .ro .str], 1, t2, .sh, [0, 1, 4, 5, 6, 10, 11, 12], mvD [(7, 2)] [(22, [0, 4, 6, 12])]⟩),
(313, ⟨[.ro .str, .ro .str, .ro (.int .i64), .ro .str], 1, t2, .sh, [0, 1, 2, 3, 8, 9, 10, 11, 16, 21], mvD [(9, 2)] [(35, [8, 16, 21])]⟩),
(60, ⟨[.ro t23, .ro (.int .i64)], 1, t11, .sh, [0, 1, 2, 4, 11, 18, 25], [(3, 0), (6, 0), (10, 1), (9, 0)]⟩),
(122, ⟨[.ro (.sl .str), .ro (.int .i64)], 1, t11, .sh, [0, 1, 4, 5, 11, 15, 26], [(3, 0), (10, 1), (9, 0)]⟩),
(195, ⟨[.ro t24, .ro (.int .i64)], 1, t11, .sh, [0, 1, 2, 4, 11], [(4, 1), (3, 0)]⟩),
(123, ⟨[.ro (.sl t24), .ro (.int .i64)], 1, t11, .sh, [0, 1, 4, 5, 11, 15, 25], [(3, 0), (10, 1), (9, 0)]⟩),
(61, ⟨[.ro t25, .ro (.int .i64)], 1, t11, .sh, [0, 1, 2, 4, 10, 16], [(3, 0), (7, 1), (6, 0)]⟩),
(20, ⟨[.ro t26, .ro (.int .i64)], 1, t11, .sh, [0, 1, 2, 4, 11, 17, 23], [(3, 0), (6, 0), (10, 1), (9, 0)]⟩),
(124, ⟨[.ro (.sl t3), .ro (.int .i64)], 1, t11, .sh, [0, 1, 4, 10], [(4, 1), (3, 0)]⟩),
(62, ⟨[.ro t4, .ro (.int .i64)], 1, t11, .sh, [0, 1, 2, 4, 10], [(4, 1), (3, 0)]⟩),
(21, ⟨[.ro (.sl t4), .ro (.int .i64)], 1, t11, .sh, [0, 1, 4, 5, 11, 15, 25], [(3, 0), (10, 1), (9, 0)]⟩),
(66, ⟨[.ro t23], 1, t27, .sh, [0, 1, 2, 3], [(9, 1)]⟩),
(132, ⟨[.ro (.sl .str)], 1, t28, (.pr (.own .sh) .sh), [0, 2, 3, 4, 11], [(1, 2), (6, 1)]⟩),
(202, ⟨[.ro t24], 1, t29, .sh, [0, 1, 2, 3], [(4, 1)]⟩),
(133, ⟨[.ro (.sl t24)], 1, t30, (.pr (.own .sh) .sh), [0, 2, 3, 4, 11], [(1, 2), (6, 1)]⟩),
(67, ⟨[.ro t25], 1, t31, (.pr (.pr (.own .sh) (.pr (.own .sh) .sh)) .sh), [0, 1, 2, 3], [(4, 1)]⟩),
(23, ⟨[.ro t26], 1, t32, (.pr (.pr .sh (.pr .sh (.pr (.pr (.own .sh) (.pr (.own .sh) .sh)) .sh))) .sh), [0, 1, 2, 3], [(7, 1)]⟩),
(203, ⟨[.ro t3], 1, t33, .sh, [0, 1, 2, 3], [(5, 1)]⟩),
(134, ⟨[.ro (.sl t3)], 1, t4, (.pr (.own .sh) .sh), [0, 2, 3, 4, 11], [(1, 2), (6, 1)]⟩),
(68, ⟨[.ro t4], 1, t34, (.pr (.pr (.own .sh) .sh) .sh), [0, 1, 2, 3], [(3, 1)]⟩),
(24, ⟨[.ro (.sl t4)], 1, t35, (.pr (.own (.pr (.own .sh) .sh)) .sh), [0, 2, 3, 4, 11], [(1, 2), (6, 1)]⟩),
(11, ⟨[.ro t0], 1, t1, (.pr (.own .sh) .sh), [0, 2, 3, 4, 11], [(1, 2), (6, 1)]⟩),
(102, ⟨[.ro (.int .i64), .ro (.int .i64), .ro (.int .i64)], 1, t36, .sh, [0, 1, 2, 6], [(1, 8)]⟩),
(44, ⟨[.ro t0], 1, t36, .sh, [0, 2, 3, 7, 15], mvD [(6, 0), (5, 0)] [(18, [2, 7, 15])]⟩),
(125, ⟨[.ro t0, .ro (.int .i64)], 1, t11, .sh, [0, 1, 4, 5, 9, 14], [(7, 0), (2, 0), (4, 0), (6, 0)]⟩),
(151, ⟨[.ro t23], 1, t36, .sh, [0, 1, 2], [(1, 56)]⟩),
(214, ⟨[.ro (.int .i64)], 1, t36, .sh, [0, 2], [(1, 2)]⟩),
(152, ⟨[.ro t25], 1, t36, .sh, [0, 1, 2, 3, 4, 14, 19, 28, 33, 53], [(2, 0), (7, 0), (13, 0), (12, 0)]⟩),
(80, ⟨[.ro t26], 1, t36, .sh, [0, 1, 2], [(1, 30)]⟩),
(262, ⟨[.ro t3], 1, t36, .sh, [1000015, 0, 1, 2, 12, 14, 15, 21], [(2, 0), (9, 3), (6, 3), (8, 3)]⟩),
(196, ⟨[.ro t4], 1, t36, .sh, [0, 1, 2, 3, 8, 17], [(6, 4), (5, 0)]⟩),
(126, ⟨[.ro (.sl t4)], 1, t36, .sh, [0, 2, 3, 6, 10, 14, 22], [(2, 0), (4, 0), (10, 0), (9, 0)]⟩),
(63, ⟨[.ro t26, .ro (.sl t4), .ro t0], 1, t11, .sh, [0, 1, 2, 3, 6, 7, 11, 15, 23], [(3, 1), (5, 0), (8, 0), (7, 0)]⟩),
(127, ⟨[.ro t26], 1, t11, .sh, [0, 1, 2, 3, 6], [(5, 0), (2, 0), (4, 0)]⟩),
(128, ⟨[.ro t26], 1, t11, .sh, [0, 1, 2, 16], [(3, 0), (2, 0)]⟩),
(199, ⟨[.ro (.int .i64), .ro (.int .i64)], 1, t11, .sh, [0, 1, 4], [(1, 4)]⟩),
(312, ⟨[.ro (.int .i64)], 1, t2, .sh, [0, 2, 3, 4, 7], mvD [(6, 2)] [(15, [2, 7])]⟩),
(264, ⟨[.ro (.int .i64), .ro (.int .i64), .ro (.int .i64)], 1, t2, .sh, [0, 1, 2, 6], [(1, 12)]⟩),
(351, ⟨[.ro .str], 1, t2, .sh, [0, 2, 6], mvD [(3, 1)] [(5, [2, 6])]⟩),
(374, ⟨[.ro .str], 1, t2, .sh, [0, 2, 3, 4, 5, 10, 20], mvD [(10, 2)] [(15, [0, 2, 5, 10, 20]), (27, [0, 2, 4, 10, 20])]⟩),
(373, ⟨[.ro .str], 1, t38, .sh, [0, 2, 3, 4, 5, 6, 9, 36], mvD [(10, 1)] [(49, [5, 6, 9, 36])]⟩),
(377, ⟨[.ro t37], 1, t38, .sh, [0, 1, 2, 3, 4, 6, 10], mvD [(11, 1)] [(63, [0, 4, 6, 10]), (30, [0, 6, 10])]⟩),
(375, ⟨[.ro t37, .ro t37], 1, t38, .sh, [0, 1, 2, 3, 4, 5, 6, 7, 8, 11, 15, 28], mvD [(12, 2)] [(72, [0, 1, 7, 8, 11, 15, 28]), (57, [0, 1, 8, 11, 15, 28])]⟩),
(376, ⟨[.ro t37], 1, t38, .sh, [0, 1, 2, 3, 4, 11, 32], mvD [(9, 1), (11, 1)] [(26, [0, 11, 32])]⟩),
(350, ⟨[.ro .str, .ro .str], 1, t2, .sh, [0, 1, 4, 5, 6, 7, 8, 9, 10, 11, 12, 13, 14, 15, 24, 38, 44, 63, 77], mvD [(28, 2)] [(110, [4, 8, 9, 10, 11, 12, 13, 14, 15, 24, 38, 44, 63, 77]), (17, [4, 9, 10, 11, 12, 13, 14, 15, 24, 38, 44, 63, 77]), (39, [4, 8, 11, 12, 13, 14, 15, 24, 38, 44, 63, 77]), (216, [1, 4, 5, 7, 8, 9, 10, 14, 15, 24, 38, 44, 63, 77])]⟩),
(314, ⟨[.ro .str, .ro .str, .ro .str, .ro .str], 1, t2, .sh, [0, 1, 2, 3, 8, 9], [(2, 15)]⟩),
(265, ⟨[.ro .str, .ro .str, .ro .str, .ro .str], 1, t2, .sh, [0, 1, 2, 3, 8, 9], [(2, 7)]⟩),
(198, ⟨[.ro .str, .ro (.int .i64), .ro (.int .i64), .ro (.int .i64), .ro .str], 1, t2, .sh, [0, 1, 2, 3, 4, 10, 11], [(2, 4)]⟩),
(201, ⟨[.ro t25, .ro (.int .i64), .ro .str], 1, t31, (.pr (.pr .sh (.pr (.own .sh) .sh)) .sh), [0, 1, 2, 3, 6], [(2, 1)]⟩),
(129, ⟨[.ro t26, .ro (.sl t4), .ro t0], 2, t39, (.pr (.pr .sh (.pr .sh (.pr (.pr .sh (.pr (.own .sh) .sh)) .sh))) .sh), [0, 1, 2, 3, 6, 7, 8, 9], [(4, 2), (4, 3)]⟩),
(130, ⟨[.ro t25], 1, t31, (.pr (.pr (.own .sh) (.pr (.own .sh) .sh)) .sh), [0, 1, 2, 3, 4, 15], mvD [(6, 1)] [(15, [0, 15])]⟩),
(131, ⟨[.ro .str, .ro .str], 1, t2, .sh, [0, 1, 4], [(1, 5)]⟩),
(64, ⟨[.ro t26, .ro (.sl t4), .ro t0], 2, t40, .sh, [0, 1, 2, 3, 6, 7, 8, 9, 10, 11, 15, 21], [(3, 2), (3, 3), (6, 2), (6, 3), (11, 1), (11, 2)]⟩),
(103, ⟨[.ro t25], 1, t31, (.pr (.pr (.own .sh) (.pr (.own .sh) .sh)) .sh), [0, 1, 2], [(1, 9)]⟩),
(65, ⟨[.ro t26], 1, t32, (.pr (.pr .sh (.pr .sh (.pr (.pr (.own .sh) (.pr (.own .sh) .sh)) .sh))) .sh), [0, 1, 2], [(2, 1)]⟩),
(268, ⟨[.ro (.int .i64), .ro (.ptr .fn)], 1, t36, .sh, [0, 1, 3], [(1, 4)]⟩),
(315, ⟨[.ro t0, .ro .fn], 1, t11, .sh, [0, 1, 4, 5, 7, 8, 9, 16], [(7, 0), (5, 1)]⟩),
(267, ⟨[.ro t0, .ro .fn], 1, t36, .sh, [0, 1, 4], [(1, 4)]⟩),
(204, ⟨[.ro t0, .ro .fn], 1, t36, .sh, [0, 1, 3, 4], [(1, 4)]⟩),
(149, ⟨[.ro (.int .i64), .ro (.int .i64), .ro (.int .i64)], 1, t36, .sh, [0, 1, 2, 6], [(1, 8)]⟩),
(205, ⟨[.ro (.int .i64)], 1, t36, .sh, [0, 2], [(1, 2)]⟩),
(135, ⟨[.ro t0, .ro (.int .i64)], 1, t11, .sh, [0, 1, 4, 5, 10], [(5, 0), (2, 0), (4, 0)]⟩),
(220, ⟨[.ro .str], 1, t36, .sh, [0, 2], [(1, 3)]⟩),
(137, ⟨[.ro t23], 1, t11, .sh, [0, 1, 2], [(1, 5)]⟩),
(156, ⟨[.ro t23], 1, t36, .sh, [0, 1, 2], [(1, 51)]⟩),
(254, ⟨[.ro .str, .ro (.ptr .fn)], 1, t36, .sh, [0, 1, 3], [(1, 4)]⟩),
(308, ⟨[.ro (.sl .str), .ro .fn], 1, t11, .sh, [0, 1, 4, 5, 7, 8, 9, 16], [(7, 0), (5, 1)]⟩),
(253, ⟨[.ro (.sl .str), .ro .fn], 1, t36, .sh, [0, 1, 4], [(1, 4)]⟩),
(185, ⟨[.ro (.sl .str), .ro .fn], 1, t36, .sh, [0, 1, 3, 4], [(1, 4)]⟩),
(285, ⟨[.ro .str], 1, t36, .sh, [0, 2], [(1, 3)]⟩),
(331, ⟨[.ro t24, .ro (.ptr .fn)], 1, t36, .sh, [0, 1, 2, 3], [(1, 4)]⟩),
(363, ⟨[.ro (.sl t24), .ro .fn], 1, t11, .sh, [0, 1, 4, 5, 7, 8, 9, 16], [(7, 0), (5, 1)]⟩),
(330, ⟨[.ro (.sl t24), .ro .fn], 1, t36, .sh, [0, 1, 4], [(1, 4)]⟩),
(286, ⟨[.ro (.sl t24), .ro .fn], 1, t36, .sh, [0, 1, 3, 4], [(1, 4)]⟩),
(288, ⟨[.ro (.int .i64)], 1, t36, .sh, [0, 2], [(1, 2)]⟩),
(287, ⟨[.ro t24], 1, t36, .sh, [0, 1, 2], [(1, 8)]⟩),
(221, ⟨[.ro t25], 1, t36, .sh, [0, 1, 2], [(1, 20)]⟩),
(157, ⟨[.ro t25], 1, t36, .sh, [0, 1, 2], [(1, 8)]⟩),
(82, ⟨[.ro t26], 1, t36, .sh, [0, 1, 2], [(1, 23)]⟩),
(270, ⟨[.ro t4, .ro (.ptr .fn)], 1, t36, .sh, [0, 1, 2, 3], [(1, 4)]⟩),
(316, ⟨[.ro (.sl t4), .ro .fn], 1, t11, .sh, [0, 1, 4, 5, 7, 8, 9, 16], [(7, 0), (5, 1)]⟩),
(269, ⟨[.ro (.sl t4), .ro .fn], 1, t36, .sh, [0, 1, 4], [(1, 4)]⟩),
(206, ⟨[.ro (.sl t4), .ro .fn], 1, t36, .sh, [0, 1, 3, 4], [(1, 4)]⟩),
(318, ⟨[.ro t3, .ro (.ptr .fn)], 1, t36, .sh, [0, 1, 2, 3], [(1, 4)]⟩),
(352, ⟨[.ro (.sl t3), .ro .fn], 1, t11, .sh, [0, 1, 4, 5, 7, 8, 9, 16], [(7, 0), (5, 1)]⟩),
(317, ⟨[.ro (.sl t3), .ro .fn], 1, t36, .sh, [0, 1, 4], [(1, 4)]⟩),
(271, ⟨[.ro (.sl t3), .ro .fn], 1, t36, .sh, [0, 1, 3, 4], [(1, 4)]⟩),
(228, ⟨[.ro (.int .i64)], 1, t36, .sh, [0, 2], [(1, 2)]⟩),
(319, ⟨[.ro (.int .i64)], 1, t36, .sh, [0, 2], [(1, 6)]⟩),
(235, ⟨[.ro (.int .i64)], 1, t36, .sh, [0, 2], [(1, 2)]⟩),
(272, ⟨[.ro t3], 1, t36, .sh, [0, 1, 2, 12, 13, 20], [(2, 0), (7, 3), (4, 3), (6, 3)]⟩),
(207, ⟨[.ro t4], 1, t36, .sh, [0, 1, 2], [(1, 9)]⟩),
(136, ⟨[.ro (.sl t4)], 1, t36, .sh, [0, 2], [(1, 7)]⟩),
(69, ⟨[.ro t26, .ro (.sl t4), .ro t0], 1, t11, .sh, [0, 1, 2, 3, 6, 7, 15, 19, 28], [(2, 0), (5, 1), (8, 0), (7, 0)]⟩),
(87, ⟨[.ro t26], 1, t11, .sh, [0, 1, 2, 3, 6], [(5, 0), (2, 0), (4, 0)]⟩),
(138, ⟨[.ro (.int .i64)], 1, t11, .sh, [0, 2], [(1, 3)]⟩),
(141, ⟨[.ro (.int .i64), .ro (.int .i64)], 1, t11, .sh, [0, 1, 4], [(1, 4)]⟩),
(209, ⟨[.ro (.int .i64), .ro (.int .i64), .ro (.int .i64)], 1, t2, .sh, [0, 1, 2, 6], [(1, 10)]⟩),
(273, ⟨[.ro .str, .ro .str, .ro (.int .i64), .ro .str], 1, t2, .sh, [], []⟩),
(325, ⟨[.ro .str], 1, t2, .sh, [0, 2], [(1, 8)]⟩),
(356, ⟨[.ro .str], 1, t2, .sh, [0, 2, 3, 4, 5, 10, 20], mvD [(10, 2)] [(15, [0, 2, 5, 10, 20]), (27, [0, 2, 4, 10, 20])]⟩),
(355, ⟨[.ro .str], 1, t42, .sh, [0, 2, 3, 4, 5, 6, 7, 9, 10, 11, 12, 16, 17, 27], mvD [(13, 1)] [(85, [0, 4, 5, 6, 7, 12, 16, 17, 27]), (57, [0, 6, 7, 12, 17, 27])]⟩),
(379, ⟨[.ro t41], 1, t42, .sh, [0, 1, 2, 3, 4, 5, 6, 7, 8], mvD [(13, 1)] [(88, [0, 3, 4, 6, 7, 8]), (51, [0, 4, 6, 8])]⟩),
(357, ⟨[.ro t41, .ro t41], 1, t42, .sh, [0, 1, 2, 3, 4, 5, 6, 7], mvD [(6, 2)] [(18, [0, 1, 5, 7])]⟩),
(358, ⟨[.ro t41, .ro t41], 1, t42, .sh, [0, 1, 2, 3, 4, 5, 6, 7, 8, 9, 10, 11, 12, 15, 16, 17, 23], mvD [(13, 2)] [(85, [0, 1, 2, 6, 7, 8, 9, 12, 15, 16, 17, 23]), (57, [0, 1, 2, 8, 9, 12, 17, 23])]⟩),
(359, ⟨[.ro t41], 1, t42, .sh, [0, 1, 2, 3, 4, 5, 10, 19, 26, 28, 29], mvD [(8, 1), (14, 1)] [(35, [0, 5, 10, 19, 26, 28, 29]), (50, [0, 4, 5, 10, 19, 26, 29])]⟩),
(360, ⟨[.ro t41, .ro .str], 1, t2, .sh, [0, 1, 2, 4, 5, 6, 7, 8, 9, 10, 13, 14, 15, 17, 18], mvD [(17, 2)] [(143, [0, 4, 7, 8, 9, 10, 15, 17, 18]), (55, [0, 4, 9, 10, 15, 18])]⟩),
(324, ⟨[.ro .str, .ro .str], 1, t2, .sh, [0, 1, 4, 5, 6, 7, 14], mvD [(7, 5)] [(18, [4, 14])]⟩),
(274, ⟨[.ro .str, .ro .str, .ro .str, .ro .str], 1, t2, .sh, [0, 1, 2, 3, 8], [(1, 18)]⟩),
(208, ⟨[.ro .str, .ro .str, .ro .str, .ro .str], 1, t2, .sh, [0, 1, 2, 3, 8, 9], [(2, 7)]⟩),
(140, ⟨[.ro .str, .ro (.int .i64), .ro (.int .i64), .ro (.int .i64), .ro .str], 1, t2, .sh, [0, 1, 2, 3, 4, 10], [(1, 7)]⟩),
(143, ⟨[.ro .str, .ro .str], 1, t2, .sh, [0, 1, 4], [(1, 5)]⟩),
(112, ⟨[.ro (.sl .str)], 1, t28, (.pr (.own .sh) .sh), [900000, 0, 2, 4], [(3, 3), (2, 0)]⟩),
(113, ⟨[.ro (.sl t24)], 1, t30, (.pr (.own .sh) .sh), [900000, 0, 2, 4], [(3, 3), (2, 0)]⟩),
(48, ⟨[.ro t25], 1, t31, (.pr (.pr (.own .sh) (.pr (.own .sh) .sh)) .sh), [0, 1, 2], [(1, 7)]⟩),
(144, ⟨[.ro t25, .ro (.int .i64), .ro .str], 1, t31, (.pr (.pr (.own .sh) (.pr (.own .sh) .sh)) .sh), [0, 1, 2, 3, 6, 7], [(3, 1)]⟩),
(70, ⟨[.ro t26, .ro (.sl t4), .ro t0], 3, t43, (.pr (.pr (.own .sh) (.pr (.own .sh) .sh)) .sh), [0, 1, 2, 3, 6, 7, 8, 9, 10, 11, 12, 13, 17, 30], [(3, 3), (3, 4), (3, 5), (5, 2), (5, 3), (5, 4), (12, 6), (12, 7), (12, 8)]⟩),
(71, ⟨[.ro t26], 1, t32, (.pr (.pr .sh (.pr .sh (.pr (.pr (.own .sh) (.pr (.own .sh) .sh)) .sh))) .sh), [0, 1, 2], [(2, 1)]⟩),
(145, ⟨[.ro t25, .ro t0], 1, t31, (.pr (.pr (.own .sh) (.pr (.own .sh) .sh)) .sh), [0, 1, 2, 4, 5, 6, 7, 8, 9, 10, 16, 17, 18, 19, 25, 33, 34, 43], mvD [(16, 1)] [(130, [0, 2, 6, 7, 8, 9, 10, 19, 25, 33, 34, 43])]⟩),
(72, ⟨[.ro t25], 1, t31, (.pr (.pr (.own .sh) (.pr (.own .sh) .sh)) .sh), [0, 1, 2], [(1, 3)]⟩),
(73, ⟨[.ro t23, .ro t23], 1, t36, .sh, [0, 1, 2, 3, 4, 9, 14, 19, 24, 29, 34, 39], [(2, 0), (4, 0), (6, 0), (8, 0), (10, 0), (12, 0), (15, 0), (14, 0)]⟩),
(114, ⟨[.ro (.sl .str), .ro (.sl .str)], 1, t36, .sh, [0, 1, 4, 5, 10, 14, 25], [(2, 0), (8, 0), (7, 0)]⟩),
(192, ⟨[.ro t24, .ro t24], 1, t36, .sh, [0, 1, 2, 3, 4, 9, 14], [(2, 0), (5, 0), (4, 0)]⟩),
(115, ⟨[.ro (.sl t24), .ro (.sl t24)], 1, t36, .sh, [0, 1, 4, 5, 10, 14, 26], [(2, 0), (8, 0), (7, 0)]⟩),
(49, ⟨[.ro t25, .ro t25], 1, t36, .sh, [0, 1, 2, 3, 4, 10, 16], [(2, 0), (5, 0), (4, 0)]⟩),
(26, ⟨[.ro t26, .ro t26], 1, t36, .sh, [0, 1, 2, 3, 4, 9, 15, 21, 26, 31], [(2, 0), (4, 0), (6, 0), (8, 0), (11, 0), (10, 0)]⟩),
(212, ⟨[.ro t3, .ro t3], 1, t36, .sh, [0, 1, 2, 3, 4, 9, 14, 19], [(2, 0), (4, 0), (7, 0), (6, 0)]⟩),
(146, ⟨[.ro (.sl t3), .ro (.sl t3)], 1, t36, .sh, [0, 1, 4, 5, 10, 14, 26], [(2, 0), (8, 0), (7, 0)]⟩),
(74, ⟨[.ro t4, .ro t4], 1, t36, .sh, [0, 1, 2, 3, 4, 10], [(3, 0), (2, 0)]⟩),
(27, ⟨[.ro (.sl t4), .ro (.sl t4)], 1, t36, .sh, [0, 1, 4, 5, 10, 14, 26], [(2, 0), (8, 0), (7, 0)]⟩),
(14, ⟨[.ro t0, .ro t0], 1, t36, .sh, [0, 1, 4, 5, 10, 14, 25], [(2, 0), (8, 0), (7, 0)]⟩),
(193, ⟨[.ro (.int .i64)], 1, t2, .sh, [0, 2, 3, 5, 7], [(2, 0), (7, 2)]⟩),
(117, ⟨[.io (.sl .str) (.own .sh) (.own .sh) 0 [], .ro (.int .i64)], 1, t44, (.pr .sh (.pr (.own .sh) .sh)), [0, 1, 4, 5, 9], [(6, 1)]⟩),
(118, ⟨[.io (.sl t24) (.own .sh) (.own .sh) 0 [], .ro (.int .i64)], 1, t45, (.pr .sh (.pr (.own .sh) .sh)), [0, 1, 4, 5, 9], [(8, 1)]⟩),
(52, ⟨[.io t25 (.pr (.own .sh) (.pr (.own .sh) .sh)) (.pr (.own .sh) (.pr (.own .sh) .sh)) 2 [.der], .ro (.int .i64)], 1, t46, (.pr .sh (.pr (.pr (.own .sh) (.pr (.own .sh) .sh)) .sh)), [0, 1, 2, 4], [(3, 1)]⟩),
(28, ⟨[.io t26 (.pr .sh (.pr .sh (.pr (.pr (.own .sh) (.pr (.own .sh) .sh)) .sh))) (.pr .sh (.pr .sh (.pr (.pr (.own .sh) (.pr (.own .sh) .sh)) .sh))) 2 [.der], .ro (.int .i64)], 1, t47, (.pr .sh (.pr (.pr .sh (.pr .sh (.pr (.pr (.own .sh) (.pr (.own .sh) .sh)) .sh))) .sh)), [0, 1, 2, 4], [(2, 1)]⟩),
(75, ⟨[.io (.sl t3) (.own .sh) (.own .sh) 0 [], .ro (.int .i64)], 1, t48, (.pr .sh (.pr (.own .sh) .sh)), [0, 1, 4, 5, 9], [(10, 1)]⟩),
(29, ⟨[.io (.sl t4) (.own (.pr (.own .sh) .sh)) (.own (.pr (.own .sh) .sh)) 0 [], .ro (.int .i64)], 1, t49, (.pr .sh (.pr (.own (.pr (.own .sh) .sh)) .sh)), [0, 1, 4, 5, 9], [(5, 1)]⟩),
(15, ⟨[.io t0 (.own .sh) (.own .sh) 0 [], .ro (.int .i64)], 1, t50, (.pr .sh (.pr (.own .sh) .sh)), [0, 1, 4, 5, 9], [(6, 1)]⟩),
(119, ⟨[.ro (.sl .str), .ro (.int .i64)], 1, t11, .sh, [0, 1, 4, 5, 9, 18], [(7, 1), (5, 0)]⟩),
(120, ⟨[.ro (.sl t24), .ro (.int .i64)], 1, t11, .sh, [0, 1, 4, 5, 9, 18, 28], [(10, 1), (5, 0), (8, 0)]⟩),
(55, ⟨[.ro t25, .ro (.int .i64)], 1, t11, .sh, [0, 1, 2, 4, 10, 16], [(3, 0), (7, 1), (6, 0)]⟩),
(30, ⟨[.ro t26, .ro (.int .i64)], 1, t11, .sh, [0, 1, 2, 4, 10], [(4, 1), (3, 0)]⟩),
(147, ⟨[.ro t0], 1, t36, .sh, [0, 2, 3, 7, 15], mvD [(6, 0), (5, 0)] [(18, [2, 7, 15])]⟩),
(76, ⟨[.ro t26, .ro (.int .i64), .ro t0], 1, t11, .sh, [0, 1, 2, 3, 6, 7, 11, 15], [(7, 0), (2, 0), (4, 0), (6, 0)]⟩),
(148, ⟨[.ro t25, .ro t0], 1, t31, (.pr (.pr (.own .sh) (.pr (.own .sh) .sh)) .sh), [0, 1, 2, 4, 5, 6, 7, 8, 9, 10, 21, 26, 49, 50, 59], mvD [(16, 1)] [(130, [0, 7, 8, 9, 10, 21, 26, 49, 50, 59])]⟩),
(77, ⟨[.ro t26, .ro (.sl t4), .ro t0, .ro (.int .i64), .ro t0], 2, t40, .sh, [0, 1, 2, 3, 4, 5, 10, 11, 12, 13, 14, 15, 16, 19, 39, 45, 56], [(4, 2), (4, 3), (7, 2), (7, 3), (10, 2), (10, 3), (16, 1), (16, 2)]⟩),
(31, ⟨[.ro t26, .ro (.sl t4), .ro t0, .ro (.int .i64), .ro t0], 2, t40, (.pr (.pr .sh (.pr .sh (.pr (.pr (.own .sh) (.pr (.own .sh) .sh)) .sh))) .sh), [0, 1, 2, 3, 4, 5, 10, 11, 12, 13, 14, 15, 28, 35, 43], [(2, 1), (2, 2), (5, 2), (5, 3), (8, 2), (8, 3), (10, 3), (10, 4)]⟩),
(213, ⟨[.ro (.int .i64)], 1, t36, .sh, [0, 2], [(1, 2)]⟩),
(150, ⟨[.ro t0], 1, t36, .sh, [0, 2], [(1, 2)]⟩),
(78, ⟨[.ro (.int .i64), .ro t0], 1, t36, .sh, [0, 1, 4], [(1, 6)]⟩),
(79, ⟨[.ro t26, .ro t25, .ro t23, .ro (.int .i64), .ro t0], 1, t32, (.pr (.pr .sh (.pr .sh (.pr (.pr (.own .sh) (.pr (.own .sh) .sh)) .sh))) .sh), [0, 1, 2, 3, 4, 5, 6, 7, 10, 12, 21], [(7, 1)]⟩),
(32, ⟨[.ro t26, .ro (.sl t4), .ro t0, .ro (.int .i64), .ro t0], 2, t40, (.pr (.pr .sh (.pr .sh (.pr (.pr (.own .sh) (.pr (.own .sh) .sh)) .sh))) .sh), [0, 1, 2, 3, 4, 5, 10, 11, 12, 13, 14, 15, 18, 25, 31, 42], [(2, 1), (2, 2), (5, 2), (5, 3), (7, 1), (7, 2), (11, 6), (11, 7), (10, 3), (10, 4)]⟩),
(6, ⟨[.ro t26, .ro (.sl t4), .ro t0, .ro (.int .i64), .ro t0], 1, t36, .sh, [0, 1, 2, 3, 4, 5, 10, 11, 12, 13, 14, 15, 16, 17, 18, 19, 20, 21, 22, 23, 24, 27, 30, 35, 40, 79, 84, 89, 94, 99, 124, 132, 135, 157, 162, 165], [(2, 0), (4, 0), (8, 0), (11, 0), (19, 0), (21, 0), (23, 0), (25, 0), (27, 0), (34, 0), (40, 0), (42, 0), (45, 0), (49, 0), (52, 0), (51, 0)]⟩)]
noncomputable def EE : Env := ⟨Go.Proofs.Tryz.prog, lookC cfgs⟩
variable (R : Run EE) (L : Loops)
noncomputable def c_slices_Clone___int_int_ (x0 : List Int) : Option d51 := R 210 [⟨t0, x0⟩]
noncomputable def c_i_intsText (x0 : List Int) : Option d52 := R 275 [⟨t0, x0⟩]
noncomputable def c_i_textOf (x0 : List Int) (x1 : Int) : Option d52 := R 211 [⟨t0, x0⟩, ⟨(.int .i64), x1⟩]
noncomputable def c_i_entryText (x0 : List d54) (x1 : List Int) : Option d52 := R 142 [⟨(.sl t4), x0⟩, ⟨t0, x1⟩]
noncomputable def c_s_l02Bytes (x0 : List Int) (x1 : Int) : Option d51 := R 263 [⟨t5, x0⟩, ⟨(.int .i64), x1⟩]
noncomputable def c_s_l06Ints (x0 : List Int) : Option d52 := R 197 [⟨t0, x0⟩]
noncomputable def c_s_l12Fill (x0 : List Int) (x1 : Int) : Option d52 := R 266 [⟨t0, x0⟩, ⟨(.int .i64), x1⟩]
noncomputable def c_s_l12Entry (x0 : List d54) (x1 : List Int) : Option d52 := R 200 [⟨(.sl t4), x0⟩, ⟨t0, x1⟩]
noncomputable def c_s_l01Start : Option d51 := R 305 []
noncomputable def c_s_NewHash : Option d56 := R 250 []
noncomputable def c_s_l01Word (x0 : List UInt8) (x1 : Int) : Option d57 := R 341 [⟨.str, x0⟩, ⟨(.int .i64), x1⟩]
noncomputable def c_s_l01Right (x0 x1 : Int) : Option d57 := R 342 [⟨(.int .i64), x0⟩, ⟨(.int .i64), x1⟩]
noncomputable def c_s_l01Table : Option d51 := R 343 []
noncomputable def c_s_l01Block (x0 : List Int) (x1 : List UInt8) : Option d51 := R 304 [⟨t7, x0⟩, ⟨.str, x1⟩]
noncomputable def c_s_l01More (x0 : d55) (x1 : List UInt8) : Option d56 := R 249 [⟨t9, x0⟩, ⟨.str, x1⟩]
noncomputable def c_s_l01Sum (x0 : d55) : Option d52 := R 248 [⟨t9, x0⟩]
noncomputable def c_s_l01Of (x0 : List UInt8) : Option d52 := R 181 [⟨.str, x0⟩]
noncomputable def c_i_NewHash : Option d56 := R 257 []
noncomputable def c_i_constants : Option d51 := R 309 []
noncomputable def c_math_bits_RotateLeft32 (x0 x1 : Int) : Option d57 := R 367 [⟨(.int .u32), x0⟩, ⟨(.int .i64), x1⟩]
noncomputable def c_i_turned (x0 x1 : Int) : Option d57 := R 344 [⟨(.int .u32), x0⟩, ⟨(.int .i64), x1⟩]
noncomputable def c_pimpl_Hash_block (x0 : d55) (x1 : List UInt8) (x2 : List Int) : Option d56 := R 310 [⟨(.ptr t9), x0⟩, ⟨.str, x1⟩, ⟨(.ptr t14), x2⟩]
noncomputable def c_i_Hash_more (x0 : d55) (x1 : List UInt8) : Option d56 := R 258 [⟨t9, x0⟩, ⟨.str, x1⟩]
noncomputable def c_strings_Repeat (x0 : List UInt8) (x1 : Int) : Option d52 := R 311 [⟨.str, x0⟩, ⟨(.int .i64), x1⟩]
noncomputable def c_i_Hash_sum (x0 : d55) : Option d52 := R 259 [⟨t9, x0⟩]
noncomputable def c_i_digest (x0 : List UInt8) : Option d52 := R 190 [⟨.str, x0⟩]
noncomputable def c_i_little (x0 x1 : Int) : Option d52 := R 139 [⟨(.int .i64), x0⟩, ⟨(.int .i64), x1⟩]
noncomputable def c_i_littleWord (x0 : List UInt8) : Option d57 := R 332 [⟨.str, x0⟩]
noncomputable def c_i_quarter (x0 x1 x2 x3 : Int) : Option d58 := R 354 [⟨(.int .u32), x0⟩, ⟨(.int .u32), x1⟩, ⟨(.int .u32), x2⟩, ⟨(.int .u32), x3⟩]
noncomputable def c_i_stream (x0 x1 : List UInt8) (x2 : Int) : Option d52 := R 322 [⟨.str, x0⟩, ⟨.str, x1⟩, ⟨(.int .i64), x2⟩]
noncomputable def c_s_l02Word (x0 : List UInt8) (x1 : Int) : Option d57 := R 361 [⟨.str, x0⟩, ⟨(.int .i64), x1⟩]
noncomputable def c_s_l02Left (x0 x1 : Int) : Option d57 := R 382 [⟨(.int .i64), x0⟩, ⟨(.int .i64), x1⟩]
noncomputable def c_s_l02Quarter (x0 x1 x2 x3 : Int) : Option d51 := R 381 [⟨(.int .i64), x0⟩, ⟨(.int .i64), x1⟩, ⟨(.int .i64), x2⟩, ⟨(.int .i64), x3⟩]
noncomputable def c_s_l02Round (x0 : List Int) (x1 x2 x3 x4 : Int) : Option d51 := R 372 [⟨t21, x0⟩, ⟨(.int .i64), x1⟩, ⟨(.int .i64), x2⟩, ⟨(.int .i64), x3⟩, ⟨(.int .i64), x4⟩]
noncomputable def c_s_l02Block (x0 x1 : List UInt8) (x2 : Int) : Option d52 := R 349 [⟨.str, x0⟩, ⟨.str, x1⟩, ⟨(.int .i64), x2⟩]
noncomputable def c_i_xor (x0 x1 : List UInt8) : Option d52 := R 321 [⟨.str, x0⟩, ⟨.str, x1⟩]
noncomputable def c_s_l02Xor (x0 x1 : List UInt8) (x2 : Int) (x3 : List UInt8) : Option d52 := R 313 [⟨.str, x0⟩, ⟨.str, x1⟩, ⟨(.int .i64), x2⟩, ⟨.str, x3⟩]
noncomputable def c_l_szRegister (x0 : d59) (x1 : Int) : Option d57 := R 60 [⟨t23, x0⟩, ⟨(.int .i64), x1⟩]
noncomputable def c_l_szStringS (x0 : List (List UInt8)) (x1 : Int) : Option d57 := R 122 [⟨(.sl .str), x0⟩, ⟨(.int .i64), x1⟩]
noncomputable def c_l_szIo (x0 : d60) (x1 : Int) : Option d57 := R 195 [⟨t24, x0⟩, ⟨(.int .i64), x1⟩]
noncomputable def c_l_szIoS (x0 : List d60) (x1 : Int) : Option d57 := R 123 [⟨(.sl t24), x0⟩, ⟨(.int .i64), x1⟩]
noncomputable def c_l_szDevice (x0 : d61) (x1 : Int) : Option d57 := R 61 [⟨t25, x0⟩, ⟨(.int .i64), x1⟩]
noncomputable def c_l_szStore (x0 : d62) (x1 : Int) : Option d57 := R 20 [⟨t26, x0⟩, ⟨(.int .i64), x1⟩]
noncomputable def c_l_szOpS (x0 : List d53) (x1 : Int) : Option d57 := R 124 [⟨(.sl t3), x0⟩, ⟨(.int .i64), x1⟩]
noncomputable def c_l_szTxn (x0 : d54) (x1 : Int) : Option d57 := R 62 [⟨t4, x0⟩, ⟨(.int .i64), x1⟩]
noncomputable def c_l_szTxnS (x0 : List d54) (x1 : Int) : Option d57 := R 21 [⟨(.sl t4), x0⟩, ⟨(.int .i64), x1⟩]
noncomputable def c_l_toRegister (x0 : d59) : Option d63 := R 66 [⟨t23, x0⟩]
noncomputable def c_l_toStringS (x0 : List (List UInt8)) : Option d64 := R 132 [⟨(.sl .str), x0⟩]
noncomputable def c_l_toIo (x0 : d60) : Option d65 := R 202 [⟨t24, x0⟩]
noncomputable def c_l_toIoS (x0 : List d60) : Option d66 := R 133 [⟨(.sl t24), x0⟩]
noncomputable def c_l_toDevice (x0 : d61) : Option d67 := R 67 [⟨t25, x0⟩]
noncomputable def c_l_toStore (x0 : d62) : Option d68 := R 23 [⟨t26, x0⟩]
noncomputable def c_l_toOp (x0 : d53) : Option d69 := R 203 [⟨t3, x0⟩]
noncomputable def c_l_toOpS (x0 : List d53) : Option d54 := R 134 [⟨(.sl t3), x0⟩]
noncomputable def c_l_toTxn (x0 : d54) : Option d70 := R 68 [⟨t4, x0⟩]
noncomputable def c_l_toTxnS (x0 : List d54) : Option d71 := R 24 [⟨(.sl t4), x0⟩]
noncomputable def c_l_toIntS (x0 : List Int) : Option d51 := R 11 [⟨t0, x0⟩]
noncomputable def c_s_l01In (x0 x1 x2 : Int) : Option d72 := R 102 [⟨(.int .i64), x0⟩, ⟨(.int .i64), x1⟩, ⟨(.int .i64), x2⟩]
noncomputable def c_s_l08Leaves (x0 : List Int) : Option d72 := R 44 [⟨t0, x0⟩]
noncomputable def c_s_l11Draws (x0 : List Int) (x1 : Int) : Option d57 := R 125 [⟨t0, x0⟩, ⟨(.int .i64), x1⟩]
noncomputable def c_s_RegisterOK (x0 : d59) : Option d72 := R 151 [⟨t23, x0⟩]
noncomputable def c_s_l05In (x0 : Int) : Option d72 := R 214 [⟨(.int .i64), x0⟩]
noncomputable def c_s_DeviceOK (x0 : d61) : Option d72 := R 152 [⟨t25, x0⟩]
noncomputable def c_s_StoreOK (x0 : d62) : Option d72 := R 80 [⟨t26, x0⟩]
noncomputable def c_s_OpOK (x0 : d53) : Option d72 := R 262 [⟨t3, x0⟩]
noncomputable def c_s_l09Txn (x0 : d54) : Option d72 := R 196 [⟨t4, x0⟩]
noncomputable def c_s_BatchOK (x0 : List d54) : Option d72 := R 126 [⟨(.sl t4), x0⟩]
noncomputable def c_s_l13Batch (x0 : d62) (x1 : List d54) (x2 : List Int) : Option d57 := R 63 [⟨t26, x0⟩, ⟨(.sl t4), x1⟩, ⟨t0, x2⟩]
noncomputable def c_s_l13Ask (x0 : d62) : Option d57 := R 127 [⟨t26, x0⟩]
noncomputable def c_s_l13Room (x0 : d62) : Option d57 := R 128 [⟨t26, x0⟩]
noncomputable def c_s_l13Number (x0 x1 : Int) : Option d57 := R 199 [⟨(.int .i64), x0⟩, ⟨(.int .i64), x1⟩]
noncomputable def c_s_l04Eight (x0 : Int) : Option d52 := R 312 [⟨(.int .i64), x0⟩]
noncomputable def c_s_l06Nonce (x0 x1 x2 : Int) : Option d52 := R 264 [⟨(.int .i64), x0⟩, ⟨(.int .i64), x1⟩, ⟨(.int .i64), x2⟩]
noncomputable def c_s_l04Pad (x0 : List UInt8) : Option d52 := R 351 [⟨.str, x0⟩]
noncomputable def c_s_l03Clamp (x0 : List UInt8) : Option d52 := R 374 [⟨.str, x0⟩]
noncomputable def c_s_l03Parts (x0 : List UInt8) : Option d51 := R 373 [⟨.str, x0⟩]
noncomputable def c_s_l03Carry (x0 : List Int) : Option d51 := R 377 [⟨t37, x0⟩]
noncomputable def c_s_l03Times (x0 x1 : List Int) : Option d51 := R 375 [⟨t37, x0⟩, ⟨t37, x1⟩]
noncomputable def c_s_l03Less (x0 : List Int) : Option d51 := R 376 [⟨t37, x0⟩]
noncomputable def c_s_l03Tag (x0 x1 : List UInt8) : Option d52 := R 350 [⟨.str, x0⟩, ⟨.str, x1⟩]
noncomputable def c_s_l04Tag (x0 x1 x2 x3 : List UInt8) : Option d52 := R 314 [⟨.str, x0⟩, ⟨.str, x1⟩, ⟨.str, x2⟩, ⟨.str, x3⟩]
noncomputable def c_s_l04Seal (x0 x1 x2 x3 : List UInt8) : Option d52 := R 265 [⟨.str, x0⟩, ⟨.str, x1⟩, ⟨.str, x2⟩, ⟨.str, x3⟩]
noncomputable def c_s_l06Seal (x0 : List UInt8) (x1 x2 x3 : Int) (x4 : List UInt8) : Option d52 := R 198 [⟨.str, x0⟩, ⟨(.int .i64), x1⟩, ⟨(.int .i64), x2⟩, ⟨(.int .i64), x3⟩, ⟨.str, x4⟩]
noncomputable def c_s_l05Write (x0 : d61) (x1 : Int) (x2 : List UInt8) : Option d67 := R 201 [⟨t25, x0⟩, ⟨(.int .i64), x1⟩, ⟨.str, x2⟩]
noncomputable def c_s_l13Entry (x0 : d62) (x1 : List d54) (x2 : List Int) : Option d73 := R 129 [⟨t26, x0⟩, ⟨(.sl t4), x1⟩, ⟨t0, x2⟩]
noncomputable def c_s_l05Sync (x0 : d61) : Option d67 := R 130 [⟨t25, x0⟩]
noncomputable def c_s_l07Chain (x0 x1 : List UInt8) : Option d52 := R 131 [⟨.str, x0⟩, ⟨.str, x1⟩]
noncomputable def c_s_l13Submit (x0 : d62) (x1 : List d54) (x2 : List Int) : Option d74 := R 64 [⟨t26, x0⟩, ⟨(.sl t4), x1⟩, ⟨t0, x2⟩]
noncomputable def c_s_l05Own (x0 : d61) : Option d67 := R 103 [⟨t25, x0⟩]
noncomputable def c_s_l13Own (x0 : d62) : Option d68 := R 65 [⟨t26, x0⟩]
noncomputable def c_i_areAll_int__1 (x0 : Int) (x1 : FnVal) : Option d72 := R 268 [⟨(.int .i64), x0⟩, ⟨(.ptr .fn), x1⟩]
noncomputable def c_slices_IndexFunc___int_int_ (x0 : List Int) (x1 : FnVal) : Option d57 := R 315 [⟨t0, x0⟩, ⟨.fn, x1⟩]
noncomputable def c_slices_ContainsFunc___int_int_ (x0 : List Int) (x1 : FnVal) : Option d72 := R 267 [⟨t0, x0⟩, ⟨.fn, x1⟩]
noncomputable def c_i_areAll_int_ (x0 : List Int) (x1 : FnVal) : Option d72 := R 204 [⟨t0, x0⟩, ⟨.fn, x1⟩]
noncomputable def c_i_within (x0 x1 x2 : Int) : Option d72 := R 149 [⟨(.int .i64), x0⟩, ⟨(.int .i64), x1⟩, ⟨(.int .i64), x2⟩]
noncomputable def c_i_isLeaf (x0 : Int) : Option d72 := R 205 [⟨(.int .i64), x0⟩]
noncomputable def c_i_drawsCode (x0 : List Int) (x1 : Int) : Option d57 := R 135 [⟨t0, x0⟩, ⟨(.int .i64), x1⟩]
noncomputable def c_i_isDigest (x0 : List UInt8) : Option d72 := R 220 [⟨.str, x0⟩]
noncomputable def c_i_Register_waiting (x0 : d59) : Option d57 := R 137 [⟨t23, x0⟩]
noncomputable def c_i_RegisterOK (x0 : d59) : Option d72 := R 156 [⟨t23, x0⟩]
noncomputable def c_i_areAll_string__1 (x0 : List UInt8) (x1 : FnVal) : Option d72 := R 254 [⟨.str, x0⟩, ⟨(.ptr .fn), x1⟩]
noncomputable def c_slices_IndexFunc___string_string_ (x0 : List (List UInt8)) (x1 : FnVal) : Option d57 := R 308 [⟨(.sl .str), x0⟩, ⟨.fn, x1⟩]
noncomputable def c_slices_ContainsFunc___string_string_ (x0 : List (List UInt8)) (x1 : FnVal) : Option d72 := R 253 [⟨(.sl .str), x0⟩, ⟨.fn, x1⟩]
noncomputable def c_i_areAll_string_ (x0 : List (List UInt8)) (x1 : FnVal) : Option d72 := R 185 [⟨(.sl .str), x0⟩, ⟨.fn, x1⟩]
noncomputable def c_i_isContent (x0 : List UInt8) : Option d72 := R 285 [⟨.str, x0⟩]
noncomputable def c_i_areAll_i_Io__1 (x0 : d60) (x1 : FnVal) : Option d72 := R 331 [⟨t24, x0⟩, ⟨(.ptr .fn), x1⟩]
noncomputable def c_slices_IndexFunc___i_Io_i_Io_ (x0 : List d60) (x1 : FnVal) : Option d57 := R 363 [⟨(.sl t24), x0⟩, ⟨.fn, x1⟩]
noncomputable def c_slices_ContainsFunc___i_Io_i_Io_ (x0 : List d60) (x1 : FnVal) : Option d72 := R 330 [⟨(.sl t24), x0⟩, ⟨.fn, x1⟩]
noncomputable def c_i_areAll_i_Io_ (x0 : List d60) (x1 : FnVal) : Option d72 := R 286 [⟨(.sl t24), x0⟩, ⟨.fn, x1⟩]
noncomputable def c_i_isSector (x0 : Int) : Option d72 := R 288 [⟨(.int .i64), x0⟩]
noncomputable def c_i_DeviceOK_1 (x0 : d60) : Option d72 := R 287 [⟨t24, x0⟩]
noncomputable def c_i_DeviceOK (x0 : d61) : Option d72 := R 221 [⟨t25, x0⟩]
noncomputable def c_i_isSure (x0 : d61) : Option d72 := R 157 [⟨t25, x0⟩]
noncomputable def c_i_StoreOK (x0 : d62) : Option d72 := R 82 [⟨t26, x0⟩]
noncomputable def c_i_areAll_i_Txn__1 (x0 : d54) (x1 : FnVal) : Option d72 := R 270 [⟨t4, x0⟩, ⟨(.ptr .fn), x1⟩]
noncomputable def c_slices_IndexFunc___i_Txn_i_Txn_ (x0 : List d54) (x1 : FnVal) : Option d57 := R 316 [⟨(.sl t4), x0⟩, ⟨.fn, x1⟩]
noncomputable def c_slices_ContainsFunc___i_Txn_i_Txn_ (x0 : List d54) (x1 : FnVal) : Option d72 := R 269 [⟨(.sl t4), x0⟩, ⟨.fn, x1⟩]
noncomputable def c_i_areAll_i_Txn_ (x0 : List d54) (x1 : FnVal) : Option d72 := R 206 [⟨(.sl t4), x0⟩, ⟨.fn, x1⟩]
noncomputable def c_i_areAll_i_Op__1 (x0 : d53) (x1 : FnVal) : Option d72 := R 318 [⟨t3, x0⟩, ⟨(.ptr .fn), x1⟩]
noncomputable def c_slices_IndexFunc___i_Op_i_Op_ (x0 : List d53) (x1 : FnVal) : Option d57 := R 352 [⟨(.sl t3), x0⟩, ⟨.fn, x1⟩]
noncomputable def c_slices_ContainsFunc___i_Op_i_Op_ (x0 : List d53) (x1 : FnVal) : Option d72 := R 317 [⟨(.sl t3), x0⟩, ⟨.fn, x1⟩]
noncomputable def c_i_areAll_i_Op_ (x0 : List d53) (x1 : FnVal) : Option d72 := R 271 [⟨(.sl t3), x0⟩, ⟨.fn, x1⟩]
noncomputable def c_i_isKey (x0 : Int) : Option d72 := R 228 [⟨(.int .i64), x0⟩]
noncomputable def c_i_isBare (x0 : Int) : Option d72 := R 319 [⟨(.int .i64), x0⟩]
noncomputable def c_i_isValue (x0 : Int) : Option d72 := R 235 [⟨(.int .i64), x0⟩]
noncomputable def c_i_OpOK (x0 : d53) : Option d72 := R 272 [⟨t3, x0⟩]
noncomputable def c_i_isTxn (x0 : d54) : Option d72 := R 207 [⟨t4, x0⟩]
noncomputable def c_i_BatchOK (x0 : List d54) : Option d72 := R 136 [⟨(.sl t4), x0⟩]
noncomputable def c_i_submitCode (x0 : d62) (x1 : List d54) (x2 : List Int) : Option d57 := R 69 [⟨t26, x0⟩, ⟨(.sl t4), x1⟩, ⟨t0, x2⟩]
noncomputable def c_i_Store_upCode (x0 : d62) : Option d57 := R 87 [⟨t26, x0⟩]
noncomputable def c_i_entrySector (x0 : Int) : Option d57 := R 138 [⟨(.int .i64), x0⟩]
noncomputable def c_i_logEpoch (x0 x1 : Int) : Option d57 := R 141 [⟨(.int .i64), x0⟩, ⟨(.int .i64), x1⟩]
noncomputable def c_i_nonceOf (x0 x1 x2 : Int) : Option d52 := R 209 [⟨(.int .i64), x0⟩, ⟨(.int .i64), x1⟩, ⟨(.int .i64), x2⟩]
noncomputable def c_i_chaXor (x0 x1 : List UInt8) (x2 : Int) (x3 : List UInt8) : Option d52 := R 273 [⟨.str, x0⟩, ⟨.str, x1⟩, ⟨(.int .i64), x2⟩, ⟨.str, x3⟩]
noncomputable def c_i_padded (x0 : List UInt8) : Option d52 := R 325 [⟨.str, x0⟩]
noncomputable def c_i_clamped (x0 : List UInt8) : Option d52 := R 356 [⟨.str, x0⟩]
noncomputable def c_i_limbsOf (x0 : List UInt8) : Option d51 := R 355 [⟨.str, x0⟩]
noncomputable def c_i_limbs_carried (x0 : List Int) : Option d51 := R 379 [⟨t41, x0⟩]
noncomputable def c_i_limbs_plus (x0 x1 : List Int) : Option d51 := R 357 [⟨t41, x0⟩, ⟨t41, x1⟩]
noncomputable def c_i_limbs_times (x0 x1 : List Int) : Option d51 := R 358 [⟨t41, x0⟩, ⟨t41, x1⟩]
noncomputable def c_i_limbs_reduced (x0 : List Int) : Option d51 := R 359 [⟨t41, x0⟩]
noncomputable def c_i_limbs_bytes (x0 : List Int) (x1 : List UInt8) : Option d52 := R 360 [⟨t41, x0⟩, ⟨.str, x1⟩]
noncomputable def c_i_tag (x0 x1 : List UInt8) : Option d52 := R 324 [⟨.str, x0⟩, ⟨.str, x1⟩]
noncomputable def c_i_boxTag (x0 x1 x2 x3 : List UInt8) : Option d52 := R 274 [⟨.str, x0⟩, ⟨.str, x1⟩, ⟨.str, x2⟩, ⟨.str, x3⟩]
noncomputable def c_i_seal (x0 x1 x2 x3 : List UInt8) : Option d52 := R 208 [⟨.str, x0⟩, ⟨.str, x1⟩, ⟨.str, x2⟩, ⟨.str, x3⟩]
noncomputable def c_i_sealed (x0 : List UInt8) (x1 x2 x3 : Int) (x4 : List UInt8) : Option d52 := R 140 [⟨.str, x0⟩, ⟨(.int .i64), x1⟩, ⟨(.int .i64), x2⟩, ⟨(.int .i64), x3⟩, ⟨.str, x4⟩]
noncomputable def c_i_chain (x0 x1 : List UInt8) : Option d52 := R 143 [⟨.str, x0⟩, ⟨.str, x1⟩]
noncomputable def c_slices_Clone___string_string_ (x0 : List (List UInt8)) : Option d64 := R 112 [⟨(.sl .str), x0⟩]
noncomputable def c_slices_Clone___i_Io_i_Io_ (x0 : List d60) : Option d66 := R 113 [⟨(.sl t24), x0⟩]
noncomputable def c_i_Device_own (x0 : d61) : Option d67 := R 48 [⟨t25, x0⟩]
noncomputable def c_i_Device_write (x0 : d61) (x1 : Int) (x2 : List UInt8) : Option d67 := R 144 [⟨t25, x0⟩, ⟨(.int .i64), x1⟩, ⟨.str, x2⟩]
noncomputable def c_i_Store_submission (x0 : d62) (x1 : List d54) (x2 : List Int) : Option d75 := R 70 [⟨t26, x0⟩, ⟨(.sl t4), x1⟩, ⟨t0, x2⟩]
noncomputable def c_i_Store_own (x0 : d62) : Option d68 := R 71 [⟨t26, x0⟩]
noncomputable def c_i_Device_crash (x0 : d61) (x1 : List Int) : Option d67 := R 145 [⟨t25, x0⟩, ⟨t0, x1⟩]
noncomputable def c_i_Device_sync (x0 : d61) : Option d67 := R 72 [⟨t25, x0⟩]
noncomputable def c_l_eqRegister (x0 x1 : d59) : Option d72 := R 73 [⟨t23, x0⟩, ⟨t23, x1⟩]
noncomputable def c_l_eqStringS (x0 x1 : List (List UInt8)) : Option d72 := R 114 [⟨(.sl .str), x0⟩, ⟨(.sl .str), x1⟩]
noncomputable def c_l_eqIo (x0 x1 : d60) : Option d72 := R 192 [⟨t24, x0⟩, ⟨t24, x1⟩]
noncomputable def c_l_eqIoS (x0 x1 : List d60) : Option d72 := R 115 [⟨(.sl t24), x0⟩, ⟨(.sl t24), x1⟩]
noncomputable def c_l_eqDevice (x0 x1 : d61) : Option d72 := R 49 [⟨t25, x0⟩, ⟨t25, x1⟩]
noncomputable def c_l_eqStore (x0 x1 : d62) : Option d72 := R 26 [⟨t26, x0⟩, ⟨t26, x1⟩]
noncomputable def c_l_eqOp (x0 x1 : d53) : Option d72 := R 212 [⟨t3, x0⟩, ⟨t3, x1⟩]
noncomputable def c_l_eqOpS (x0 x1 : List d53) : Option d72 := R 146 [⟨(.sl t3), x0⟩, ⟨(.sl t3), x1⟩]
noncomputable def c_l_eqTxn (x0 x1 : d54) : Option d72 := R 74 [⟨t4, x0⟩, ⟨t4, x1⟩]
noncomputable def c_l_eqTxnS (x0 x1 : List d54) : Option d72 := R 27 [⟨(.sl t4), x0⟩, ⟨(.sl t4), x1⟩]
noncomputable def c_l_eqIntS (x0 x1 : List Int) : Option d72 := R 14 [⟨t0, x0⟩, ⟨t0, x1⟩]
noncomputable def c_l_markText (x0 : Int) : Option d52 := R 193 [⟨(.int .i64), x0⟩]
noncomputable def c_l_markStringS (x0 : List (List UInt8)) (x1 : Int) : Option d76 := R 117 [⟨(.sl .str), x0⟩, ⟨(.int .i64), x1⟩]
noncomputable def c_l_markIoS (x0 : List d60) (x1 : Int) : Option d77 := R 118 [⟨(.sl t24), x0⟩, ⟨(.int .i64), x1⟩]
noncomputable def c_l_markDevice (x0 : d61) (x1 : Int) : Option d78 := R 52 [⟨t25, x0⟩, ⟨(.int .i64), x1⟩]
noncomputable def c_l_markStore (x0 : d62) (x1 : Int) : Option d79 := R 28 [⟨t26, x0⟩, ⟨(.int .i64), x1⟩]
noncomputable def c_l_markOpS (x0 : List d53) (x1 : Int) : Option d80 := R 75 [⟨(.sl t3), x0⟩, ⟨(.int .i64), x1⟩]
noncomputable def c_l_markTxnS (x0 : List d54) (x1 : Int) : Option d81 := R 29 [⟨(.sl t4), x0⟩, ⟨(.int .i64), x1⟩]
noncomputable def c_l_markIntS (x0 : List Int) (x1 : Int) : Option d82 := R 15 [⟨t0, x0⟩, ⟨(.int .i64), x1⟩]
noncomputable def c_l_heldStringS (x0 : List (List UInt8)) (x1 : Int) : Option d57 := R 119 [⟨(.sl .str), x0⟩, ⟨(.int .i64), x1⟩]
noncomputable def c_l_heldIoS (x0 : List d60) (x1 : Int) : Option d57 := R 120 [⟨(.sl t24), x0⟩, ⟨(.int .i64), x1⟩]
noncomputable def c_l_heldDevice (x0 : d61) (x1 : Int) : Option d57 := R 55 [⟨t25, x0⟩, ⟨(.int .i64), x1⟩]
noncomputable def c_l_heldStore (x0 : d62) (x1 : Int) : Option d57 := R 30 [⟨t26, x0⟩, ⟨(.int .i64), x1⟩]
noncomputable def c_s_l05Fates (x0 : List Int) : Option d72 := R 147 [⟨t0, x0⟩]
noncomputable def c_s_l13Torn (x0 : d62) (x1 : Int) (x2 : List Int) : Option d57 := R 76 [⟨t26, x0⟩, ⟨(.int .i64), x1⟩, ⟨t0, x2⟩]
noncomputable def c_s_l05Crash (x0 : d61) (x1 : List Int) : Option d67 := R 148 [⟨t25, x0⟩, ⟨t0, x1⟩]
noncomputable def c_s_l13SubmitTorn (x0 : d62) (x1 : List d54) (x2 : List Int) (x3 : Int) (x4 : List Int) : Option d74 := R 77 [⟨t26, x0⟩, ⟨(.sl t4), x1⟩, ⟨t0, x2⟩, ⟨(.int .i64), x3⟩, ⟨t0, x4⟩]
noncomputable def c_s_SubmitTorn (x0 : d62) (x1 : List d54) (x2 : List Int) (x3 : Int) (x4 : List Int) : Option d74 := R 31 [⟨t26, x0⟩, ⟨(.sl t4), x1⟩, ⟨t0, x2⟩, ⟨(.int .i64), x3⟩, ⟨t0, x4⟩]
noncomputable def c_i_areFates_1 (x0 : Int) : Option d72 := R 213 [⟨(.int .i64), x0⟩]
noncomputable def c_i_areFates (x0 : List Int) : Option d72 := R 150 [⟨t0, x0⟩]
noncomputable def c_i_isTear (x0 : Int) (x1 : List Int) : Option d72 := R 78 [⟨(.int .i64), x0⟩, ⟨t0, x1⟩]
noncomputable def c_i_Store_torn (x0 : d62) (x1 : d61) (x2 : d59) (x3 : Int) (x4 : List Int) : Option d68 := R 79 [⟨t26, x0⟩, ⟨t25, x1⟩, ⟨t23, x2⟩, ⟨(.int .i64), x3⟩, ⟨t0, x4⟩]
noncomputable def c_i_SubmitTorn (x0 : d62) (x1 : List d54) (x2 : List Int) (x3 : Int) (x4 : List Int) : Option d74 := R 32 [⟨t26, x0⟩, ⟨(.sl t4), x1⟩, ⟨t0, x2⟩, ⟨(.int .i64), x3⟩, ⟨t0, x4⟩]
noncomputable def c_l_FnExactSubmitTorn (x0 : d62) (x1 : List d54) (x2 : List Int) (x3 : Int) (x4 : List Int) : Option d72 := R 6 [⟨t26, x0⟩, ⟨(.sl t4), x1⟩, ⟨t0, x2⟩, ⟨(.int .i64), x3⟩, ⟨t0, x4⟩]
noncomputable def lp_i_entryText_0 (v5 : List Int) (v16 : List d54) (v17 v18 : Int) (p : List Nat := [1, 1, 0, 1, 0]) : Option d52 := from_ EE R L 142 Go.Proofs.Tryz.f142 p (mk 48 [(5, .dat ⟨t0, v5, (.own .sh)⟩), (16, .dat ⟨(.sl t4), v16, .sh⟩), (17, .dat ⟨(.int .i64), v17, .sh⟩), (18, .dat ⟨(.int .i64), v18, .sh⟩)])
noncomputable def lp_i_entryText_1 (v5 : List Int) (v16 : List d54) (v17 v18 : Int) (v29 : List d53) (v30 v31 : Int) (p : List Nat := [1, 1, 0, 1, 0, 0, 1, 1, 0, 0, 1, 1, 1, 0]) : Option d52 := from_ EE R L 142 Go.Proofs.Tryz.f142 p (mk 48 [(5, .dat ⟨t0, v5, (.own .sh)⟩), (16, .dat ⟨(.sl t4), v16, .sh⟩), (17, .dat ⟨(.int .i64), v17, .sh⟩), (18, .dat ⟨(.int .i64), v18, .sh⟩), (29, .dat ⟨(.sl t3), v29, .sh⟩), (30, .dat ⟨(.int .i64), v30, .sh⟩), (31, .dat ⟨(.int .i64), v31, .sh⟩)])
noncomputable def lp_s_l06Ints_0 (v0 v3 : List Int) (v4 : Int) (p : List Nat := [1, 1, 0, 1, 0]) : Option d52 := from_ EE R L 197 Go.Proofs.Tryz.f197 p (mk 20 [(0, .dat ⟨t0, v0, .sh⟩), (3, .dat ⟨t5, v3, (.own .sh)⟩), (4, .dat ⟨(.int .i64), v4, .sh⟩)])
noncomputable def lp_s_l12Fill_0 (v0 : List Int) (v1 : Int) (p : List Nat := [1, 0, 0]) : Option d52 := from_ EE R L 266 Go.Proofs.Tryz.f266 p (mk 14 [(0, .dat ⟨t0, v0, (.own .sh)⟩), (1, .dat ⟨(.int .i64), v1, .sh⟩)])
noncomputable def lp_s_l12Entry_0 (v0 : List d54) (v5 : List Int) (v6 : Int) (p : List Nat := [1, 1, 0, 1, 0]) : Option d52 := from_ EE R L 200 Go.Proofs.Tryz.f200 p (mk 60 [(0, .dat ⟨(.sl t4), v0, .sh⟩), (5, .dat ⟨t0, v5, (.own .sh)⟩), (6, .dat ⟨(.int .i64), v6, .sh⟩)])
noncomputable def lp_s_l12Entry_1 (v0 : List d54) (v5 : List Int) (v6 v7 : Int) (p : List Nat := [1, 1, 0, 1, 0, 0, 1, 0, 0, 1, 1, 0]) : Option d52 := from_ EE R L 200 Go.Proofs.Tryz.f200 p (mk 60 [(0, .dat ⟨(.sl t4), v0, .sh⟩), (5, .dat ⟨t0, v5, (.own .sh)⟩), (6, .dat ⟨(.int .i64), v6, .sh⟩), (7, .dat ⟨(.int .i64), v7, .sh⟩)])
noncomputable def lp_s_l01Block_0 (v1 : List UInt8) (v2 v4 v5 : List Int) (v6 : Int) (p : List Nat := [1, 1, 0, 1, 0]) : Option d51 := from_ EE R L 304 Go.Proofs.Tryz.f304 p (mk 194 [(1, .dat ⟨.str, v1, .sh⟩), (2, .dat ⟨(.ptr t7), v2, (.own .sh)⟩), (4, .dat ⟨(.ptr t7), v4, (.own .sh)⟩), (5, .dat ⟨(.ptr t12), v5, (.own .sh)⟩), (6, .dat ⟨(.int .i64), v6, .sh⟩)])
noncomputable def lp_s_l01Block_1 (v2 v4 v5 : List Int) (v7 : Int) (p : List Nat := [1, 1, 1, 0, 1, 0]) : Option d51 := from_ EE R L 304 Go.Proofs.Tryz.f304 p (mk 194 [(2, .dat ⟨(.ptr t7), v2, (.own .sh)⟩), (4, .dat ⟨(.ptr t7), v4, (.own .sh)⟩), (5, .dat ⟨(.ptr t12), v5, (.own .sh)⟩), (7, .dat ⟨(.int .i64), v7, .sh⟩)])
noncomputable def lp_s_l01Block_2 (v2 v4 v5 v10 v11 : List Int) (v12 : Int) (p : List Nat := [1, 1, 1, 1, 1, 1, 0, 1, 0]) : Option d51 := from_ EE R L 304 Go.Proofs.Tryz.f304 p (mk 194 [(2, .dat ⟨(.ptr t7), v2, (.own .sh)⟩), (4, .dat ⟨(.ptr t7), v4, (.own .sh)⟩), (5, .dat ⟨(.ptr t12), v5, (.own .sh)⟩), (10, .dat ⟨(.ptr t12), v10, (.own .sh)⟩), (11, .dat ⟨(.ptr t7), v11, (.own .sh)⟩), (12, .dat ⟨(.int .i64), v12, .sh⟩)])
noncomputable def lp_s_l01Block_3 (v2 v4 v11 : List Int) (v18 : Int) (p : List Nat := [1, 1, 1, 1, 1, 1, 1, 0, 1, 0]) : Option d51 := from_ EE R L 304 Go.Proofs.Tryz.f304 p (mk 194 [(2, .dat ⟨(.ptr t7), v2, (.own .sh)⟩), (4, .dat ⟨(.ptr t7), v4, (.own .sh)⟩), (11, .dat ⟨(.ptr t7), v11, (.own .sh)⟩), (18, .dat ⟨(.int .i64), v18, .sh⟩)])
noncomputable def lp_s_l01More_0 (v2 v4 : d55) (p : List Nat := [1, 1, 1, 0, 0]) : Option d56 := from_ EE R L 249 Go.Proofs.Tryz.f249 p (mk 31 [(2, .dat ⟨(.ptr t9), v2, (.own .sh)⟩), (4, .dat ⟨(.ptr t9), v4, (.own .sh)⟩)])
noncomputable def lp_s_l01Sum_0 (v1 : d55) (v3 : Int) (v4 : List Int) (p : List Nat := [1, 1, 1, 0, 0]) : Option d52 := from_ EE R L 248 Go.Proofs.Tryz.f248 p (mk 61 [(1, .dat ⟨(.ptr t9), v1, (.own .sh)⟩), (3, .dat ⟨(.int .i64), v3, .sh⟩), (4, .dat ⟨t5, v4, (.own .sh)⟩)])
noncomputable def lp_s_l01Sum_1 (v1 : d55) (v3 : Int) (v4 : List Int) (v5 : Int) (p : List Nat := [1, 1, 1, 1, 0, 1, 0]) : Option d52 := from_ EE R L 248 Go.Proofs.Tryz.f248 p (mk 61 [(1, .dat ⟨(.ptr t9), v1, (.own .sh)⟩), (3, .dat ⟨(.int .i64), v3, .sh⟩), (4, .dat ⟨t5, v4, (.own .sh)⟩), (5, .dat ⟨(.int .i64), v5, .sh⟩)])
noncomputable def lp_s_l01Sum_2 (v1 : d55) (v6 : List Int) (v7 : Int) (p : List Nat := [1, 1, 1, 1, 1, 1, 1, 0, 1, 0]) : Option d52 := from_ EE R L 248 Go.Proofs.Tryz.f248 p (mk 61 [(1, .dat ⟨(.ptr t9), v1, (.own .sh)⟩), (6, .dat ⟨t5, v6, (.own .sh)⟩), (7, .dat ⟨(.int .i64), v7, .sh⟩)])
noncomputable def lp_s_l01Sum_3 (v1 : d55) (v6 : List Int) (v7 v8 : Int) (p : List Nat := [1, 1, 1, 1, 1, 1, 1, 0, 1, 0, 0, 1, 0, 0, 1, 0]) : Option d52 := from_ EE R L 248 Go.Proofs.Tryz.f248 p (mk 61 [(1, .dat ⟨(.ptr t9), v1, (.own .sh)⟩), (6, .dat ⟨t5, v6, (.own .sh)⟩), (7, .dat ⟨(.int .i64), v7, .sh⟩), (8, .dat ⟨(.int .i64), v8, .sh⟩)])
noncomputable def lp_pimpl_Hash_block_0 (v0 : d55) (v1 : List UInt8) (v2 v6 : List Int) (v25 : Int) (p : List Nat := [1, 0, 1, 0]) : Option d56 := from_ EE R L 310 Go.Proofs.Tryz.f310 p (mk 215 [(0, .dat ⟨(.ptr t9), v0, (.pin 0 (.own .sh))⟩), (1, .dat ⟨.str, v1, .sh⟩), (2, .dat ⟨(.ptr t14), v2, .sh⟩), (6, .dat ⟨(.ptr t14), v6, (.own .sh)⟩), (25, .dat ⟨(.int .i64), v25, .sh⟩)])
noncomputable def lp_pimpl_Hash_block_1 (v0 : d55) (v2 v6 : List Int) (v8 : Int) (p : List Nat := [1, 1, 0, 1, 0]) : Option d56 := from_ EE R L 310 Go.Proofs.Tryz.f310 p (mk 215 [(0, .dat ⟨(.ptr t9), v0, (.pin 0 (.own .sh))⟩), (2, .dat ⟨(.ptr t14), v2, .sh⟩), (6, .dat ⟨(.ptr t14), v6, (.own .sh)⟩), (8, .dat ⟨(.int .i64), v8, .sh⟩)])
noncomputable def lp_pimpl_Hash_block_2 (v0 : d55) (v2 v6 v11 v104 : List Int) (v105 : Int) (p : List Nat := [1, 1, 1, 1, 0, 1, 0]) : Option d56 := from_ EE R L 310 Go.Proofs.Tryz.f310 p (mk 215 [(0, .dat ⟨(.ptr t9), v0, (.pin 0 (.own .sh))⟩), (2, .dat ⟨(.ptr t14), v2, .sh⟩), (6, .dat ⟨(.ptr t14), v6, (.own .sh)⟩), (11, .dat ⟨(.ptr t83), v11, (.own .sh)⟩), (104, .dat ⟨t7, v104, .sh⟩), (105, .dat ⟨(.int .i64), v105, .sh⟩)])
noncomputable def lp_pimpl_Hash_block_3 (v0 : d55) (v2 v6 v11 : List Int) (v114 : Int) (p : List Nat := [1, 1, 1, 1, 1, 0, 1, 0]) : Option d56 := from_ EE R L 310 Go.Proofs.Tryz.f310 p (mk 215 [(0, .dat ⟨(.ptr t9), v0, (.pin 0 (.own .sh))⟩), (2, .dat ⟨(.ptr t14), v2, .sh⟩), (6, .dat ⟨(.ptr t14), v6, (.own .sh)⟩), (11, .dat ⟨(.ptr t83), v11, (.own .sh)⟩), (114, .dat ⟨(.int .i64), v114, .sh⟩)])
noncomputable def lp_pimpl_Hash_block_4 (v0 : d55) (v194 : List Int) (v195 : Int) (p : List Nat := [1, 1, 1, 1, 1, 1, 1, 0]) : Option d56 := from_ EE R L 310 Go.Proofs.Tryz.f310 p (mk 215 [(0, .dat ⟨(.ptr t9), v0, (.pin 0 (.own .sh))⟩), (194, .dat ⟨t83, v194, .sh⟩), (195, .dat ⟨(.int .i64), v195, .sh⟩)])
noncomputable def lp_i_Hash_more_0 (v1 : List UInt8) (v2 v4 : d55) (v5 : List Int) (p : List Nat := [1, 1, 1, 1, 0, 0]) : Option d56 := from_ EE R L 258 Go.Proofs.Tryz.f258 p (mk 28 [(1, .dat ⟨.str, v1, .sh⟩), (2, .dat ⟨(.ptr t9), v2, (.own .sh)⟩), (4, .dat ⟨(.ptr t9), v4, (.own .sh)⟩), (5, .dat ⟨(.ptr t14), v5, (.own .sh)⟩)])
noncomputable def lp_i_Hash_sum_0 (v1 : d55) (v3 : Int) (v4 : List UInt8) (v5 : Int) (p : List Nat := [1, 1, 1, 0, 1, 0]) : Option d52 := from_ EE R L 259 Go.Proofs.Tryz.f259 p (mk 56 [(1, .dat ⟨(.ptr t9), v1, (.own .sh)⟩), (3, .dat ⟨(.int .i64), v3, .sh⟩), (4, .dat ⟨.str, v4, .sh⟩), (5, .dat ⟨(.int .i64), v5, .sh⟩)])
noncomputable def lp_i_Hash_sum_1 (v6 v35 : List Int) (v36 : Int) (p : List Nat := [1, 1, 1, 1, 1, 0, 1, 0]) : Option d52 := from_ EE R L 259 Go.Proofs.Tryz.f259 p (mk 56 [(6, .dat ⟨t5, v6, (.own .sh)⟩), (35, .dat ⟨t7, v35, .sh⟩), (36, .dat ⟨(.int .i64), v36, .sh⟩)])
noncomputable def lp_i_little_0 (v0 : Int) (v5 : List Int) (v7 v8 : Int) (p : List Nat := [1, 1, 0, 1, 0]) : Option d52 := from_ EE R L 139 Go.Proofs.Tryz.f139 p (mk 22 [(0, .dat ⟨(.int .i64), v0, .sh⟩), (5, .dat ⟨t5, v5, (.own .sh)⟩), (7, .dat ⟨(.int .i64), v7, .sh⟩), (8, .dat ⟨(.int .i64), v8, .sh⟩)])
noncomputable def lp_i_quarter_0 (v0 v1 v2 v3 : Int) (v16 : List (List Int)) (v17 : Int) (p : List Nat := [1, 0, 1, 0]) : Option d58 := from_ EE R L 354 Go.Proofs.Tryz.f354 p (mk 43 [(0, .dat ⟨(.int .u32), v0, .sh⟩), (1, .dat ⟨(.int .u32), v1, .sh⟩), (2, .dat ⟨(.int .u32), v2, .sh⟩), (3, .dat ⟨(.int .u32), v3, .sh⟩), (16, .dat ⟨t85, v16, .sh⟩), (17, .dat ⟨(.int .i64), v17, .sh⟩)])
noncomputable def lp_i_stream_0 (v7 : List UInt8) (v8 v9 : List Int) (v25 : Int) (p : List Nat := [1, 1, 1, 0, 1, 0]) : Option d52 := from_ EE R L 322 Go.Proofs.Tryz.f322 p (mk 111 [(7, .dat ⟨.str, v7, .sh⟩), (8, .dat ⟨(.ptr t86), v8, (.own .sh)⟩), (9, .dat ⟨(.ptr t86), v9, (.own .sh)⟩), (25, .dat ⟨(.int .i64), v25, .sh⟩)])
noncomputable def lp_i_stream_1 (v8 v9 : List Int) (v41 : Int) (p : List Nat := [1, 1, 1, 1, 0, 1, 0]) : Option d52 := from_ EE R L 322 Go.Proofs.Tryz.f322 p (mk 111 [(8, .dat ⟨(.ptr t86), v8, (.own .sh)⟩), (9, .dat ⟨(.ptr t86), v9, (.own .sh)⟩), (41, .dat ⟨(.int .i64), v41, .sh⟩)])
noncomputable def lp_i_stream_2 (v8 v9 : List Int) (v41 v43 : Int) (p : List Nat := [1, 1, 1, 1, 0, 1, 0, 0, 1, 1, 0, 0, 1, 0]) : Option d52 := from_ EE R L 322 Go.Proofs.Tryz.f322 p (mk 111 [(8, .dat ⟨(.ptr t86), v8, (.own .sh)⟩), (9, .dat ⟨(.ptr t86), v9, (.own .sh)⟩), (41, .dat ⟨(.int .i64), v41, .sh⟩), (43, .dat ⟨(.int .i64), v43, .sh⟩)])
noncomputable def lp_i_stream_3 (v8 v9 : List Int) (v16 : List UInt8) (v95 : Int) (p : List Nat := [1, 1, 1, 1, 1, 1, 0, 1, 0]) : Option d52 := from_ EE R L 322 Go.Proofs.Tryz.f322 p (mk 111 [(8, .dat ⟨(.ptr t86), v8, (.own .sh)⟩), (9, .dat ⟨(.ptr t86), v9, (.own .sh)⟩), (16, .dat ⟨.str, v16, .sh⟩), (95, .dat ⟨(.int .i64), v95, .sh⟩)])
noncomputable def lp_i_stream_4 (v8 v9 : List Int) (v11 v41 v43 v46 : Int) (p : List Nat := [1, 1, 1, 1, 0, 1, 0, 0, 1, 1, 0, 0, 1, 0, 0, 1, 1, 0, 0, 1, 1, 0]) : Option d52 := from_ EE R L 322 Go.Proofs.Tryz.f322 p (mk 111 [(8, .dat ⟨(.ptr t86), v8, (.own .sh)⟩), (9, .dat ⟨(.ptr t86), v9, (.own .sh)⟩), (11, .dat ⟨(.int .i64), v11, .sh⟩), (41, .dat ⟨(.int .i64), v41, .sh⟩), (43, .dat ⟨(.int .i64), v43, .sh⟩), (46, .dat ⟨(.int .i64), v46, .sh⟩)])
noncomputable def lp_s_l02Block_0 (v0 v1 : List UInt8) (v2 : Int) (v7 : List Int) (v8 : Int) (p : List Nat := [1, 1, 0, 1, 0]) : Option d52 := from_ EE R L 349 Go.Proofs.Tryz.f349 p (mk 105 [(0, .dat ⟨.str, v0, .sh⟩), (1, .dat ⟨.str, v1, .sh⟩), (2, .dat ⟨(.int .i64), v2, .sh⟩), (7, .dat ⟨(.ptr t21), v7, (.own .sh)⟩), (8, .dat ⟨(.int .i64), v8, .sh⟩)])
noncomputable def lp_s_l02Block_1 (v0 v1 : List UInt8) (v2 : Int) (v7 : List Int) (v9 : Int) (p : List Nat := [1, 1, 1, 0, 1, 0]) : Option d52 := from_ EE R L 349 Go.Proofs.Tryz.f349 p (mk 105 [(0, .dat ⟨.str, v0, .sh⟩), (1, .dat ⟨.str, v1, .sh⟩), (2, .dat ⟨(.int .i64), v2, .sh⟩), (7, .dat ⟨(.ptr t21), v7, (.own .sh)⟩), (9, .dat ⟨(.int .i64), v9, .sh⟩)])
noncomputable def lp_s_l02Block_2 (v1 : List UInt8) (v7 : List Int) (v10 : Int) (p : List Nat := [1, 1, 1, 1, 1, 0, 1, 0]) : Option d52 := from_ EE R L 349 Go.Proofs.Tryz.f349 p (mk 105 [(1, .dat ⟨.str, v1, .sh⟩), (7, .dat ⟨(.ptr t21), v7, (.own .sh)⟩), (10, .dat ⟨(.int .i64), v10, .sh⟩)])
noncomputable def lp_s_l02Block_3 (v7 v11 : List Int) (v12 : Int) (p : List Nat := [1, 1, 1, 1, 1, 1, 1, 0, 1, 0]) : Option d52 := from_ EE R L 349 Go.Proofs.Tryz.f349 p (mk 105 [(7, .dat ⟨(.ptr t21), v7, (.own .sh)⟩), (11, .dat ⟨(.ptr t21), v11, (.own .sh)⟩), (12, .dat ⟨(.int .i64), v12, .sh⟩)])
noncomputable def lp_s_l02Block_4 (v7 v11 : List Int) (v12 v13 : Int) (p : List Nat := [1, 1, 1, 1, 1, 1, 1, 0, 1, 0, 0, 1, 0, 0, 0, 1, 0]) : Option d52 := from_ EE R L 349 Go.Proofs.Tryz.f349 p (mk 105 [(7, .dat ⟨(.ptr t21), v7, (.own .sh)⟩), (11, .dat ⟨(.ptr t21), v11, (.own .sh)⟩), (12, .dat ⟨(.int .i64), v12, .sh⟩), (13, .dat ⟨(.int .i64), v13, .sh⟩)])
noncomputable def lp_s_l02Block_5 (v7 v11 v15 : List Int) (v16 : Int) (p : List Nat := [1, 1, 1, 1, 1, 1, 1, 1, 1, 0, 1, 0]) : Option d52 := from_ EE R L 349 Go.Proofs.Tryz.f349 p (mk 105 [(7, .dat ⟨(.ptr t21), v7, (.own .sh)⟩), (11, .dat ⟨(.ptr t21), v11, (.own .sh)⟩), (15, .dat ⟨t5, v15, (.own .sh)⟩), (16, .dat ⟨(.int .i64), v16, .sh⟩)])
noncomputable def lp_s_l02Block_6 (v7 v11 : List Int) (v12 v14 : Int) (p : List Nat := [1, 1, 1, 1, 1, 1, 1, 0, 1, 0, 0, 1, 0, 0, 1, 1, 0]) : Option d52 := from_ EE R L 349 Go.Proofs.Tryz.f349 p (mk 105 [(7, .dat ⟨(.ptr t21), v7, (.own .sh)⟩), (11, .dat ⟨(.ptr t21), v11, (.own .sh)⟩), (12, .dat ⟨(.int .i64), v12, .sh⟩), (14, .dat ⟨(.int .i64), v14, .sh⟩)])
noncomputable def lp_i_xor_0 (v1 : List UInt8) (v5 : List Int) (v10 v11 : Int) (p : List Nat := [1, 1, 0, 1, 0]) : Option d52 := from_ EE R L 321 Go.Proofs.Tryz.f321 p (mk 26 [(1, .dat ⟨.str, v1, .sh⟩), (5, .dat ⟨t5, v5, (.own .sh)⟩), (10, .dat ⟨(.int .i64), v10, .sh⟩), (11, .dat ⟨(.int .i64), v11, .sh⟩)])
noncomputable def lp_s_l02Xor_0 (v0 v1 : List UInt8) (v2 : Int) (v3 : List UInt8) (v9 : List Int) (v10 : List UInt8) (v11 : Int) (p : List Nat := [1, 1, 1, 0, 1, 0]) : Option d52 := from_ EE R L 313 Go.Proofs.Tryz.f313 p (mk 42 [(0, .dat ⟨.str, v0, .sh⟩), (1, .dat ⟨.str, v1, .sh⟩), (2, .dat ⟨(.int .i64), v2, .sh⟩), (3, .dat ⟨.str, v3, .sh⟩), (9, .dat ⟨t5, v9, (.own .sh)⟩), (10, .dat ⟨.str, v10, .sh⟩), (11, .dat ⟨(.int .i64), v11, .sh⟩)])
noncomputable def lp_l_szStringS_0 (v0 : List (List UInt8)) (v1 v4 v5 : Int) (p : List Nat := [1, 1, 1, 0, 1, 0]) : Option d57 := from_ EE R L 122 Go.Proofs.Tryz.f122 p (mk 28 [(0, .dat ⟨(.sl .str), v0, .sh⟩), (1, .dat ⟨(.int .i64), v1, .sh⟩), (4, .dat ⟨(.int .i64), v4, .sh⟩), (5, .dat ⟨(.int .i64), v5, .sh⟩)])
noncomputable def lp_l_szIoS_0 (v0 : List d60) (v1 v4 v5 : Int) (p : List Nat := [1, 1, 1, 0, 1, 0]) : Option d57 := from_ EE R L 123 Go.Proofs.Tryz.f123 p (mk 27 [(0, .dat ⟨(.sl t24), v0, .sh⟩), (1, .dat ⟨(.int .i64), v1, .sh⟩), (4, .dat ⟨(.int .i64), v4, .sh⟩), (5, .dat ⟨(.int .i64), v5, .sh⟩)])
noncomputable def lp_l_szTxnS_0 (v0 : List d54) (v1 v4 v5 : Int) (p : List Nat := [1, 1, 1, 0, 1, 0]) : Option d57 := from_ EE R L 21 Go.Proofs.Tryz.f21 p (mk 27 [(0, .dat ⟨(.sl t4), v0, .sh⟩), (1, .dat ⟨(.int .i64), v1, .sh⟩), (4, .dat ⟨(.int .i64), v4, .sh⟩), (5, .dat ⟨(.int .i64), v5, .sh⟩)])
noncomputable def lp_l_toStringS_0 (v0 v2 v3 : List (List UInt8)) (v4 : Int) (p : List Nat := [1, 1, 0, 1, 0]) : Option d64 := from_ EE R L 132 Go.Proofs.Tryz.f132 p (mk 22 [(0, .dat ⟨(.sl .str), v0, .sh⟩), (2, .dat ⟨(.sl .str), v2, (.own .sh)⟩), (3, .dat ⟨(.sl .str), v3, (.own .sh)⟩), (4, .dat ⟨(.int .i64), v4, .sh⟩)])
noncomputable def lp_l_toIoS_0 (v0 v2 v3 : List d60) (v4 : Int) (p : List Nat := [1, 1, 0, 1, 0]) : Option d66 := from_ EE R L 133 Go.Proofs.Tryz.f133 p (mk 23 [(0, .dat ⟨(.sl t24), v0, .sh⟩), (2, .dat ⟨(.sl t24), v2, (.own .sh)⟩), (3, .dat ⟨(.sl t24), v3, (.own .sh)⟩), (4, .dat ⟨(.int .i64), v4, .sh⟩)])
noncomputable def lp_l_toOpS_0 (v0 v2 v3 : List d53) (v4 : Int) (p : List Nat := [1, 1, 0, 1, 0]) : Option d54 := from_ EE R L 134 Go.Proofs.Tryz.f134 p (mk 23 [(0, .dat ⟨(.sl t3), v0, .sh⟩), (2, .dat ⟨(.sl t3), v2, (.own .sh)⟩), (3, .dat ⟨(.sl t3), v3, (.own .sh)⟩), (4, .dat ⟨(.int .i64), v4, .sh⟩)])
noncomputable def lp_l_toTxnS_0 (v0 v2 v3 : List d54) (v4 : Int) (p : List Nat := [1, 1, 0, 1, 0]) : Option d71 := from_ EE R L 24 Go.Proofs.Tryz.f24 p (mk 23 [(0, .dat ⟨(.sl t4), v0, .sh⟩), (2, .dat ⟨(.sl t4), v2, (.own (.pr (.own .sh) .sh))⟩), (3, .dat ⟨(.sl t4), v3, (.own (.pr (.own .sh) .sh))⟩), (4, .dat ⟨(.int .i64), v4, .sh⟩)])
noncomputable def lp_l_toIntS_0 (v0 v2 v3 : List Int) (v4 : Int) (p : List Nat := [1, 1, 0, 1, 0]) : Option d51 := from_ EE R L 11 Go.Proofs.Tryz.f11 p (mk 22 [(0, .dat ⟨t0, v0, .sh⟩), (2, .dat ⟨t0, v2, (.own .sh)⟩), (3, .dat ⟨t0, v3, (.own .sh)⟩), (4, .dat ⟨(.int .i64), v4, .sh⟩)])
noncomputable def lp_s_l08Leaves_0 (v0 : List Int) (v3 : Int) (p : List Nat := [1, 0, 1, 0]) : Option d72 := from_ EE R L 44 Go.Proofs.Tryz.f44 p (mk 16 [(0, .dat ⟨t0, v0, .sh⟩), (3, .dat ⟨(.int .i64), v3, .sh⟩)])
noncomputable def lp_s_DeviceOK_0 (v0 v1 : d61) (v2 : Bool) (v3 : Int) (p : List Nat := [1, 1, 0, 1, 0]) : Option d72 := from_ EE R L 152 Go.Proofs.Tryz.f152 p (mk 54 [(0, .dat ⟨t25, v0, .sh⟩), (1, .dat ⟨(.ptr t25), v1, (.own .sh)⟩), (2, .dat ⟨.bool, v2, .sh⟩), (3, .dat ⟨(.int .i64), v3, .sh⟩)])
noncomputable def lp_s_DeviceOK_1 (v0 v1 : d61) (v2 : Bool) (v3 v4 : Int) (p : List Nat := [1, 1, 1, 0, 1, 0]) : Option d72 := from_ EE R L 152 Go.Proofs.Tryz.f152 p (mk 54 [(0, .dat ⟨t25, v0, .sh⟩), (1, .dat ⟨(.ptr t25), v1, (.own .sh)⟩), (2, .dat ⟨.bool, v2, .sh⟩), (3, .dat ⟨(.int .i64), v3, .sh⟩), (4, .dat ⟨(.int .i64), v4, .sh⟩)])
noncomputable def lp_s_l09Txn_0 (v0 v1 : d54) (v2 : Bool) (v3 : Int) (p : List Nat := [1, 0, 1, 0]) : Option d72 := from_ EE R L 196 Go.Proofs.Tryz.f196 p (mk 22 [(0, .dat ⟨t4, v0, .sh⟩), (1, .dat ⟨(.ptr t4), v1, (.own .sh)⟩), (2, .dat ⟨.bool, v2, .sh⟩), (3, .dat ⟨(.int .i64), v3, .sh⟩)])
noncomputable def lp_s_BatchOK_0 (v0 : List d54) (v2 : Bool) (v3 : Int) (p : List Nat := [1, 1, 1, 0, 1, 0]) : Option d72 := from_ EE R L 126 Go.Proofs.Tryz.f126 p (mk 23 [(0, .dat ⟨(.sl t4), v0, .sh⟩), (2, .dat ⟨.bool, v2, .sh⟩), (3, .dat ⟨(.int .i64), v3, .sh⟩)])
noncomputable def lp_s_l04Eight_0 (v0 : Int) (v3 : List Int) (v4 : Int) (p : List Nat := [1, 1, 0, 1, 0]) : Option d52 := from_ EE R L 312 Go.Proofs.Tryz.f312 p (mk 20 [(0, .dat ⟨(.int .i64), v0, .sh⟩), (3, .dat ⟨t5, v3, (.own .sh)⟩), (4, .dat ⟨(.int .i64), v4, .sh⟩)])
noncomputable def lp_s_l04Pad_0 (v0 : List UInt8) (p : List Nat := [1, 0, 0]) : Option d52 := from_ EE R L 351 Go.Proofs.Tryz.f351 p (mk 10 [(0, .dat ⟨.str, v0, .sh⟩)])
noncomputable def lp_s_l03Clamp_0 (v3 : List Int) (v4 : Int) (p : List Nat := [1, 1, 0, 1, 0]) : Option d52 := from_ EE R L 374 Go.Proofs.Tryz.f374 p (mk 31 [(3, .dat ⟨t5, v3, (.own .sh)⟩), (4, .dat ⟨(.int .i64), v4, .sh⟩)])
noncomputable def lp_s_l03Clamp_1 (v3 : List Int) (v5 : Int) (p : List Nat := [1, 1, 1, 0, 1, 0]) : Option d52 := from_ EE R L 374 Go.Proofs.Tryz.f374 p (mk 31 [(3, .dat ⟨t5, v3, (.own .sh)⟩), (5, .dat ⟨(.int .i64), v5, .sh⟩)])
noncomputable def lp_s_l03Parts_0 (v0 : List UInt8) (v2 v3 : List Int) (v4 : Int) (p : List Nat := [1, 1, 0, 1, 0]) : Option d51 := from_ EE R L 373 Go.Proofs.Tryz.f373 p (mk 50 [(0, .dat ⟨.str, v0, .sh⟩), (2, .dat ⟨(.ptr t37), v2, (.own .sh)⟩), (3, .dat ⟨(.ptr t37), v3, (.own .sh)⟩), (4, .dat ⟨(.int .i64), v4, .sh⟩)])
noncomputable def lp_s_l03Carry_0 (v1 v2 : List Int) (v3 : Int) (p : List Nat := [1, 0, 1, 0]) : Option d51 := from_ EE R L 377 Go.Proofs.Tryz.f377 p (mk 41 [(1, .dat ⟨(.ptr t37), v1, (.own .sh)⟩), (2, .dat ⟨(.ptr t37), v2, (.own .sh)⟩), (3, .dat ⟨(.int .i64), v3, .sh⟩)])
noncomputable def lp_s_l03Carry_1 (v1 v2 : List Int) (v3 v4 : Int) (p : List Nat := [1, 0, 1, 0, 0, 1, 0, 0, 0, 1, 0]) : Option d51 := from_ EE R L 377 Go.Proofs.Tryz.f377 p (mk 41 [(1, .dat ⟨(.ptr t37), v1, (.own .sh)⟩), (2, .dat ⟨(.ptr t37), v2, (.own .sh)⟩), (3, .dat ⟨(.int .i64), v3, .sh⟩), (4, .dat ⟨(.int .i64), v4, .sh⟩)])
noncomputable def lp_s_l03Times_0 (v2 v3 v4 v5 : List Int) (v6 : Int) (p : List Nat := [1, 1, 0, 1, 0]) : Option d51 := from_ EE R L 375 Go.Proofs.Tryz.f375 p (mk 42 [(2, .dat ⟨(.ptr t37), v2, (.own .sh)⟩), (3, .dat ⟨(.ptr t37), v3, (.own .sh)⟩), (4, .dat ⟨(.ptr t37), v4, (.own .sh)⟩), (5, .dat ⟨(.ptr t37), v5, (.own .sh)⟩), (6, .dat ⟨(.int .i64), v6, .sh⟩)])
noncomputable def lp_s_l03Times_1 (v2 v3 v4 v5 : List Int) (v6 v7 : Int) (p : List Nat := [1, 1, 0, 1, 0, 0, 1, 0, 0, 1, 0]) : Option d51 := from_ EE R L 375 Go.Proofs.Tryz.f375 p (mk 42 [(2, .dat ⟨(.ptr t37), v2, (.own .sh)⟩), (3, .dat ⟨(.ptr t37), v3, (.own .sh)⟩), (4, .dat ⟨(.ptr t37), v4, (.own .sh)⟩), (5, .dat ⟨(.ptr t37), v5, (.own .sh)⟩), (6, .dat ⟨(.int .i64), v6, .sh⟩), (7, .dat ⟨(.int .i64), v7, .sh⟩)])
noncomputable def lp_s_l03Less_0 (v1 v2 v3 : List Int) (v4 : Int) (p : List Nat := [1, 1, 1, 0, 1, 0]) : Option d51 := from_ EE R L 376 Go.Proofs.Tryz.f376 p (mk 39 [(1, .dat ⟨(.ptr t37), v1, (.own .sh)⟩), (2, .dat ⟨(.ptr t37), v2, (.own .sh)⟩), (3, .dat ⟨(.ptr t37), v3, (.own .sh)⟩), (4, .dat ⟨(.int .i64), v4, .sh⟩)])
noncomputable def lp_s_l03Tag_0 (v0 v1 : List UInt8) (v5 v6 : List Int) (v7 : Int) (p : List Nat := [1, 1, 1, 0, 1, 0]) : Option d52 := from_ EE R L 350 Go.Proofs.Tryz.f350 p (mk 108 [(0, .dat ⟨.str, v0, .sh⟩), (1, .dat ⟨.str, v1, .sh⟩), (5, .dat ⟨(.ptr t37), v5, (.own .sh)⟩), (6, .dat ⟨(.ptr t37), v6, (.own .sh)⟩), (7, .dat ⟨(.int .i64), v7, .sh⟩)])
noncomputable def lp_s_l03Tag_1 (v0 v1 : List UInt8) (v5 v6 : List Int) (v7 : Int) (v8 : List UInt8) (p : List Nat := [1, 1, 1, 0, 1, 0, 0, 1, 0, 0, 1, 0, 0]) : Option d52 := from_ EE R L 350 Go.Proofs.Tryz.f350 p (mk 108 [(0, .dat ⟨.str, v0, .sh⟩), (1, .dat ⟨.str, v1, .sh⟩), (5, .dat ⟨(.ptr t37), v5, (.own .sh)⟩), (6, .dat ⟨(.ptr t37), v6, (.own .sh)⟩), (7, .dat ⟨(.int .i64), v7, .sh⟩), (8, .dat ⟨.str, v8, .sh⟩)])
noncomputable def lp_s_l03Tag_2 (v0 : List UInt8) (v6 v11 : List Int) (v12 v13 : Int) (p : List Nat := [1, 1, 1, 1, 1, 1, 1, 0, 1, 0]) : Option d52 := from_ EE R L 350 Go.Proofs.Tryz.f350 p (mk 108 [(0, .dat ⟨.str, v0, .sh⟩), (6, .dat ⟨(.ptr t37), v6, (.own .sh)⟩), (11, .dat ⟨t5, v11, (.own .sh)⟩), (12, .dat ⟨(.int .i64), v12, .sh⟩), (13, .dat ⟨(.int .i64), v13, .sh⟩)])
noncomputable def lp_s_l03Tag_3 (v0 v1 : List UInt8) (v5 v6 : List Int) (v7 : Int) (v9 : List Int) (v10 : Int) (p : List Nat := [1, 1, 1, 0, 1, 0, 0, 1, 0, 0, 1, 1, 1, 0, 1, 0]) : Option d52 := from_ EE R L 350 Go.Proofs.Tryz.f350 p (mk 108 [(0, .dat ⟨.str, v0, .sh⟩), (1, .dat ⟨.str, v1, .sh⟩), (5, .dat ⟨(.ptr t37), v5, (.own .sh)⟩), (6, .dat ⟨(.ptr t37), v6, (.own .sh)⟩), (7, .dat ⟨(.int .i64), v7, .sh⟩), (9, .dat ⟨(.ptr t37), v9, (.own .sh)⟩), (10, .dat ⟨(.int .i64), v10, .sh⟩)])
noncomputable def lp_s_l05Sync_0 (v1 v2 v3 : d61) (v4 : Int) (p : List Nat := [1, 1, 0, 1, 0]) : Option d67 := from_ EE R L 130 Go.Proofs.Tryz.f130 p (mk 34 [(1, .dat ⟨(.ptr t25), v1, (.own .sh)⟩), (2, .dat ⟨(.ptr t25), v2, (.own (.pr (.own .sh) (.pr (.own .sh) .sh)))⟩), (3, .dat ⟨(.ptr t25), v3, (.own (.pr (.own .sh) (.pr (.own .sh) .sh)))⟩), (4, .dat ⟨(.int .i64), v4, .sh⟩)])
noncomputable def lp_slices_IndexFunc___int_int__0 (v0 : List Int) (v1 : FnVal) (v4 v7 v8 : Int) (p : List Nat := [1, 0, 1, 0]) : Option d57 := from_ EE R L 315 Go.Proofs.Tryz.f315 p (mk 19 [(0, .dat ⟨t0, v0, .sh⟩), (1, .dat ⟨.fn, v1, .sh⟩), (4, .dat ⟨(.int .i64), v4, .sh⟩), (7, .dat ⟨(.int .i64), v7, .sh⟩), (8, .dat ⟨(.int .i64), v8, .sh⟩)])
noncomputable def lp_slices_IndexFunc___int_int__1 (v0 : List Int) (v1 : FnVal) (v4 v5 v7 v8 : Int) (p : List Nat := [1, 0, 1, 0]) : Option d57 := from_ EE R L 315 Go.Proofs.Tryz.f315 p (mk 19 [(0, .dat ⟨t0, v0, .sh⟩), (1, .dat ⟨.fn, v1, .sh⟩), (4, .dat ⟨(.int .i64), v4, .sh⟩), (5, .dat ⟨(.int .i64), v5, .sh⟩), (7, .dat ⟨(.int .i64), v7, .sh⟩), (8, .dat ⟨(.int .i64), v8, .sh⟩)])
noncomputable def lp_slices_IndexFunc___string_string__0 (v0 : List (List UInt8)) (v1 : FnVal) (v4 v7 v8 : Int) (p : List Nat := [1, 0, 1, 0]) : Option d57 := from_ EE R L 308 Go.Proofs.Tryz.f308 p (mk 19 [(0, .dat ⟨(.sl .str), v0, .sh⟩), (1, .dat ⟨.fn, v1, .sh⟩), (4, .dat ⟨(.int .i64), v4, .sh⟩), (7, .dat ⟨(.int .i64), v7, .sh⟩), (8, .dat ⟨(.int .i64), v8, .sh⟩)])
noncomputable def lp_slices_IndexFunc___string_string__1 (v0 : List (List UInt8)) (v1 : FnVal) (v4 v5 v7 v8 : Int) (p : List Nat := [1, 0, 1, 0]) : Option d57 := from_ EE R L 308 Go.Proofs.Tryz.f308 p (mk 19 [(0, .dat ⟨(.sl .str), v0, .sh⟩), (1, .dat ⟨.fn, v1, .sh⟩), (4, .dat ⟨(.int .i64), v4, .sh⟩), (5, .dat ⟨(.int .i64), v5, .sh⟩), (7, .dat ⟨(.int .i64), v7, .sh⟩), (8, .dat ⟨(.int .i64), v8, .sh⟩)])
noncomputable def lp_slices_IndexFunc___i_Io_i_Io__0 (v0 : List d60) (v1 : FnVal) (v4 v7 v8 : Int) (p : List Nat := [1, 0, 1, 0]) : Option d57 := from_ EE R L 363 Go.Proofs.Tryz.f363 p (mk 19 [(0, .dat ⟨(.sl t24), v0, .sh⟩), (1, .dat ⟨.fn, v1, .sh⟩), (4, .dat ⟨(.int .i64), v4, .sh⟩), (7, .dat ⟨(.int .i64), v7, .sh⟩), (8, .dat ⟨(.int .i64), v8, .sh⟩)])
noncomputable def lp_slices_IndexFunc___i_Io_i_Io__1 (v0 : List d60) (v1 : FnVal) (v4 v5 v7 v8 : Int) (p : List Nat := [1, 0, 1, 0]) : Option d57 := from_ EE R L 363 Go.Proofs.Tryz.f363 p (mk 19 [(0, .dat ⟨(.sl t24), v0, .sh⟩), (1, .dat ⟨.fn, v1, .sh⟩), (4, .dat ⟨(.int .i64), v4, .sh⟩), (5, .dat ⟨(.int .i64), v5, .sh⟩), (7, .dat ⟨(.int .i64), v7, .sh⟩), (8, .dat ⟨(.int .i64), v8, .sh⟩)])
noncomputable def lp_slices_IndexFunc___i_Txn_i_Txn__0 (v0 : List d54) (v1 : FnVal) (v4 v7 v8 : Int) (p : List Nat := [1, 0, 1, 0]) : Option d57 := from_ EE R L 316 Go.Proofs.Tryz.f316 p (mk 19 [(0, .dat ⟨(.sl t4), v0, .sh⟩), (1, .dat ⟨.fn, v1, .sh⟩), (4, .dat ⟨(.int .i64), v4, .sh⟩), (7, .dat ⟨(.int .i64), v7, .sh⟩), (8, .dat ⟨(.int .i64), v8, .sh⟩)])
noncomputable def lp_slices_IndexFunc___i_Txn_i_Txn__1 (v0 : List d54) (v1 : FnVal) (v4 v5 v7 v8 : Int) (p : List Nat := [1, 0, 1, 0]) : Option d57 := from_ EE R L 316 Go.Proofs.Tryz.f316 p (mk 19 [(0, .dat ⟨(.sl t4), v0, .sh⟩), (1, .dat ⟨.fn, v1, .sh⟩), (4, .dat ⟨(.int .i64), v4, .sh⟩), (5, .dat ⟨(.int .i64), v5, .sh⟩), (7, .dat ⟨(.int .i64), v7, .sh⟩), (8, .dat ⟨(.int .i64), v8, .sh⟩)])
noncomputable def lp_slices_IndexFunc___i_Op_i_Op__0 (v0 : List d53) (v1 : FnVal) (v4 v7 v8 : Int) (p : List Nat := [1, 0, 1, 0]) : Option d57 := from_ EE R L 352 Go.Proofs.Tryz.f352 p (mk 19 [(0, .dat ⟨(.sl t3), v0, .sh⟩), (1, .dat ⟨.fn, v1, .sh⟩), (4, .dat ⟨(.int .i64), v4, .sh⟩), (7, .dat ⟨(.int .i64), v7, .sh⟩), (8, .dat ⟨(.int .i64), v8, .sh⟩)])
noncomputable def lp_slices_IndexFunc___i_Op_i_Op__1 (v0 : List d53) (v1 : FnVal) (v4 v5 v7 v8 : Int) (p : List Nat := [1, 0, 1, 0]) : Option d57 := from_ EE R L 352 Go.Proofs.Tryz.f352 p (mk 19 [(0, .dat ⟨(.sl t3), v0, .sh⟩), (1, .dat ⟨.fn, v1, .sh⟩), (4, .dat ⟨(.int .i64), v4, .sh⟩), (5, .dat ⟨(.int .i64), v5, .sh⟩), (7, .dat ⟨(.int .i64), v7, .sh⟩), (8, .dat ⟨(.int .i64), v8, .sh⟩)])
noncomputable def lp_i_clamped_0 (v3 : List Int) (v4 : Int) (p : List Nat := [1, 1, 0, 1, 0]) : Option d52 := from_ EE R L 356 Go.Proofs.Tryz.f356 p (mk 31 [(3, .dat ⟨t5, v3, (.own .sh)⟩), (4, .dat ⟨(.int .i64), v4, .sh⟩)])
noncomputable def lp_i_clamped_1 (v3 : List Int) (v5 : Int) (p : List Nat := [1, 1, 1, 0, 1, 0]) : Option d52 := from_ EE R L 356 Go.Proofs.Tryz.f356 p (mk 31 [(3, .dat ⟨t5, v3, (.own .sh)⟩), (5, .dat ⟨(.int .i64), v5, .sh⟩)])
noncomputable def lp_i_limbsOf_0 (v2 v3 v9 : List Int) (v10 v11 : Int) (p : List Nat := [1, 1, 0, 1, 0]) : Option d51 := from_ EE R L 355 Go.Proofs.Tryz.f355 p (mk 40 [(2, .dat ⟨(.ptr t41), v2, (.own .sh)⟩), (3, .dat ⟨(.ptr t41), v3, (.own .sh)⟩), (9, .dat ⟨t5, v9, (.own .sh)⟩), (10, .dat ⟨(.int .i64), v10, .sh⟩), (11, .dat ⟨(.int .i64), v11, .sh⟩)])
noncomputable def lp_i_limbsOf_1 (v2 v3 : List Int) (v4 v5 : Int) (v9 : List Int) (v10 v11 v16 : Int) (p : List Nat := [1, 1, 0, 1, 0, 0, 1, 1, 0, 0, 1, 1, 0]) : Option d51 := from_ EE R L 355 Go.Proofs.Tryz.f355 p (mk 40 [(2, .dat ⟨(.ptr t41), v2, (.own .sh)⟩), (3, .dat ⟨(.ptr t41), v3, (.own .sh)⟩), (4, .dat ⟨(.int .i64), v4, .sh⟩), (5, .dat ⟨(.int .u8), v5, .sh⟩), (9, .dat ⟨t5, v9, (.own .sh)⟩), (10, .dat ⟨(.int .i64), v10, .sh⟩), (11, .dat ⟨(.int .i64), v11, .sh⟩), (16, .dat ⟨(.int .i64), v16, .sh⟩)])
noncomputable def lp_i_limbs_carried_0 (v1 v2 : List Int) (v5 : Int) (p : List Nat := [1, 0, 1, 0]) : Option d51 := from_ EE R L 379 Go.Proofs.Tryz.f379 p (mk 34 [(1, .dat ⟨(.ptr t41), v1, (.own .sh)⟩), (2, .dat ⟨(.ptr t41), v2, (.own .sh)⟩), (5, .dat ⟨(.int .i64), v5, .sh⟩)])
noncomputable def lp_i_limbs_carried_1 (v1 v2 : List Int) (v3 v5 v7 : Int) (p : List Nat := [1, 0, 1, 0, 0, 1, 1, 0, 0, 1, 0, 1, 0]) : Option d51 := from_ EE R L 379 Go.Proofs.Tryz.f379 p (mk 34 [(1, .dat ⟨(.ptr t41), v1, (.own .sh)⟩), (2, .dat ⟨(.ptr t41), v2, (.own .sh)⟩), (3, .dat ⟨(.int .u64), v3, .sh⟩), (5, .dat ⟨(.int .i64), v5, .sh⟩), (7, .dat ⟨(.int .i64), v7, .sh⟩)])
noncomputable def lp_i_limbs_plus_0 (v2 v3 v4 : List Int) (v6 : Int) (p : List Nat := [1, 0, 1, 0]) : Option d51 := from_ EE R L 357 Go.Proofs.Tryz.f357 p (mk 20 [(2, .dat ⟨(.ptr t41), v2, (.own .sh)⟩), (3, .dat ⟨(.ptr t41), v3, (.own .sh)⟩), (4, .dat ⟨(.ptr t41), v4, (.own .sh)⟩), (6, .dat ⟨(.int .i64), v6, .sh⟩)])
noncomputable def lp_i_limbs_times_0 (v3 v4 v5 v10 : List Int) (v11 : Int) (p : List Nat := [1, 1, 0, 1, 0]) : Option d51 := from_ EE R L 358 Go.Proofs.Tryz.f358 p (mk 50 [(3, .dat ⟨(.ptr t41), v3, (.own .sh)⟩), (4, .dat ⟨(.ptr t41), v4, (.own .sh)⟩), (5, .dat ⟨(.ptr t41), v5, (.own .sh)⟩), (10, .dat ⟨t41, v10, .sh⟩), (11, .dat ⟨(.int .i64), v11, .sh⟩)])
noncomputable def lp_i_limbs_times_1 (v3 v4 v5 : List Int) (v6 v7 : Int) (v10 : List Int) (v11 : Int) (v15 : List Int) (v16 : Int) (p : List Nat := [1, 1, 0, 1, 0, 0, 1, 1, 0, 0, 1, 1, 0]) : Option d51 := from_ EE R L 358 Go.Proofs.Tryz.f358 p (mk 50 [(3, .dat ⟨(.ptr t41), v3, (.own .sh)⟩), (4, .dat ⟨(.ptr t41), v4, (.own .sh)⟩), (5, .dat ⟨(.ptr t41), v5, (.own .sh)⟩), (6, .dat ⟨(.int .i64), v6, .sh⟩), (7, .dat ⟨(.int .u64), v7, .sh⟩), (10, .dat ⟨t41, v10, .sh⟩), (11, .dat ⟨(.int .i64), v11, .sh⟩), (15, .dat ⟨t41, v15, .sh⟩), (16, .dat ⟨(.int .i64), v16, .sh⟩)])
noncomputable def lp_i_limbs_reduced_0 (v1 v2 v3 : List Int) (v4 : Int) (p : List Nat := [1, 1, 1, 0, 1, 0]) : Option d51 := from_ EE R L 359 Go.Proofs.Tryz.f359 p (mk 41 [(1, .dat ⟨(.ptr t41), v1, (.own .sh)⟩), (2, .dat ⟨(.ptr t41), v2, (.own .sh)⟩), (3, .dat ⟨(.ptr t41), v3, (.own .sh)⟩), (4, .dat ⟨(.int .i64), v4, .sh⟩)])
noncomputable def lp_i_limbs_reduced_1 (v1 v2 v3 : List Int) (v28 : Int) (p : List Nat := [1, 1, 1, 1, 0, 1, 0]) : Option d51 := from_ EE R L 359 Go.Proofs.Tryz.f359 p (mk 41 [(1, .dat ⟨(.ptr t41), v1, (.own .sh)⟩), (2, .dat ⟨(.ptr t41), v2, (.own .sh)⟩), (3, .dat ⟨(.ptr t41), v3, (.own .sh)⟩), (28, .dat ⟨(.int .i64), v28, .sh⟩)])
noncomputable def lp_i_limbs_bytes_0 (v1 : List UInt8) (v2 v5 : List Int) (v6 v13 v14 : Int) (p : List Nat := [1, 1, 1, 0, 1, 0]) : Option d52 := from_ EE R L 360 Go.Proofs.Tryz.f360 p (mk 56 [(1, .dat ⟨.str, v1, .sh⟩), (2, .dat ⟨(.ptr t41), v2, (.own .sh)⟩), (5, .dat ⟨t5, v5, (.own .sh)⟩), (6, .dat ⟨(.int .i64), v6, .sh⟩), (13, .dat ⟨(.int .i64), v13, .sh⟩), (14, .dat ⟨(.int .i64), v14, .sh⟩)])
noncomputable def lp_i_limbs_bytes_1 (v1 : List UInt8) (v2 v5 : List Int) (v6 v7 v8 v13 v14 v17 : Int) (p : List Nat := [1, 1, 1, 0, 1, 0, 0, 1, 1, 0, 0, 1, 1, 0, 1, 0]) : Option d52 := from_ EE R L 360 Go.Proofs.Tryz.f360 p (mk 56 [(1, .dat ⟨.str, v1, .sh⟩), (2, .dat ⟨(.ptr t41), v2, (.own .sh)⟩), (5, .dat ⟨t5, v5, (.own .sh)⟩), (6, .dat ⟨(.int .i64), v6, .sh⟩), (7, .dat ⟨(.int .i64), v7, .sh⟩), (8, .dat ⟨(.int .i64), v8, .sh⟩), (13, .dat ⟨(.int .i64), v13, .sh⟩), (14, .dat ⟨(.int .i64), v14, .sh⟩), (17, .dat ⟨(.int .i64), v17, .sh⟩)])
noncomputable def lp_i_tag_0 (v0 v1 : List UInt8) (v5 v6 : List Int) (v7 : Int) (p : List Nat := [1, 1, 1, 0, 1, 0]) : Option d52 := from_ EE R L 324 Go.Proofs.Tryz.f324 p (mk 36 [(0, .dat ⟨.str, v0, .sh⟩), (1, .dat ⟨.str, v1, .sh⟩), (5, .dat ⟨(.ptr t41), v5, (.own .sh)⟩), (6, .dat ⟨(.ptr t41), v6, (.own .sh)⟩), (7, .dat ⟨(.int .i64), v7, .sh⟩)])
noncomputable def lp_i_Device_crash_0 (v1 : List Int) (v4 v5 : d61) (v16 : List d60) (v17 v18 : Int) (p : List Nat := [1, 1, 0, 1, 0]) : Option d67 := from_ EE R L 145 Go.Proofs.Tryz.f145 p (mk 73 [(1, .dat ⟨t0, v1, .sh⟩), (4, .dat ⟨(.ptr t25), v4, (.own (.pr (.own .sh) (.pr (.own .sh) .sh)))⟩), (5, .dat ⟨(.ptr t25), v5, (.own (.pr (.own .sh) (.pr (.own .sh) .sh)))⟩), (16, .dat ⟨(.sl t24), v16, .sh⟩), (17, .dat ⟨(.int .i64), v17, .sh⟩), (18, .dat ⟨(.int .i64), v18, .sh⟩)])
noncomputable def lp_l_eqStringS_0 (v0 v1 : List (List UInt8)) (v4 : Bool) (v5 : Int) (p : List Nat := [1, 1, 0, 1, 0]) : Option d72 := from_ EE R L 114 Go.Proofs.Tryz.f114 p (mk 26 [(0, .dat ⟨(.sl .str), v0, .sh⟩), (1, .dat ⟨(.sl .str), v1, .sh⟩), (4, .dat ⟨.bool, v4, .sh⟩), (5, .dat ⟨(.int .i64), v5, .sh⟩)])
noncomputable def lp_l_eqIoS_0 (v0 v1 : List d60) (v4 : Bool) (v5 : Int) (p : List Nat := [1, 1, 0, 1, 0]) : Option d72 := from_ EE R L 115 Go.Proofs.Tryz.f115 p (mk 27 [(0, .dat ⟨(.sl t24), v0, .sh⟩), (1, .dat ⟨(.sl t24), v1, .sh⟩), (4, .dat ⟨.bool, v4, .sh⟩), (5, .dat ⟨(.int .i64), v5, .sh⟩)])
noncomputable def lp_l_eqOpS_0 (v0 v1 : List d53) (v4 : Bool) (v5 : Int) (p : List Nat := [1, 1, 0, 1, 0]) : Option d72 := from_ EE R L 146 Go.Proofs.Tryz.f146 p (mk 27 [(0, .dat ⟨(.sl t3), v0, .sh⟩), (1, .dat ⟨(.sl t3), v1, .sh⟩), (4, .dat ⟨.bool, v4, .sh⟩), (5, .dat ⟨(.int .i64), v5, .sh⟩)])
noncomputable def lp_l_eqTxnS_0 (v0 v1 : List d54) (v4 : Bool) (v5 : Int) (p : List Nat := [1, 1, 0, 1, 0]) : Option d72 := from_ EE R L 27 Go.Proofs.Tryz.f27 p (mk 27 [(0, .dat ⟨(.sl t4), v0, .sh⟩), (1, .dat ⟨(.sl t4), v1, .sh⟩), (4, .dat ⟨.bool, v4, .sh⟩), (5, .dat ⟨(.int .i64), v5, .sh⟩)])
noncomputable def lp_l_eqIntS_0 (v0 v1 : List Int) (v4 : Bool) (v5 : Int) (p : List Nat := [1, 1, 0, 1, 0]) : Option d72 := from_ EE R L 14 Go.Proofs.Tryz.f14 p (mk 26 [(0, .dat ⟨t0, v0, .sh⟩), (1, .dat ⟨t0, v1, .sh⟩), (4, .dat ⟨.bool, v4, .sh⟩), (5, .dat ⟨(.int .i64), v5, .sh⟩)])
noncomputable def lp_l_markText_0 (v0 : Int) (v2 v3 : List UInt8) (p : List Nat := [1, 1, 1, 0, 0]) : Option d52 := from_ EE R L 193 Go.Proofs.Tryz.f193 p (mk 20 [(0, .dat ⟨(.int .i64), v0, .sh⟩), (2, .dat ⟨.str, v2, .sh⟩), (3, .dat ⟨.str, v3, .sh⟩)])
noncomputable def lp_l_markStringS_0 (v0 : List (List UInt8)) (v1 v4 v5 : Int) (p : List Nat := [1, 0, 1, 0]) : Option d76 := from_ EE R L 117 Go.Proofs.Tryz.f117 p (mk 20 [(0, .dat ⟨(.sl .str), v0, (.pin 0 (.own .sh))⟩), (1, .dat ⟨(.int .i64), v1, .sh⟩), (4, .dat ⟨(.int .i64), v4, .sh⟩), (5, .dat ⟨(.int .i64), v5, .sh⟩)])
noncomputable def lp_l_markIoS_0 (v0 : List d60) (v1 v4 v5 : Int) (p : List Nat := [1, 0, 1, 0]) : Option d77 := from_ EE R L 118 Go.Proofs.Tryz.f118 p (mk 28 [(0, .dat ⟨(.sl t24), v0, (.pin 0 (.own .sh))⟩), (1, .dat ⟨(.int .i64), v1, .sh⟩), (4, .dat ⟨(.int .i64), v4, .sh⟩), (5, .dat ⟨(.int .i64), v5, .sh⟩)])
noncomputable def lp_l_markOpS_0 (v0 : List d53) (v1 v4 v5 : Int) (p : List Nat := [1, 0, 1, 0]) : Option d80 := from_ EE R L 75 Go.Proofs.Tryz.f75 p (mk 34 [(0, .dat ⟨(.sl t3), v0, (.pin 0 (.own .sh))⟩), (1, .dat ⟨(.int .i64), v1, .sh⟩), (4, .dat ⟨(.int .i64), v4, .sh⟩), (5, .dat ⟨(.int .i64), v5, .sh⟩)])
noncomputable def lp_l_markTxnS_0 (v0 : List d54) (v1 v4 v5 : Int) (p : List Nat := [1, 0, 1, 0]) : Option d81 := from_ EE R L 29 Go.Proofs.Tryz.f29 p (mk 20 [(0, .dat ⟨(.sl t4), v0, (.pin 0 (.own (.pr (.own .sh) .sh)))⟩), (1, .dat ⟨(.int .i64), v1, .sh⟩), (4, .dat ⟨(.int .i64), v4, .sh⟩), (5, .dat ⟨(.int .i64), v5, .sh⟩)])
noncomputable def lp_l_markIntS_0 (v0 : List Int) (v1 v4 v5 : Int) (p : List Nat := [1, 0, 1, 0]) : Option d82 := from_ EE R L 15 Go.Proofs.Tryz.f15 p (mk 19 [(0, .dat ⟨t0, v0, (.pin 0 (.own .sh))⟩), (1, .dat ⟨(.int .i64), v1, .sh⟩), (4, .dat ⟨(.int .i64), v4, .sh⟩), (5, .dat ⟨(.int .i64), v5, .sh⟩)])
noncomputable def lp_l_heldStringS_0 (v0 : List (List UInt8)) (v1 v4 v5 : Int) (p : List Nat := [1, 0, 1, 0]) : Option d57 := from_ EE R L 119 Go.Proofs.Tryz.f119 p (mk 22 [(0, .dat ⟨(.sl .str), v0, .sh⟩), (1, .dat ⟨(.int .i64), v1, .sh⟩), (4, .dat ⟨(.int .i64), v4, .sh⟩), (5, .dat ⟨(.int .i64), v5, .sh⟩)])
noncomputable def lp_l_heldIoS_0 (v0 : List d60) (v1 v4 v5 : Int) (p : List Nat := [1, 0, 1, 0]) : Option d57 := from_ EE R L 120 Go.Proofs.Tryz.f120 p (mk 32 [(0, .dat ⟨(.sl t24), v0, .sh⟩), (1, .dat ⟨(.int .i64), v1, .sh⟩), (4, .dat ⟨(.int .i64), v4, .sh⟩), (5, .dat ⟨(.int .i64), v5, .sh⟩)])
noncomputable def lp_s_l05Fates_0 (v0 : List Int) (v3 : Int) (p : List Nat := [1, 0, 1, 0]) : Option d72 := from_ EE R L 147 Go.Proofs.Tryz.f147 p (mk 16 [(0, .dat ⟨t0, v0, .sh⟩), (3, .dat ⟨(.int .i64), v3, .sh⟩)])
noncomputable def lp_s_l05Crash_0 (v1 : List Int) (v2 v4 v5 : d61) (v6 : Int) (p : List Nat := [1, 1, 0, 1, 0]) : Option d67 := from_ EE R L 148 Go.Proofs.Tryz.f148 p (mk 78 [(1, .dat ⟨t0, v1, .sh⟩), (2, .dat ⟨(.ptr t25), v2, (.own .sh)⟩), (4, .dat ⟨(.ptr t25), v4, (.own (.pr (.own .sh) (.pr (.own .sh) .sh)))⟩), (5, .dat ⟨(.ptr t25), v5, (.own (.pr (.own .sh) (.pr (.own .sh) .sh)))⟩), (6, .dat ⟨(.int .i64), v6, .sh⟩)])
theorem q_slices_Clone___int_int_ (x0 : List Int) : @Eq _ (c_slices_Clone___int_int_ (bodyK EE R L) x0) (cond (Nat.beq x0.length 0)
 (agree
 (some ([], ()))
 (cond (lenOK (([] : List Int).length + x0.length))
 (some ([] ++ x0, ()))
 none))
 (cond (lenOK (([] : List Int).length + x0.length))
 (some ([] ++ x0, ()))
 none)) := by kernel_rfl
theorem q_i_textOf (x0 : List Int) (x1 : Int) : @Eq _ (c_i_textOf (bodyK EE R L) x0 x1) (cond (nonneg (IntKind.wrap .i64 (x1 - (x0.length : Int))))
 (cond (lenOK (IntKind.wrap .i64 (x1 - (x0.length : Int))).toNat)
 (cond (lenOK (x0.length + (List.replicate (IntKind.wrap .i64 (x1 - (x0.length : Int))).toNat (0 : Int)).length))
 ((c_i_intsText R (x0 ++ (List.replicate (IntKind.wrap .i64 (x1 - (x0.length : Int))).toNat 0))).bind fun r0 =>
 some (r0.1, ()))
 none)
 none)
 none) := by kernel_rfl
theorem q_i_entryText (x0 : List d54) (x1 : List Int) : @Eq _ (c_i_entryText (bodyK EE R L) x0 x1) ((c_slices_Clone___int_int_ R x1).bind fun r0 =>
 cond (lenOK (r0.1.length + ([(x0.length : Int)]).length))
 (lp_i_entryText_0 R L (r0.1 ++ [(x0.length : Int)]) x0 (x0.length : Int) 0)
 none) := by kernel_rfl
theorem q_i_entryText_0 (v5 : List Int) (v16 : List d54) (v17 v18 : Int) : @Eq _ (lp_i_entryText_0 R L v5 v16 v17 v18 ([1, 1, 0, 1, 0] ++ [0])) (cond (decide (v18 < v17))
 (cond (nonneg v18)
 (cond (Nat.blt v18.toNat v16.length)
 (cond (lenOK (v5.length + ([((v16.getD v18.toNat ([], ())).1.length : Int)]).length))
 (lp_i_entryText_1 R L (v5 ++ [((v16.getD v18.toNat ([], ())).1.length : Int)]) v16 v17 v18 (v16.getD v18.toNat ([], ())).1 ((v16.getD v18.toNat ([], ())).1.length : Int) 0)
 none)
 none)
 none)
 ((c_i_textOf R v5 68).bind fun r0 =>
 some (r0.1, ()))) := by kernel_rfl
theorem q_i_entryText_1 (v5 : List Int) (v16 : List d54) (v17 v18 : Int) (v29 : List d53) (v30 v31 : Int) : @Eq _ (lp_i_entryText_1 R L v5 v16 v17 v18 v29 v30 v31 ([1, 1, 0, 1, 0, 0, 1, 1, 0, 0, 1, 1, 1, 0] ++ [0])) (cond (decide (v31 < v30))
 (cond (nonneg v31)
 (cond (Nat.blt v31.toNat v29.length)
 (cond (lenOK (v5.length + ([(v29.getD v31.toNat (0, (0, (0, ())))).1, (v29.getD v31.toNat (0, (0, (0, ())))).2.1, (v29.getD v31.toNat (0, (0, (0, ())))).2.2.1]).length))
 (lp_i_entryText_1 R L (v5 ++ [(v29.getD v31.toNat (0, (0, (0, ())))).1, (v29.getD v31.toNat (0, (0, (0, ())))).2.1, (v29.getD v31.toNat (0, (0, (0, ())))).2.2.1]) v16 v17 v18 v29 v30 (IntKind.wrap .i64 (v31 + 1)))
 none)
 none)
 none)
 (lp_i_entryText_0 R L v5 v16 v17 (IntKind.wrap .i64 (v18 + 1)))) := by kernel_rfl
theorem q_s_l02Bytes (x0 : List Int) (x1 : Int) : @Eq _ (c_s_l02Bytes (bodyK EE R L) x0 x1) (cond (lenOK (x0.length + ([IntKind.wrap .u8 x1, IntKind.wrap .u8 (Int.fdiv x1 (2 ^ (Min.min (8 : Int).toNat (IntKind.bits .i64)))), IntKind.wrap .u8 (Int.fdiv x1 (2 ^ (Min.min (16 : Int).toNat (IntKind.bits .i64)))), IntKind.wrap .u8 (Int.fdiv x1 (2 ^ (Min.min (24 : Int).toNat (IntKind.bits .i64))))]).length))
 (some (x0 ++ [IntKind.wrap .u8 x1, IntKind.wrap .u8 (Int.fdiv x1 (2 ^ (Min.min (8 : Int).toNat (IntKind.bits .i64)))), IntKind.wrap .u8 (Int.fdiv x1 (2 ^ (Min.min (16 : Int).toNat (IntKind.bits .i64)))), IntKind.wrap .u8 (Int.fdiv x1 (2 ^ (Min.min (24 : Int).toNat (IntKind.bits .i64))))], ()))
 none) := by kernel_rfl
theorem q_s_l06Ints (x0 : List Int) : @Eq _ (c_s_l06Ints (bodyK EE R L) x0) (lp_s_l06Ints_0 R L x0 [] 0) := by kernel_rfl
theorem q_s_l06Ints_0 (v0 v3 : List Int) (v4 : Int) : @Eq _ (lp_s_l06Ints_0 R L v0 v3 v4 ([1, 1, 0, 1, 0] ++ [0])) (cond (decide (v4 < (v0.length : Int)))
 (cond (nonneg v4)
 (cond (Nat.blt v4.toNat v0.length)
 ((c_s_l02Bytes R v3 (v0.getD v4.toNat 0)).bind fun r0 =>
 lp_s_l06Ints_0 R L v0 r0.1 (IntKind.wrap .i64 (v4 + 1)))
 none)
 none)
 (some (List.map (fun (n : Int) => UInt8.ofNat n.toNat) v3, ()))) := by kernel_rfl
theorem q_s_l12Fill (x0 : List Int) (x1 : Int) : @Eq _ (c_s_l12Fill (bodyK EE R L) x0 x1) (lp_s_l12Fill_0 R L x0 x1) := by kernel_rfl
theorem q_s_l12Fill_0 (v0 : List Int) (v1 : Int) : @Eq _ (lp_s_l12Fill_0 R L v0 v1 ([1, 0, 0] ++ [0])) (cond (decide ((v0.length : Int) < v1))
 (cond (lenOK (v0.length + ([(0 : Int)]).length))
 (lp_s_l12Fill_0 R L (v0 ++ [0]) v1)
 none)
 ((c_s_l06Ints R v0).bind fun r0 =>
 some (r0.1, ()))) := by kernel_rfl
theorem q_s_l12Entry (x0 : List d54) (x1 : List Int) : @Eq _ (c_s_l12Entry (bodyK EE R L) x0 x1) (cond (lenOK (([] : List Int).length + x1.length))
 (cond (lenOK ((([] : List Int) ++ x1).length + ([(x0.length : Int)]).length))
 (lp_s_l12Entry_0 R L x0 (([] ++ x1) ++ [(x0.length : Int)]) 0)
 none)
 none) := by kernel_rfl
theorem q_s_l12Entry_0 (v0 : List d54) (v5 : List Int) (v6 : Int) : @Eq _ (lp_s_l12Entry_0 R L v0 v5 v6 ([1, 1, 0, 1, 0] ++ [0])) (cond (decide (v6 < (v0.length : Int)))
 (cond (nonneg v6)
 (cond (Nat.blt v6.toNat v0.length)
 (cond (lenOK (v5.length + ([((v0.getD v6.toNat ([], ())).1.length : Int)]).length))
 (lp_s_l12Entry_1 R L v0 (v5 ++ [((v0.getD v6.toNat ([], ())).1.length : Int)]) v6 0)
 none)
 none)
 none)
 ((c_s_l12Fill R v5 68).bind fun r0 =>
 some (r0.1, ()))) := by kernel_rfl
theorem q_s_l12Entry_1 (v0 : List d54) (v5 : List Int) (v6 v7 : Int) : @Eq _ (lp_s_l12Entry_1 R L v0 v5 v6 v7 ([1, 1, 0, 1, 0, 0, 1, 0, 0, 1, 1, 0] ++ [0])) (cond (nonneg v6)
 (cond (Nat.blt v6.toNat v0.length)
 (cond (decide (v7 < ((v0.getD v6.toNat ([], ())).1.length : Int)))
 (cond (nonneg v6)
 (cond (Nat.blt v6.toNat v0.length)
 (cond (nonneg v7)
 (cond (Nat.blt v7.toNat (v0.getD v6.toNat ([], ())).1.length)
 (cond (lenOK (v5.length + ([((v0.getD v6.toNat ([], ())).1.getD v7.toNat (0, (0, (0, ())))).1, ((v0.getD v6.toNat ([], ())).1.getD v7.toNat (0, (0, (0, ())))).2.1, ((v0.getD v6.toNat ([], ())).1.getD v7.toNat (0, (0, (0, ())))).2.2.1]).length))
 (lp_s_l12Entry_1 R L v0 (v5 ++ [((v0.getD v6.toNat ([], ())).1.getD v7.toNat (0, (0, (0, ())))).1, ((v0.getD v6.toNat ([], ())).1.getD v7.toNat (0, (0, (0, ())))).2.1, ((v0.getD v6.toNat ([], ())).1.getD v7.toNat (0, (0, (0, ())))).2.2.1]) v6 (IntKind.wrap .i64 (v7 + 1)))
 none)
 none)
 none)
 none)
 none)
 (lp_s_l12Entry_0 R L v0 v5 (IntKind.wrap .i64 (v6 + 1))))
 none)
 none) := by kernel_rfl
theorem q_s_l01Start : @Eq _ (c_s_l01Start (bodyK EE R L)) (some ([1779033703, 3144134277, 1013904242, 2773480762, 1359893119, 2600822924, 528734635, 1541459225], ())) := by kernel_rfl
theorem q_s_NewHash : @Eq _ (c_s_NewHash (bodyK EE R L)) ((c_s_l01Start R).bind fun r0 =>
 some ((r0.1, ([], (0, ()))), ())) := by kernel_rfl
theorem q_s_l01Word (x0 : List UInt8) (x1 : Int) : @Eq _ (c_s_l01Word (bodyK EE R L) x0 x1) (cond (nonneg x1)
 (cond (Nat.blt x1.toNat x0.length)
 (cond (nonneg (IntKind.wrap .i64 (x1 + 1)))
 (cond (Nat.blt (IntKind.wrap .i64 (x1 + 1)).toNat x0.length)
 (cond (nonneg (IntKind.wrap .i64 (x1 + 2)))
 (cond (Nat.blt (IntKind.wrap .i64 (x1 + 2)).toNat x0.length)
 (cond (nonneg (IntKind.wrap .i64 (x1 + 3)))
 (cond (Nat.blt (IntKind.wrap .i64 (x1 + 3)).toNat x0.length)
 (some (bitI .or .i64 (bitI .or .i64 (bitI .or .i64 (IntKind.wrap .i64 ((IntKind.wrap .i64 (UInt8.toNat (x0.getD x1.toNat 0) : Int)) * (2 ^ (Min.min (24 : Int).toNat (IntKind.bits .i64))))) (IntKind.wrap .i64 ((IntKind.wrap .i64 (UInt8.toNat (x0.getD (IntKind.wrap .i64 (x1 + 1)).toNat 0) : Int)) * (2 ^ (Min.min (16 : Int).toNat (IntKind.bits .i64)))))) (IntKind.wrap .i64 ((IntKind.wrap .i64 (UInt8.toNat (x0.getD (IntKind.wrap .i64 (x1 + 2)).toNat 0) : Int)) * (2 ^ (Min.min (8 : Int).toNat (IntKind.bits .i64)))))) (IntKind.wrap .i64 (UInt8.toNat (x0.getD (IntKind.wrap .i64 (x1 + 3)).toNat 0) : Int)), ()))
 none)
 none)
 none)
 none)
 none)
 none)
 none)
 none) := by kernel_rfl
theorem q_s_l01Right (x0 x1 : Int) : @Eq _ (c_s_l01Right (bodyK EE R L) x0 x1) (cond (decide (x1 < 0))
 none
 (cond (decide ((IntKind.wrap .i64 (32 - x1)) < 0))
 none
 (some (bitI .and .i64 (bitI .or .i64 (Int.fdiv x0 (2 ^ (Min.min x1.toNat (IntKind.bits .i64)))) (IntKind.wrap .i64 (x0 * (2 ^ (Min.min (IntKind.wrap .i64 (32 - x1)).toNat (IntKind.bits .i64)))))) 4294967295, ())))) := by kernel_rfl
theorem q_s_l01Table : @Eq _ (c_s_l01Table (bodyK EE R L)) (some ([1116352408, 1899447441, 3049323471, 3921009573, 961987163, 1508970993, 2453635748, 2870763221, 3624381080, 310598401, 607225278, 1426881987, 1925078388, 2162078206, 2614888103, 3248222580, 3835390401, 4022224774, 264347078, 604807628, 770255983, 1249150122, 1555081692, 1996064986, 2554220882, 2821834349, 2952996808, 3210313671, 3336571891, 3584528711, 113926993, 338241895, 666307205, 773529912, 1294757372, 1396182291, 1695183700, 1986661051, 2177026350, 2456956037, 2730485921, 2820302411, 3259730800, 3345764771, 3516065817, 3600352804, 4094571909, 275423344, 430227734, 506948616, 659060556, 883997877, 958139571, 1322822218, 1537002063, 1747873779, 1955562222, 2024104815, 2227730452, 2361852424, 2428436474, 2756734187, 3204031479, 3329325298], ())) := by kernel_rfl
theorem q_s_l01Block (x0 : List Int) (x1 : List UInt8) : @Eq _ (c_s_l01Block (bodyK EE R L) x0 x1) (lp_s_l01Block_0 R L x1 x0 (List.replicate 8 0) [0, 0, 0, 0, 0, 0, 0, 0, 0, 0, 0, 0, 0, 0, 0, 0, 0, 0, 0, 0, 0, 0, 0, 0, 0, 0, 0, 0, 0, 0, 0, 0, 0, 0, 0, 0, 0, 0, 0, 0, 0, 0, 0, 0, 0, 0, 0, 0, 0, 0, 0, 0, 0, 0, 0, 0, 0, 0, 0, 0, 0, 0, 0, 0] 0) := by kernel_rfl
theorem q_s_l01Block_0 (v1 : List UInt8) (v2 v4 v5 : List Int) (v6 : Int) : @Eq _ (lp_s_l01Block_0 R L v1 v2 v4 v5 v6 ([1, 1, 0, 1, 0] ++ [0])) (cond (decide (v6 < 16))
 ((c_s_l01Word R v1 (IntKind.wrap .i64 (4 * v6))).bind fun r0 =>
 cond (nonneg v6)
 (cond (Nat.blt v6.toNat 64)
 (lp_s_l01Block_0 R L v1 v2 v4 (v5.set v6.toNat r0.1) (IntKind.wrap .i64 (v6 + 1)))
 none)
 none)
 (lp_s_l01Block_1 R L v2 v4 v5 16)) := by kernel_rfl
theorem q_s_l01Block_1 (v2 v4 v5 : List Int) (v7 : Int) : @Eq _ (lp_s_l01Block_1 R L v2 v4 v5 v7 ([1, 1, 1, 0, 1, 0] ++ [0])) (cond (decide (v7 < 64))
 (cond (nonneg (IntKind.wrap .i64 (v7 - 15)))
 (cond (Nat.blt (IntKind.wrap .i64 (v7 - 15)).toNat 64)
 ((c_s_l01Right R (v5.getD (IntKind.wrap .i64 (v7 - 15)).toNat 0) 7).bind fun r0 =>
 cond (nonneg (IntKind.wrap .i64 (v7 - 15)))
 (cond (Nat.blt (IntKind.wrap .i64 (v7 - 15)).toNat 64)
 ((c_s_l01Right R (v5.getD (IntKind.wrap .i64 (v7 - 15)).toNat 0) 18).bind fun r1 =>
 cond (nonneg (IntKind.wrap .i64 (v7 - 15)))
 (cond (Nat.blt (IntKind.wrap .i64 (v7 - 15)).toNat 64)
 (cond (nonneg (IntKind.wrap .i64 (v7 - 2)))
 (cond (Nat.blt (IntKind.wrap .i64 (v7 - 2)).toNat 64)
 ((c_s_l01Right R (v5.getD (IntKind.wrap .i64 (v7 - 2)).toNat 0) 17).bind fun r2 =>
 cond (nonneg (IntKind.wrap .i64 (v7 - 2)))
 (cond (Nat.blt (IntKind.wrap .i64 (v7 - 2)).toNat 64)
 ((c_s_l01Right R (v5.getD (IntKind.wrap .i64 (v7 - 2)).toNat 0) 19).bind fun r3 =>
 cond (nonneg (IntKind.wrap .i64 (v7 - 2)))
 (cond (Nat.blt (IntKind.wrap .i64 (v7 - 2)).toNat 64)
 (cond (nonneg (IntKind.wrap .i64 (v7 - 16)))
 (cond (Nat.blt (IntKind.wrap .i64 (v7 - 16)).toNat 64)
 (cond (nonneg (IntKind.wrap .i64 (v7 - 7)))
 (cond (Nat.blt (IntKind.wrap .i64 (v7 - 7)).toNat 64)
 (cond (nonneg v7)
 (cond (Nat.blt v7.toNat 64)
 (lp_s_l01Block_1 R L v2 v4 (v5.set v7.toNat (bitI .and .i64 (IntKind.wrap .i64 ((IntKind.wrap .i64 ((IntKind.wrap .i64 ((v5.getD (IntKind.wrap .i64 (v7 - 16)).toNat 0) + (bitI .xor .i64 (bitI .xor .i64 r0.1 r1.1) (Int.fdiv (v5.getD (IntKind.wrap .i64 (v7 - 15)).toNat 0) (2 ^ (Min.min (3 : Int).toNat (IntKind.bits .i64))))))) + (v5.getD (IntKind.wrap .i64 (v7 - 7)).toNat 0))) + (bitI .xor .i64 (bitI .xor .i64 r2.1 r3.1) (Int.fdiv (v5.getD (IntKind.wrap .i64 (v7 - 2)).toNat 0) (2 ^ (Min.min (10 : Int).toNat (IntKind.bits .i64))))))) 4294967295)) (IntKind.wrap .i64 (v7 + 1)))
 none)
 none)
 none)
 none)
 none)
 none)
 none)
 none)
 none)
 none)
 none)
 none)
 none)
 none)
 none)
 none)
 none)
 none)
 ((c_s_l01Table R).bind fun r0 =>
 lp_s_l01Block_2 R L v2 v4 v5 r0.1 v2 0)) := by kernel_rfl
theorem q_s_l01Block_2 (v2 v4 v5 v10 v11 : List Int) (v12 : Int) : @Eq _ (lp_s_l01Block_2 R L v2 v4 v5 v10 v11 v12 ([1, 1, 1, 1, 1, 1, 0, 1, 0] ++ [0])) (cond (decide (v12 < 64))
 ((c_s_l01Right R (v11.getD (4 : Int).toNat 0) 6).bind fun r0 =>
 (c_s_l01Right R (v11.getD (4 : Int).toNat 0) 11).bind fun r1 =>
 (c_s_l01Right R (v11.getD (4 : Int).toNat 0) 25).bind fun r2 =>
 cond (nonneg v12)
 (cond (Nat.blt v12.toNat 64)
 (cond (nonneg v12)
 (cond (Nat.blt v12.toNat 64)
 ((c_s_l01Right R (v11.getD (0 : Int).toNat 0) 2).bind fun r3 =>
 (c_s_l01Right R (v11.getD (0 : Int).toNat 0) 13).bind fun r4 =>
 (c_s_l01Right R (v11.getD (0 : Int).toNat 0) 22).bind fun r5 =>
 lp_s_l01Block_2 R L v2 v4 v5 v10 [bitI .and .i64 (IntKind.wrap .i64 ((IntKind.wrap .i64 ((IntKind.wrap .i64 ((IntKind.wrap .i64 ((IntKind.wrap .i64 ((IntKind.wrap .i64 ((v11.getD (7 : Int).toNat 0) + (bitI .xor .i64 (bitI .xor .i64 r0.1 r1.1) r2.1))) + (bitI .xor .i64 (bitI .and .i64 (v11.getD (4 : Int).toNat 0) (v11.getD (5 : Int).toNat 0)) (bitI .and .i64 (bitI .xor .i64 4294967295 (v11.getD (4 : Int).toNat 0)) (v11.getD (6 : Int).toNat 0))))) + (v10.getD v12.toNat 0))) + (v5.getD v12.toNat 0))) + (bitI .xor .i64 (bitI .xor .i64 r3.1 r4.1) r5.1))) + (bitI .xor .i64 (bitI .xor .i64 (bitI .and .i64 (v11.getD (0 : Int).toNat 0) (v11.getD (1 : Int).toNat 0)) (bitI .and .i64 (v11.getD (0 : Int).toNat 0) (v11.getD (2 : Int).toNat 0))) (bitI .and .i64 (v11.getD (1 : Int).toNat 0) (v11.getD (2 : Int).toNat 0))))) 4294967295, v11.getD (0 : Int).toNat 0, v11.getD (1 : Int).toNat 0, v11.getD (2 : Int).toNat 0, bitI .and .i64 (IntKind.wrap .i64 ((v11.getD (3 : Int).toNat 0) + (IntKind.wrap .i64 ((IntKind.wrap .i64 ((IntKind.wrap .i64 ((IntKind.wrap .i64 ((v11.getD (7 : Int).toNat 0) + (bitI .xor .i64 (bitI .xor .i64 r0.1 r1.1) r2.1))) + (bitI .xor .i64 (bitI .and .i64 (v11.getD (4 : Int).toNat 0) (v11.getD (5 : Int).toNat 0)) (bitI .and .i64 (bitI .xor .i64 4294967295 (v11.getD (4 : Int).toNat 0)) (v11.getD (6 : Int).toNat 0))))) + (v10.getD v12.toNat 0))) + (v5.getD v12.toNat 0))))) 4294967295, v11.getD (4 : Int).toNat 0, v11.getD (5 : Int).toNat 0, v11.getD (6 : Int).toNat 0] (IntKind.wrap .i64 (v12 + 1)))
 none)
 none)
 none)
 none)
 (lp_s_l01Block_3 R L v2 v4 v11 0)) := by kernel_rfl
theorem q_s_l01Block_3 (v2 v4 v11 : List Int) (v18 : Int) : @Eq _ (lp_s_l01Block_3 R L v2 v4 v11 v18 ([1, 1, 1, 1, 1, 1, 1, 0, 1, 0] ++ [0])) (cond (decide (v18 < 8))
 (cond (nonneg v18)
 (cond (Nat.blt v18.toNat 8)
 (cond (nonneg v18)
 (cond (Nat.blt v18.toNat 8)
 (cond (nonneg v18)
 (cond (Nat.blt v18.toNat 8)
 (lp_s_l01Block_3 R L (v2.set v18.toNat (bitI .and .i64 (IntKind.wrap .i64 ((v2.getD v18.toNat 0) + (v11.getD v18.toNat 0))) 4294967295)) v4 v11 (IntKind.wrap .i64 (v18 + 1)))
 none)
 none)
 none)
 none)
 none)
 none)
 (some (v2, ()))) := by kernel_rfl
theorem q_s_l01More (x0 : d55) (x1 : List UInt8) : @Eq _ (c_s_l01More (bodyK EE R L) x0 x1) (cond (lenOK (x0.2.1.length + x1.length))
 (lp_s_l01More_0 R L (x0.1, (x0.2.1 ++ x1, (IntKind.wrap .i64 (x0.2.2.1 + (x1.length : Int)), x0.2.2.2))) (List.replicate 8 0, ([], (0, ()))))
 none) := by kernel_rfl
theorem q_s_l01More_0 (v2 v4 : d55) : @Eq _ (lp_s_l01More_0 R L v2 v4 ([1, 1, 1, 0, 0] ++ [0])) (cond (decide (64 ≤ (v2.2.1.length : Int)))
 ((c_s_l01Block R v2.1 v2.2.1).bind fun r0 =>
 cond (Nat.ble v2.2.1.length v2.2.1.length)
 (cond (Nat.ble (64 : Int).toNat v2.2.1.length)
 (lp_s_l01More_0 R L (r0.1, (List.drop (64 : Int).toNat (List.take v2.2.1.length v2.2.1), v2.2.2)) v4)
 none)
 none)
 (some (v2, ()))) := by kernel_rfl
theorem q_s_l01Sum (x0 : d55) : @Eq _ (c_s_l01Sum (bodyK EE R L) x0) (lp_s_l01Sum_0 R L x0 (IntKind.wrap .i64 (8 * x0.2.2.1)) [128]) := by kernel_rfl
theorem q_s_l01Sum_0 (v1 : d55) (v3 : Int) (v4 : List Int) : @Eq _ (lp_s_l01Sum_0 R L v1 v3 v4 ([1, 1, 1, 0, 0] ++ [0])) (cond (!(eqI (Int.tmod (IntKind.wrap .i64 (v1.2.2.1 + (v4.length : Int))) 64) 56))
 (cond (lenOK (v4.length + ([(0 : Int)]).length))
 (lp_s_l01Sum_0 R L v1 v3 (v4 ++ [0]))
 none)
 (lp_s_l01Sum_1 R L v1 v3 v4 7)) := by kernel_rfl
theorem q_s_l01Sum_1 (v1 : d55) (v3 : Int) (v4 : List Int) (v5 : Int) : @Eq _ (lp_s_l01Sum_1 R L v1 v3 v4 v5 ([1, 1, 1, 1, 0, 1, 0] ++ [0])) (cond (decide (0 ≤ v5))
 (cond (decide ((IntKind.wrap .i64 (8 * v5)) < 0))
 none
 (cond (lenOK (v4.length + ([IntKind.wrap .u8 (Int.fdiv v3 (2 ^ (Min.min (IntKind.wrap .i64 (8 * v5)).toNat (IntKind.bits .i64))))]).length))
 (lp_s_l01Sum_1 R L v1 v3 (v4 ++ [IntKind.wrap .u8 (Int.fdiv v3 (2 ^ (Min.min (IntKind.wrap .i64 (8 * v5)).toNat (IntKind.bits .i64))))]) (IntKind.wrap .i64 (v5 - 1)))
 none))
 ((c_s_l01More R v1 (List.map (fun (n : Int) => UInt8.ofNat n.toNat) v4)).bind fun r0 =>
 lp_s_l01Sum_2 R L r0.1 [] 0)) := by kernel_rfl
theorem q_s_l01Sum_2 (v1 : d55) (v6 : List Int) (v7 : Int) : @Eq _ (lp_s_l01Sum_2 R L v1 v6 v7 ([1, 1, 1, 1, 1, 1, 1, 0, 1, 0] ++ [0])) (cond (decide (v7 < 8))
 (lp_s_l01Sum_3 R L v1 v6 v7 3)
 (some (List.map (fun (n : Int) => UInt8.ofNat n.toNat) v6, ()))) := by kernel_rfl
theorem q_s_l01Sum_3 (v1 : d55) (v6 : List Int) (v7 v8 : Int) : @Eq _ (lp_s_l01Sum_3 R L v1 v6 v7 v8 ([1, 1, 1, 1, 1, 1, 1, 0, 1, 0, 0, 1, 0, 0, 1, 0] ++ [0])) (cond (decide (0 ≤ v8))
 (cond (nonneg v7)
 (cond (Nat.blt v7.toNat 8)
 (cond (decide ((IntKind.wrap .i64 (8 * v8)) < 0))
 none
 (cond (lenOK (v6.length + ([IntKind.wrap .u8 (Int.fdiv (v1.1.getD v7.toNat 0) (2 ^ (Min.min (IntKind.wrap .i64 (8 * v8)).toNat (IntKind.bits .i64))))]).length))
 (lp_s_l01Sum_3 R L v1 (v6 ++ [IntKind.wrap .u8 (Int.fdiv (v1.1.getD v7.toNat 0) (2 ^ (Min.min (IntKind.wrap .i64 (8 * v8)).toNat (IntKind.bits .i64))))]) v7 (IntKind.wrap .i64 (v8 - 1)))
 none))
 none)
 none)
 (lp_s_l01Sum_2 R L v1 v6 (IntKind.wrap .i64 (v7 + 1)))) := by kernel_rfl
theorem q_s_l01Of (x0 : List UInt8) : @Eq _ (c_s_l01Of (bodyK EE R L) x0) ((c_s_NewHash R).bind fun r0 =>
 (c_s_l01More R r0.1 x0).bind fun r1 =>
 (c_s_l01Sum R r1.1).bind fun r2 =>
 some (r2.1, ())) := by kernel_rfl
theorem q_i_NewHash : @Eq _ (c_i_NewHash (bodyK EE R L)) (some (([1779033703, 3144134277, 1013904242, 2773480762, 1359893119, 2600822924, 528734635, 1541459225], ([], (0, ()))), ())) := by kernel_rfl
theorem q_i_constants : @Eq _ (c_i_constants (bodyK EE R L)) (some ([1116352408, 1899447441, 3049323471, 3921009573, 961987163, 1508970993, 2453635748, 2870763221, 3624381080, 310598401, 607225278, 1426881987, 1925078388, 2162078206, 2614888103, 3248222580, 3835390401, 4022224774, 264347078, 604807628, 770255983, 1249150122, 1555081692, 1996064986, 2554220882, 2821834349, 2952996808, 3210313671, 3336571891, 3584528711, 113926993, 338241895, 666307205, 773529912, 1294757372, 1396182291, 1695183700, 1986661051, 2177026350, 2456956037, 2730485921, 2820302411, 3259730800, 3345764771, 3516065817, 3600352804, 4094571909, 275423344, 430227734, 506948616, 659060556, 883997877, 958139571, 1322822218, 1537002063, 1747873779, 1955562222, 2024104815, 2227730452, 2361852424, 2428436474, 2756734187, 3204031479, 3329325298], ())) := by kernel_rfl
theorem q_math_bits_RotateLeft32 (x0 x1 : Int) : @Eq _ (c_math_bits_RotateLeft32 (bodyK EE R L) x0 x1) (cond (decide ((IntKind.wrap .u64 (32 - (bitI .and .u64 (IntKind.wrap .u64 x1) 31))) < 0))
 none
 (some (bitI .or .u32 (IntKind.wrap .u32 (x0 * (2 ^ (Min.min (bitI .and .u64 (IntKind.wrap .u64 x1) 31).toNat (IntKind.bits .u32))))) (Int.fdiv x0 (2 ^ (Min.min (IntKind.wrap .u64 (32 - (bitI .and .u64 (IntKind.wrap .u64 x1) 31))).toNat (IntKind.bits .u32)))), ()))) := by kernel_rfl
theorem q_i_turned (x0 x1 : Int) : @Eq _ (c_i_turned (bodyK EE R L) x0 x1) ((c_math_bits_RotateLeft32 R x0 (negI .i64 x1)).bind fun r0 =>
 some (r0.1, ())) := by kernel_rfl
theorem q_pimpl_Hash_block (x0 : d55) (x1 : List UInt8) (x2 : List Int) : @Eq _ (c_pimpl_Hash_block (bodyK EE R L) x0 x1 x2) (lp_pimpl_Hash_block_0 R L x0 x1 x2 (List.replicate 64 0) 0) := by kernel_rfl
theorem q_pimpl_Hash_block_0 (v0 : d55) (v1 : List UInt8) (v2 v6 : List Int) (v25 : Int) : @Eq _ (lp_pimpl_Hash_block_0 R L v0 v1 v2 v6 v25 ([1, 0, 1, 0] ++ [0])) (cond (decide (v25 < 16))
 (cond (nonneg (IntKind.wrap .i64 (4 * v25)))
 (cond (Nat.blt (IntKind.wrap .i64 (4 * v25)).toNat v1.length)
 (cond (nonneg (IntKind.wrap .i64 ((IntKind.wrap .i64 (4 * v25)) + 1)))
 (cond (Nat.blt (IntKind.wrap .i64 ((IntKind.wrap .i64 (4 * v25)) + 1)).toNat v1.length)
 (cond (nonneg (IntKind.wrap .i64 ((IntKind.wrap .i64 (4 * v25)) + 2)))
 (cond (Nat.blt (IntKind.wrap .i64 ((IntKind.wrap .i64 (4 * v25)) + 2)).toNat v1.length)
 (cond (nonneg (IntKind.wrap .i64 ((IntKind.wrap .i64 (4 * v25)) + 3)))
 (cond (Nat.blt (IntKind.wrap .i64 ((IntKind.wrap .i64 (4 * v25)) + 3)).toNat v1.length)
 (cond (nonneg v25)
 (cond (Nat.blt v25.toNat 64)
 (lp_pimpl_Hash_block_0 R L v0 v1 v2 (v6.set v25.toNat (bitI .or .u32 (bitI .or .u32 (bitI .or .u32 (IntKind.wrap .u32 ((IntKind.wrap .u32 (UInt8.toNat (v1.getD (IntKind.wrap .i64 (4 * v25)).toNat 0) : Int)) * (2 ^ (Min.min (24 : Int).toNat (IntKind.bits .u32))))) (IntKind.wrap .u32 ((IntKind.wrap .u32 (UInt8.toNat (v1.getD (IntKind.wrap .i64 ((IntKind.wrap .i64 (4 * v25)) + 1)).toNat 0) : Int)) * (2 ^ (Min.min (16 : Int).toNat (IntKind.bits .u32)))))) (IntKind.wrap .u32 ((IntKind.wrap .u32 (UInt8.toNat (v1.getD (IntKind.wrap .i64 ((IntKind.wrap .i64 (4 * v25)) + 2)).toNat 0) : Int)) * (2 ^ (Min.min (8 : Int).toNat (IntKind.bits .u32)))))) (IntKind.wrap .u32 (UInt8.toNat (v1.getD (IntKind.wrap .i64 ((IntKind.wrap .i64 (4 * v25)) + 3)).toNat 0) : Int)))) (IntKind.wrap .i64 (v25 + 1)))
 none)
 none)
 none)
 none)
 none)
 none)
 none)
 none)
 none)
 none)
 (lp_pimpl_Hash_block_1 R L v0 v2 v6 16)) := by kernel_rfl
theorem q_pimpl_Hash_block_1 (v0 : d55) (v2 v6 : List Int) (v8 : Int) : @Eq _ (lp_pimpl_Hash_block_1 R L v0 v2 v6 v8 ([1, 1, 0, 1, 0] ++ [0])) (cond (decide (v8 < 64))
 (cond (nonneg (IntKind.wrap .i64 (v8 - 15)))
 (cond (Nat.blt (IntKind.wrap .i64 (v8 - 15)).toNat 64)
 (cond (nonneg (IntKind.wrap .i64 (v8 - 2)))
 (cond (Nat.blt (IntKind.wrap .i64 (v8 - 2)).toNat 64)
 (cond (nonneg (IntKind.wrap .i64 (v8 - 16)))
 (cond (Nat.blt (IntKind.wrap .i64 (v8 - 16)).toNat 64)
 ((c_i_turned R (v6.getD (IntKind.wrap .i64 (v8 - 15)).toNat 0) 7).bind fun r0 =>
 (c_i_turned R (v6.getD (IntKind.wrap .i64 (v8 - 15)).toNat 0) 18).bind fun r1 =>
 cond (nonneg (IntKind.wrap .i64 (v8 - 7)))
 (cond (Nat.blt (IntKind.wrap .i64 (v8 - 7)).toNat 64)
 ((c_i_turned R (v6.getD (IntKind.wrap .i64 (v8 - 2)).toNat 0) 17).bind fun r2 =>
 (c_i_turned R (v6.getD (IntKind.wrap .i64 (v8 - 2)).toNat 0) 19).bind fun r3 =>
 cond (nonneg v8)
 (cond (Nat.blt v8.toNat 64)
 (lp_pimpl_Hash_block_1 R L v0 v2 (v6.set v8.toNat (IntKind.wrap .u32 ((IntKind.wrap .u32 ((IntKind.wrap .u32 ((v6.getD (IntKind.wrap .i64 (v8 - 16)).toNat 0) + (bitI .xor .u32 (bitI .xor .u32 r0.1 r1.1) (Int.fdiv (v6.getD (IntKind.wrap .i64 (v8 - 15)).toNat 0) (2 ^ (Min.min (3 : Int).toNat (IntKind.bits .u32))))))) + (v6.getD (IntKind.wrap .i64 (v8 - 7)).toNat 0))) + (bitI .xor .u32 (bitI .xor .u32 r2.1 r3.1) (Int.fdiv (v6.getD (IntKind.wrap .i64 (v8 - 2)).toNat 0) (2 ^ (Min.min (10 : Int).toNat (IntKind.bits .u32)))))))) (IntKind.wrap .i64 (v8 + 1)))
 none)
 none)
 none)
 none)
 none)
 none)
 none)
 none)
 none)
 none)
 (lp_pimpl_Hash_block_2 R L v0 v2 v6 (List.replicate 8 0) v0.1 0)) := by kernel_rfl
theorem q_pimpl_Hash_block_2 (v0 : d55) (v2 v6 v11 v104 : List Int) (v105 : Int) : @Eq _ (lp_pimpl_Hash_block_2 R L v0 v2 v6 v11 v104 v105 ([1, 1, 1, 1, 0, 1, 0] ++ [0])) (cond (decide (v105 < 8))
 (cond (nonneg v105)
 (cond (Nat.blt v105.toNat 8)
 (cond (nonneg v105)
 (cond (Nat.blt v105.toNat 8)
 (lp_pimpl_Hash_block_2 R L v0 v2 v6 (v11.set v105.toNat (IntKind.wrap .u32 (v104.getD v105.toNat 0))) v104 (IntKind.wrap .i64 (v105 + 1)))
 none)
 none)
 none)
 none)
 (lp_pimpl_Hash_block_3 R L v0 v2 v6 v11 0)) := by kernel_rfl
theorem q_pimpl_Hash_block_3 (v0 : d55) (v2 v6 v11 : List Int) (v114 : Int) : @Eq _ (lp_pimpl_Hash_block_3 R L v0 v2 v6 v11 v114 ([1, 1, 1, 1, 1, 0, 1, 0] ++ [0])) (cond (decide (v114 < 64))
 ((c_i_turned R (v11.getD (4 : Int).toNat 0) 6).bind fun r0 =>
 (c_i_turned R (v11.getD (4 : Int).toNat 0) 11).bind fun r1 =>
 (c_i_turned R (v11.getD (4 : Int).toNat 0) 25).bind fun r2 =>
 cond (nonneg v114)
 (cond (Nat.blt v114.toNat 64)
 (cond (nonneg v114)
 (cond (Nat.blt v114.toNat 64)
 ((c_i_turned R (v11.getD (0 : Int).toNat 0) 2).bind fun r3 =>
 (c_i_turned R (v11.getD (0 : Int).toNat 0) 13).bind fun r4 =>
 (c_i_turned R (v11.getD (0 : Int).toNat 0) 22).bind fun r5 =>
 lp_pimpl_Hash_block_3 R L v0 v2 v6 [IntKind.wrap .u32 ((IntKind.wrap .u32 ((IntKind.wrap .u32 ((IntKind.wrap .u32 ((IntKind.wrap .u32 ((v11.getD (7 : Int).toNat 0) + (bitI .xor .u32 (bitI .xor .u32 r0.1 r1.1) r2.1))) + (bitI .xor .u32 (bitI .and .u32 (v11.getD (4 : Int).toNat 0) (v11.getD (5 : Int).toNat 0)) (bitI .and .u32 (bitI .xor .u32 ((2 ^ (IntKind.bits .u32)) - 1) (v11.getD (4 : Int).toNat 0)) (v11.getD (6 : Int).toNat 0))))) + (v2.getD v114.toNat 0))) + (v6.getD v114.toNat 0))) + (IntKind.wrap .u32 ((bitI .xor .u32 (bitI .xor .u32 r3.1 r4.1) r5.1) + (bitI .xor .u32 (bitI .xor .u32 (bitI .and .u32 (v11.getD (0 : Int).toNat 0) (v11.getD (1 : Int).toNat 0)) (bitI .and .u32 (v11.getD (0 : Int).toNat 0) (v11.getD (2 : Int).toNat 0))) (bitI .and .u32 (v11.getD (1 : Int).toNat 0) (v11.getD (2 : Int).toNat 0)))))), v11.getD (0 : Int).toNat 0, v11.getD (1 : Int).toNat 0, v11.getD (2 : Int).toNat 0, IntKind.wrap .u32 ((v11.getD (3 : Int).toNat 0) + (IntKind.wrap .u32 ((IntKind.wrap .u32 ((IntKind.wrap .u32 ((IntKind.wrap .u32 ((v11.getD (7 : Int).toNat 0) + (bitI .xor .u32 (bitI .xor .u32 r0.1 r1.1) r2.1))) + (bitI .xor .u32 (bitI .and .u32 (v11.getD (4 : Int).toNat 0) (v11.getD (5 : Int).toNat 0)) (bitI .and .u32 (bitI .xor .u32 ((2 ^ (IntKind.bits .u32)) - 1) (v11.getD (4 : Int).toNat 0)) (v11.getD (6 : Int).toNat 0))))) + (v2.getD v114.toNat 0))) + (v6.getD v114.toNat 0)))), v11.getD (4 : Int).toNat 0, v11.getD (5 : Int).toNat 0, v11.getD (6 : Int).toNat 0] (IntKind.wrap .i64 (v114 + 1)))
 none)
 none)
 none)
 none)
 (lp_pimpl_Hash_block_4 R L v0 v11 0)) := by kernel_rfl
theorem q_pimpl_Hash_block_4 (v0 : d55) (v194 : List Int) (v195 : Int) : @Eq _ (lp_pimpl_Hash_block_4 R L v0 v194 v195 ([1, 1, 1, 1, 1, 1, 1, 0] ++ [0])) (cond (decide (v195 < 8))
 (cond (nonneg v195)
 (cond (Nat.blt v195.toNat 8)
 (cond (nonneg v195)
 (cond (Nat.blt v195.toNat 8)
 (cond (nonneg v195)
 (cond (Nat.blt v195.toNat 8)
 (lp_pimpl_Hash_block_4 R L (v0.1.set v195.toNat (IntKind.wrap .i64 (IntKind.wrap .u32 ((IntKind.wrap .u32 (v0.1.getD v195.toNat 0)) + (v194.getD v195.toNat 0)))), v0.2) v194 (IntKind.wrap .i64 (v195 + 1)))
 none)
 none)
 none)
 none)
 none)
 none)
 (some (v0, ()))) := by kernel_rfl
theorem q_i_Hash_more (x0 : d55) (x1 : List UInt8) : @Eq _ (c_i_Hash_more (bodyK EE R L) x0 x1) ((c_i_constants R).bind fun r0 =>
 cond (lenOK (x0.2.1.length + x1.length))
 (lp_i_Hash_more_0 R L (x0.2.1 ++ x1) (x0.1, (x0.2.1, (IntKind.wrap .i64 (x0.2.2.1 + (x1.length : Int)), x0.2.2.2))) (List.replicate 8 0, ([], (0, ()))) r0.1)
 none) := by kernel_rfl
theorem q_i_Hash_more_0 (v1 : List UInt8) (v2 v4 : d55) (v5 : List Int) : @Eq _ (lp_i_Hash_more_0 R L v1 v2 v4 v5 ([1, 1, 1, 1, 0, 0] ++ [0])) (cond (decide (64 ≤ (v1.length : Int)))
 (cond (Nat.ble (64 : Int).toNat v1.length)
 ((c_pimpl_Hash_block R v2 (List.drop 0 (List.take (64 : Int).toNat v1)) v5).bind fun r0 =>
 cond (Nat.ble v1.length v1.length)
 (cond (Nat.ble (64 : Int).toNat v1.length)
 (lp_i_Hash_more_0 R L (List.drop (64 : Int).toNat (List.take v1.length v1)) r0.1 v4 v5)
 none)
 none)
 none)
 (some ((v2.1, (v1, v2.2.2)), ()))) := by kernel_rfl
theorem q_i_Hash_sum (x0 : d55) : @Eq _ (c_i_Hash_sum (bodyK EE R L) x0) ((c_strings_Repeat R [0] (Int.tmod (IntKind.wrap .i64 (119 - (x0.2.1.length : Int))) 64)).bind fun r0 =>
 cond (lenOK (([(128 : UInt8)]).length + r0.1.length))
 (lp_i_Hash_sum_0 R L x0 (IntKind.wrap .i64 (8 * x0.2.2.1)) ([128] ++ r0.1) 7)
 none) := by kernel_rfl
theorem q_i_Hash_sum_0 (v1 : d55) (v3 : Int) (v4 : List UInt8) (v5 : Int) : @Eq _ (lp_i_Hash_sum_0 R L v1 v3 v4 v5 ([1, 1, 1, 0, 1, 0] ++ [0])) (cond (decide (0 ≤ v5))
 (cond (decide ((IntKind.wrap .i64 (8 * v5)) < 0))
 none
 (cond (lenOK (v4.length + (List.map (fun (n : Int) => UInt8.ofNat n.toNat) [IntKind.wrap .u8 (Int.fdiv v3 (2 ^ (Min.min (IntKind.wrap .i64 (8 * v5)).toNat (IntKind.bits .i64))))]).length))
 (lp_i_Hash_sum_0 R L v1 v3 (v4 ++ (List.map (fun (n : Int) => UInt8.ofNat n.toNat) [IntKind.wrap .u8 (Int.fdiv v3 (2 ^ (Min.min (IntKind.wrap .i64 (8 * v5)).toNat (IntKind.bits .i64))))])) (IntKind.wrap .i64 (v5 - 1)))
 none))
 ((c_i_Hash_more R v1 v4).bind fun r0 =>
 lp_i_Hash_sum_1 R L [] r0.1.1 0)) := by kernel_rfl
theorem q_i_Hash_sum_1 (v6 v35 : List Int) (v36 : Int) : @Eq _ (lp_i_Hash_sum_1 R L v6 v35 v36 ([1, 1, 1, 1, 1, 0, 1, 0] ++ [0])) (cond (decide (v36 < 8))
 (cond (nonneg v36)
 (cond (Nat.blt v36.toNat 8)
 (cond (lenOK (v6.length + ([IntKind.wrap .u8 (Int.fdiv (v35.getD v36.toNat 0) (2 ^ (Min.min (24 : Int).toNat (IntKind.bits .i64)))), IntKind.wrap .u8 (Int.fdiv (v35.getD v36.toNat 0) (2 ^ (Min.min (16 : Int).toNat (IntKind.bits .i64)))), IntKind.wrap .u8 (Int.fdiv (v35.getD v36.toNat 0) (2 ^ (Min.min (8 : Int).toNat (IntKind.bits .i64)))), IntKind.wrap .u8 (v35.getD v36.toNat 0)]).length))
 (lp_i_Hash_sum_1 R L (v6 ++ [IntKind.wrap .u8 (Int.fdiv (v35.getD v36.toNat 0) (2 ^ (Min.min (24 : Int).toNat (IntKind.bits .i64)))), IntKind.wrap .u8 (Int.fdiv (v35.getD v36.toNat 0) (2 ^ (Min.min (16 : Int).toNat (IntKind.bits .i64)))), IntKind.wrap .u8 (Int.fdiv (v35.getD v36.toNat 0) (2 ^ (Min.min (8 : Int).toNat (IntKind.bits .i64)))), IntKind.wrap .u8 (v35.getD v36.toNat 0)]) v35 (IntKind.wrap .i64 (v36 + 1)))
 none)
 none)
 none)
 (some (List.map (fun (n : Int) => UInt8.ofNat n.toNat) v6, ()))) := by kernel_rfl
theorem q_i_digest (x0 : List UInt8) : @Eq _ (c_i_digest (bodyK EE R L) x0) ((c_i_NewHash R).bind fun r0 =>
 (c_i_Hash_more R r0.1 x0).bind fun r1 =>
 (c_i_Hash_sum R r1.1).bind fun r2 =>
 some (r2.1, ())) := by kernel_rfl
theorem q_i_little (x0 x1 : Int) : @Eq _ (c_i_little (bodyK EE R L) x0 x1) (lp_i_little_0 R L x0 [] x1 0) := by kernel_rfl
theorem q_i_little_0 (v0 : Int) (v5 : List Int) (v7 v8 : Int) : @Eq _ (lp_i_little_0 R L v0 v5 v7 v8 ([1, 1, 0, 1, 0] ++ [0])) (cond (decide (v8 < v7))
 (cond (decide ((IntKind.wrap .i64 (8 * v8)) < 0))
 none
 (cond (lenOK (v5.length + ([IntKind.wrap .u8 (Int.fdiv v0 (2 ^ (Min.min (IntKind.wrap .i64 (8 * v8)).toNat (IntKind.bits .i64))))]).length))
 (lp_i_little_0 R L v0 (v5 ++ [IntKind.wrap .u8 (Int.fdiv v0 (2 ^ (Min.min (IntKind.wrap .i64 (8 * v8)).toNat (IntKind.bits .i64))))]) v7 (IntKind.wrap .i64 (v8 + 1)))
 none))
 (some (List.map (fun (n : Int) => UInt8.ofNat n.toNat) v5, ()))) := by kernel_rfl
theorem q_i_littleWord (x0 : List UInt8) : @Eq _ (c_i_littleWord (bodyK EE R L) x0) (cond (Nat.blt (0 : Int).toNat x0.length)
 (cond (Nat.blt (1 : Int).toNat x0.length)
 (cond (Nat.blt (2 : Int).toNat x0.length)
 (cond (Nat.blt (3 : Int).toNat x0.length)
 (some (bitI .or .u32 (bitI .or .u32 (bitI .or .u32 (IntKind.wrap .u32 (UInt8.toNat (x0.getD (0 : Int).toNat 0) : Int)) (IntKind.wrap .u32 ((IntKind.wrap .u32 (UInt8.toNat (x0.getD (1 : Int).toNat 0) : Int)) * (2 ^ (Min.min (8 : Int).toNat (IntKind.bits .u32)))))) (IntKind.wrap .u32 ((IntKind.wrap .u32 (UInt8.toNat (x0.getD (2 : Int).toNat 0) : Int)) * (2 ^ (Min.min (16 : Int).toNat (IntKind.bits .u32)))))) (IntKind.wrap .u32 ((IntKind.wrap .u32 (UInt8.toNat (x0.getD (3 : Int).toNat 0) : Int)) * (2 ^ (Min.min (24 : Int).toNat (IntKind.bits .u32))))), ()))
 none)
 none)
 none)
 none) := by kernel_rfl
theorem q_i_quarter (x0 x1 x2 x3 : Int) : @Eq _ (c_i_quarter (bodyK EE R L) x0 x1 x2 x3) (lp_i_quarter_0 R L x0 x1 x2 x3 [[16, 12], [8, 7]] 0) := by kernel_rfl
theorem q_i_quarter_0 (v0 v1 v2 v3 : Int) (v16 : List (List Int)) (v17 : Int) : @Eq _ (lp_i_quarter_0 R L v0 v1 v2 v3 v16 v17 ([1, 0, 1, 0] ++ [0])) (cond (decide (v17 < 2))
 (cond (nonneg v17)
 (cond (Nat.blt v17.toNat 2)
 ((c_math_bits_RotateLeft32 R (bitI .xor .u32 v3 (IntKind.wrap .u32 (v0 + v1))) ((v16.getD v17.toNat (List.replicate 2 0)).getD (0 : Int).toNat 0)).bind fun r0 =>
 (c_math_bits_RotateLeft32 R (bitI .xor .u32 v1 (IntKind.wrap .u32 (v2 + r0.1))) ((v16.getD v17.toNat (List.replicate 2 0)).getD (1 : Int).toNat 0)).bind fun r1 =>
 lp_i_quarter_0 R L (IntKind.wrap .u32 (v0 + v1)) r1.1 (IntKind.wrap .u32 (v2 + r0.1)) r0.1 v16 (IntKind.wrap .i64 (v17 + 1)))
 none)
 none)
 (some (v0, (v1, (v2, (v3, ())))))) := by kernel_rfl
theorem q_i_stream (x0 x1 : List UInt8) (x2 : Int) : @Eq _ (c_i_stream (bodyK EE R L) x0 x1 x2) (cond (lenOK (([(101 : UInt8), 120, 112, 97, 110, 100, 32, 51, 50, 45, 98, 121, 116, 101, 32, 107]).length + x0.length))
 ((c_i_little R x2 4).bind fun r0 =>
 cond (lenOK (([(101 : UInt8), 120, 112, 97, 110, 100, 32, 51, 50, 45, 98, 121, 116, 101, 32, 107] ++ x0).length + r0.1.length))
 (cond (lenOK ((([(101 : UInt8), 120, 112, 97, 110, 100, 32, 51, 50, 45, 98, 121, 116, 101, 32, 107] ++ x0) ++ r0.1).length + x1.length))
 (lp_i_stream_0 R L ((([101, 120, 112, 97, 110, 100, 32, 51, 50, 45, 98, 121, 116, 101, 32, 107] ++ x0) ++ r0.1) ++ x1) (List.replicate 16 0) (List.replicate 16 0) 0)
 none)
 none)
 none) := by kernel_rfl
theorem q_i_stream_0 (v7 : List UInt8) (v8 v9 : List Int) (v25 : Int) : @Eq _ (lp_i_stream_0 R L v7 v8 v9 v25 ([1, 1, 1, 0, 1, 0] ++ [0])) (cond (decide (v25 < 16))
 (cond (nonneg (IntKind.wrap .i64 (4 * v25)))
 (cond (Nat.ble v7.length v7.length)
 (cond (Nat.ble (IntKind.wrap .i64 (4 * v25)).toNat v7.length)
 ((c_i_littleWord R (List.drop (IntKind.wrap .i64 (4 * v25)).toNat (List.take v7.length v7))).bind fun r0 =>
 cond (nonneg v25)
 (cond (Nat.blt v25.toNat 16)
 (cond (nonneg v25)
 (cond (Nat.blt v25.toNat 16)
 (cond (nonneg v25)
 (cond (Nat.blt v25.toNat 16)
 (lp_i_stream_0 R L v7 (v8.set v25.toNat r0.1) (v9.set v25.toNat ((v8.set v25.toNat r0.1).getD v25.toNat 0)) (IntKind.wrap .i64 (v25 + 1)))
 none)
 none)
 none)
 none)
 none)
 none)
 none)
 none)
 none)
 (lp_i_stream_1 R L v8 v9 0)) := by kernel_rfl
theorem q_i_stream_1 (v8 v9 : List Int) (v41 : Int) : @Eq _ (lp_i_stream_1 R L v8 v9 v41 ([1, 1, 1, 1, 0, 1, 0] ++ [0])) (cond (decide (v41 < 10))
 (lp_i_stream_2 R L v8 v9 v41 0)
 (lp_i_stream_3 R L v8 v9 [] 0)) := by kernel_rfl
theorem q_i_stream_2 (v8 v9 : List Int) (v41 v43 : Int) : @Eq _ (lp_i_stream_2 R L v8 v9 v41 v43 ([1, 1, 1, 1, 0, 1, 0, 0, 1, 1, 0, 0, 1, 0] ++ [0])) (cond (decide (v43 < 2))
 (lp_i_stream_4 R L v8 v9 v43 v41 v43 0)
 (lp_i_stream_1 R L v8 v9 (IntKind.wrap .i64 (v41 + 1)))) := by kernel_rfl
theorem q_i_stream_3 (v8 v9 : List Int) (v16 : List UInt8) (v95 : Int) : @Eq _ (lp_i_stream_3 R L v8 v9 v16 v95 ([1, 1, 1, 1, 1, 1, 0, 1, 0] ++ [0])) (cond (decide (v95 < 16))
 (cond (nonneg v95)
 (cond (Nat.blt v95.toNat 16)
 (cond (nonneg v95)
 (cond (Nat.blt v95.toNat 16)
 ((c_i_little R (IntKind.wrap .i64 (IntKind.wrap .u32 ((v9.getD v95.toNat 0) + (v8.getD v95.toNat 0)))) 4).bind fun r0 =>
 cond (lenOK (v16.length + r0.1.length))
 (lp_i_stream_3 R L v8 v9 (v16 ++ r0.1) (IntKind.wrap .i64 (v95 + 1)))
 none)
 none)
 none)
 none)
 none)
 (some (v16, ()))) := by kernel_rfl
theorem q_i_stream_4 (v8 v9 : List Int) (v11 v41 v43 v46 : Int) : @Eq _ (lp_i_stream_4 R L v8 v9 v11 v41 v43 v46 ([1, 1, 1, 1, 0, 1, 0, 0, 1, 1, 0, 0, 1, 0, 0, 1, 1, 0, 0, 1, 1, 0] ++ [0])) (cond (decide (v46 < 4))
 (cond (nonneg v46)
 (cond (Nat.blt v46.toNat 16)
 (cond (nonneg (IntKind.wrap .i64 (4 + (Int.tmod (IntKind.wrap .i64 (v46 + v11)) 4))))
 (cond (Nat.blt (IntKind.wrap .i64 (4 + (Int.tmod (IntKind.wrap .i64 (v46 + v11)) 4))).toNat 16)
 (cond (nonneg (IntKind.wrap .i64 (8 + (Int.tmod (IntKind.wrap .i64 (v46 + (IntKind.wrap .i64 (2 * v11)))) 4))))
 (cond (Nat.blt (IntKind.wrap .i64 (8 + (Int.tmod (IntKind.wrap .i64 (v46 + (IntKind.wrap .i64 (2 * v11)))) 4))).toNat 16)
 (cond (nonneg (IntKind.wrap .i64 (12 + (Int.tmod (IntKind.wrap .i64 (v46 + (IntKind.wrap .i64 (3 * v11)))) 4))))
 (cond (Nat.blt (IntKind.wrap .i64 (12 + (Int.tmod (IntKind.wrap .i64 (v46 + (IntKind.wrap .i64 (3 * v11)))) 4))).toNat 16)
 ((c_i_quarter R (v9.getD v46.toNat 0) (v9.getD (IntKind.wrap .i64 (4 + (Int.tmod (IntKind.wrap .i64 (v46 + v11)) 4))).toNat 0) (v9.getD (IntKind.wrap .i64 (8 + (Int.tmod (IntKind.wrap .i64 (v46 + (IntKind.wrap .i64 (2 * v11)))) 4))).toNat 0) (v9.getD (IntKind.wrap .i64 (12 + (Int.tmod (IntKind.wrap .i64 (v46 + (IntKind.wrap .i64 (3 * v11)))) 4))).toNat 0)).bind fun r0 =>
 cond (nonneg v46)
 (cond (Nat.blt v46.toNat 16)
 (cond (nonneg (IntKind.wrap .i64 (4 + (Int.tmod (IntKind.wrap .i64 (v46 + v11)) 4))))
 (cond (Nat.blt (IntKind.wrap .i64 (4 + (Int.tmod (IntKind.wrap .i64 (v46 + v11)) 4))).toNat 16)
 (cond (nonneg (IntKind.wrap .i64 (8 + (Int.tmod (IntKind.wrap .i64 (v46 + (IntKind.wrap .i64 (2 * v11)))) 4))))
 (cond (Nat.blt (IntKind.wrap .i64 (8 + (Int.tmod (IntKind.wrap .i64 (v46 + (IntKind.wrap .i64 (2 * v11)))) 4))).toNat 16)
 (cond (nonneg (IntKind.wrap .i64 (12 + (Int.tmod (IntKind.wrap .i64 (v46 + (IntKind.wrap .i64 (3 * v11)))) 4))))
 (cond (Nat.blt (IntKind.wrap .i64 (12 + (Int.tmod (IntKind.wrap .i64 (v46 + (IntKind.wrap .i64 (3 * v11)))) 4))).toNat 16)
 (lp_i_stream_4 R L v8 ((((v9.set v46.toNat r0.1).set (IntKind.wrap .i64 (4 + (Int.tmod (IntKind.wrap .i64 (v46 + v11)) 4))).toNat r0.2.1).set (IntKind.wrap .i64 (8 + (Int.tmod (IntKind.wrap .i64 (v46 + (IntKind.wrap .i64 (2 * v11)))) 4))).toNat r0.2.2.1).set (IntKind.wrap .i64 (12 + (Int.tmod (IntKind.wrap .i64 (v46 + (IntKind.wrap .i64 (3 * v11)))) 4))).toNat r0.2.2.2.1) v11 v41 v43 (IntKind.wrap .i64 (v46 + 1)))
 none)
 none)
 none)
 none)
 none)
 none)
 none)
 none)
 none)
 none)
 none)
 none)
 none)
 none)
 none)
 none)
 (lp_i_stream_2 R L v8 v9 v41 (IntKind.wrap .i64 (v43 + 1)))) := by kernel_rfl
theorem q_s_l02Word (x0 : List UInt8) (x1 : Int) : @Eq _ (c_s_l02Word (bodyK EE R L) x0 x1) (cond (nonneg x1)
 (cond (Nat.blt x1.toNat x0.length)
 (cond (nonneg (IntKind.wrap .i64 (x1 + 1)))
 (cond (Nat.blt (IntKind.wrap .i64 (x1 + 1)).toNat x0.length)
 (cond (nonneg (IntKind.wrap .i64 (x1 + 2)))
 (cond (Nat.blt (IntKind.wrap .i64 (x1 + 2)).toNat x0.length)
 (cond (nonneg (IntKind.wrap .i64 (x1 + 3)))
 (cond (Nat.blt (IntKind.wrap .i64 (x1 + 3)).toNat x0.length)
 (some (bitI .or .i64 (bitI .or .i64 (bitI .or .i64 (IntKind.wrap .i64 (UInt8.toNat (x0.getD x1.toNat 0) : Int)) (IntKind.wrap .i64 ((IntKind.wrap .i64 (UInt8.toNat (x0.getD (IntKind.wrap .i64 (x1 + 1)).toNat 0) : Int)) * (2 ^ (Min.min (8 : Int).toNat (IntKind.bits .i64)))))) (IntKind.wrap .i64 ((IntKind.wrap .i64 (UInt8.toNat (x0.getD (IntKind.wrap .i64 (x1 + 2)).toNat 0) : Int)) * (2 ^ (Min.min (16 : Int).toNat (IntKind.bits .i64)))))) (IntKind.wrap .i64 ((IntKind.wrap .i64 (UInt8.toNat (x0.getD (IntKind.wrap .i64 (x1 + 3)).toNat 0) : Int)) * (2 ^ (Min.min (24 : Int).toNat (IntKind.bits .i64))))), ()))
 none)
 none)
 none)
 none)
 none)
 none)
 none)
 none) := by kernel_rfl
theorem q_s_l02Left (x0 x1 : Int) : @Eq _ (c_s_l02Left (bodyK EE R L) x0 x1) (cond (decide (x1 < 0))
 none
 (cond (decide ((IntKind.wrap .i64 (32 - x1)) < 0))
 none
 (some (bitI .and .i64 (bitI .or .i64 (IntKind.wrap .i64 (x0 * (2 ^ (Min.min x1.toNat (IntKind.bits .i64))))) (Int.fdiv x0 (2 ^ (Min.min (IntKind.wrap .i64 (32 - x1)).toNat (IntKind.bits .i64))))) 4294967295, ())))) := by kernel_rfl
theorem q_s_l02Quarter (x0 x1 x2 x3 : Int) : @Eq _ (c_s_l02Quarter (bodyK EE R L) x0 x1 x2 x3) ((c_s_l02Left R (bitI .xor .i64 x3 (bitI .and .i64 (IntKind.wrap .i64 (x0 + x1)) 4294967295)) 16).bind fun r0 =>
 (c_s_l02Left R (bitI .xor .i64 x1 (bitI .and .i64 (IntKind.wrap .i64 (x2 + r0.1)) 4294967295)) 12).bind fun r1 =>
 (c_s_l02Left R (bitI .xor .i64 r0.1 (bitI .and .i64 (IntKind.wrap .i64 ((bitI .and .i64 (IntKind.wrap .i64 (x0 + x1)) 4294967295) + r1.1)) 4294967295)) 8).bind fun r2 =>
 (c_s_l02Left R (bitI .xor .i64 r1.1 (bitI .and .i64 (IntKind.wrap .i64 ((bitI .and .i64 (IntKind.wrap .i64 (x2 + r0.1)) 4294967295) + r2.1)) 4294967295)) 7).bind fun r3 =>
 some ([bitI .and .i64 (IntKind.wrap .i64 ((bitI .and .i64 (IntKind.wrap .i64 (x0 + x1)) 4294967295) + r1.1)) 4294967295, r3.1, bitI .and .i64 (IntKind.wrap .i64 ((bitI .and .i64 (IntKind.wrap .i64 (x2 + r0.1)) 4294967295) + r2.1)) 4294967295, r2.1], ())) := by kernel_rfl
theorem q_s_l02Round (x0 : List Int) (x1 x2 x3 x4 : Int) : @Eq _ (c_s_l02Round (bodyK EE R L) x0 x1 x2 x3 x4) (cond (nonneg x1)
 (cond (Nat.blt x1.toNat 16)
 (cond (nonneg x2)
 (cond (Nat.blt x2.toNat 16)
 (cond (nonneg x3)
 (cond (Nat.blt x3.toNat 16)
 (cond (nonneg x4)
 (cond (Nat.blt x4.toNat 16)
 ((c_s_l02Quarter R (x0.getD x1.toNat 0) (x0.getD x2.toNat 0) (x0.getD x3.toNat 0) (x0.getD x4.toNat 0)).bind fun r0 =>
 cond (nonneg x1)
 (cond (Nat.blt x1.toNat 16)
 (cond (nonneg x2)
 (cond (Nat.blt x2.toNat 16)
 (cond (nonneg x3)
 (cond (Nat.blt x3.toNat 16)
 (cond (nonneg x4)
 (cond (Nat.blt x4.toNat 16)
 (some ((((x0.set x1.toNat (r0.1.getD (0 : Int).toNat 0)).set x2.toNat (r0.1.getD (1 : Int).toNat 0)).set x3.toNat (r0.1.getD (2 : Int).toNat 0)).set x4.toNat (r0.1.getD (3 : Int).toNat 0), ()))
 none)
 none)
 none)
 none)
 none)
 none)
 none)
 none)
 none)
 none)
 none)
 none)
 none)
 none)
 none)
 none) := by kernel_rfl
theorem q_s_l02Block (x0 x1 : List UInt8) (x2 : Int) : @Eq _ (c_s_l02Block (bodyK EE R L) x0 x1 x2) (lp_s_l02Block_0 R L x0 x1 x2 [0, 0, 0, 0, 0, 0, 0, 0, 0, 0, 0, 0, 0, 0, 0, 0] 0) := by kernel_rfl
theorem q_s_l02Block_0 (v0 v1 : List UInt8) (v2 : Int) (v7 : List Int) (v8 : Int) : @Eq _ (lp_s_l02Block_0 R L v0 v1 v2 v7 v8 ([1, 1, 0, 1, 0] ++ [0])) (cond (decide (v8 < 4))
 ((c_s_l02Word R [101, 120, 112, 97, 110, 100, 32, 51, 50, 45, 98, 121, 116, 101, 32, 107] (IntKind.wrap .i64 (4 * v8))).bind fun r0 =>
 cond (nonneg v8)
 (cond (Nat.blt v8.toNat 16)
 (lp_s_l02Block_0 R L v0 v1 v2 (v7.set v8.toNat r0.1) (IntKind.wrap .i64 (v8 + 1)))
 none)
 none)
 (lp_s_l02Block_1 R L v0 v1 v2 v7 0)) := by kernel_rfl
theorem q_s_l02Block_1 (v0 v1 : List UInt8) (v2 : Int) (v7 : List Int) (v9 : Int) : @Eq _ (lp_s_l02Block_1 R L v0 v1 v2 v7 v9 ([1, 1, 1, 0, 1, 0] ++ [0])) (cond (decide (v9 < 8))
 ((c_s_l02Word R v0 (IntKind.wrap .i64 (4 * v9))).bind fun r0 =>
 cond (nonneg (IntKind.wrap .i64 (4 + v9)))
 (cond (Nat.blt (IntKind.wrap .i64 (4 + v9)).toNat 16)
 (lp_s_l02Block_1 R L v0 v1 v2 (v7.set (IntKind.wrap .i64 (4 + v9)).toNat r0.1) (IntKind.wrap .i64 (v9 + 1)))
 none)
 none)
 (lp_s_l02Block_2 R L v1 (v7.set (12 : Int).toNat v2) 0)) := by kernel_rfl
theorem q_s_l02Block_2 (v1 : List UInt8) (v7 : List Int) (v10 : Int) : @Eq _ (lp_s_l02Block_2 R L v1 v7 v10 ([1, 1, 1, 1, 1, 0, 1, 0] ++ [0])) (cond (decide (v10 < 3))
 ((c_s_l02Word R v1 (IntKind.wrap .i64 (4 * v10))).bind fun r0 =>
 cond (nonneg (IntKind.wrap .i64 (13 + v10)))
 (cond (Nat.blt (IntKind.wrap .i64 (13 + v10)).toNat 16)
 (lp_s_l02Block_2 R L v1 (v7.set (IntKind.wrap .i64 (13 + v10)).toNat r0.1) (IntKind.wrap .i64 (v10 + 1)))
 none)
 none)
 (lp_s_l02Block_3 R L v7 v7 0)) := by kernel_rfl
theorem q_s_l02Block_3 (v7 v11 : List Int) (v12 : Int) : @Eq _ (lp_s_l02Block_3 R L v7 v11 v12 ([1, 1, 1, 1, 1, 1, 1, 0, 1, 0] ++ [0])) (cond (decide (v12 < 10))
 (lp_s_l02Block_4 R L v7 v11 v12 0)
 (lp_s_l02Block_5 R L v7 v11 [] 0)) := by kernel_rfl
theorem q_s_l02Block_4 (v7 v11 : List Int) (v12 v13 : Int) : @Eq _ (lp_s_l02Block_4 R L v7 v11 v12 v13 ([1, 1, 1, 1, 1, 1, 1, 0, 1, 0, 0, 1, 0, 0, 0, 1, 0] ++ [0])) (cond (decide (v13 < 4))
 ((c_s_l02Round R v11 v13 (IntKind.wrap .i64 (4 + v13)) (IntKind.wrap .i64 (8 + v13)) (IntKind.wrap .i64 (12 + v13))).bind fun r0 =>
 lp_s_l02Block_4 R L v7 r0.1 v12 (IntKind.wrap .i64 (v13 + 1)))
 (lp_s_l02Block_6 R L v7 v11 v12 0)) := by kernel_rfl
theorem q_s_l02Block_5 (v7 v11 v15 : List Int) (v16 : Int) : @Eq _ (lp_s_l02Block_5 R L v7 v11 v15 v16 ([1, 1, 1, 1, 1, 1, 1, 1, 1, 0, 1, 0] ++ [0])) (cond (decide (v16 < 16))
 (cond (nonneg v16)
 (cond (Nat.blt v16.toNat 16)
 (cond (nonneg v16)
 (cond (Nat.blt v16.toNat 16)
 ((c_s_l02Bytes R v15 (bitI .and .i64 (IntKind.wrap .i64 ((v11.getD v16.toNat 0) + (v7.getD v16.toNat 0))) 4294967295)).bind fun r0 =>
 lp_s_l02Block_5 R L v7 v11 r0.1 (IntKind.wrap .i64 (v16 + 1)))
 none)
 none)
 none)
 none)
 (some (List.map (fun (n : Int) => UInt8.ofNat n.toNat) v15, ()))) := by kernel_rfl
theorem q_s_l02Block_6 (v7 v11 : List Int) (v12 v14 : Int) : @Eq _ (lp_s_l02Block_6 R L v7 v11 v12 v14 ([1, 1, 1, 1, 1, 1, 1, 0, 1, 0, 0, 1, 0, 0, 1, 1, 0] ++ [0])) (cond (decide (v14 < 4))
 ((c_s_l02Round R v11 v14 (IntKind.wrap .i64 (4 + (Int.tmod (IntKind.wrap .i64 (v14 + 1)) 4))) (IntKind.wrap .i64 (8 + (Int.tmod (IntKind.wrap .i64 (v14 + 2)) 4))) (IntKind.wrap .i64 (12 + (Int.tmod (IntKind.wrap .i64 (v14 + 3)) 4)))).bind fun r0 =>
 lp_s_l02Block_6 R L v7 r0.1 v12 (IntKind.wrap .i64 (v14 + 1)))
 (lp_s_l02Block_3 R L v7 v11 (IntKind.wrap .i64 (v12 + 1)))) := by kernel_rfl
theorem q_i_xor (x0 x1 : List UInt8) : @Eq _ (c_i_xor (bodyK EE R L) x0 x1) (lp_i_xor_0 R L x1 (List.map (fun (b : UInt8) => (UInt8.toNat b : Int)) x0) ((List.map (fun (b : UInt8) => (UInt8.toNat b : Int)) x0).length : Int) 0) := by kernel_rfl
theorem q_i_xor_0 (v1 : List UInt8) (v5 : List Int) (v10 v11 : Int) : @Eq _ (lp_i_xor_0 R L v1 v5 v10 v11 ([1, 1, 0, 1, 0] ++ [0])) (cond (decide (v11 < v10))
 (cond (nonneg v11)
 (cond (Nat.blt v11.toNat v5.length)
 (cond (nonneg v11)
 (cond (Nat.blt v11.toNat v1.length)
 (cond (nonneg v11)
 (cond (Nat.blt v11.toNat v5.length)
 (lp_i_xor_0 R L v1 (v5.set v11.toNat (bitI .xor .u8 (v5.getD v11.toNat 0) (UInt8.toNat (v1.getD v11.toNat 0) : Int))) v10 (IntKind.wrap .i64 (v11 + 1)))
 none)
 none)
 none)
 none)
 none)
 none)
 (some (List.map (fun (n : Int) => UInt8.ofNat n.toNat) v5, ()))) := by kernel_rfl
theorem q_s_l02Xor (x0 x1 : List UInt8) (x2 : Int) (x3 : List UInt8) : @Eq _ (c_s_l02Xor (bodyK EE R L) x0 x1 x2 x3) (lp_s_l02Xor_0 R L x0 x1 x2 x3 [] [] 0) := by kernel_rfl
theorem q_s_l02Xor_0 (v0 v1 : List UInt8) (v2 : Int) (v3 : List UInt8) (v9 : List Int) (v10 : List UInt8) (v11 : Int) : @Eq _ (lp_s_l02Xor_0 R L v0 v1 v2 v3 v9 v10 v11 ([1, 1, 1, 0, 1, 0] ++ [0])) (cond (decide (v11 < (v3.length : Int)))
 (cond (eqI (Int.tmod v11 64) 0)
 ((c_s_l02Block R v0 v1 (IntKind.wrap .i64 (v2 + (IntKind.wrap .i64 (Int.tdiv v11 64))))).bind fun r0 =>
 cond (nonneg v11)
 (cond (Nat.blt v11.toNat v3.length)
 (cond (nonneg (Int.tmod v11 64))
 (cond (Nat.blt (Int.tmod v11 64).toNat r0.1.length)
 (cond (lenOK (v9.length + ([bitI .xor .u8 (UInt8.toNat (v3.getD v11.toNat 0) : Int) (UInt8.toNat (r0.1.getD (Int.tmod v11 64).toNat 0) : Int)]).length))
 (lp_s_l02Xor_0 R L v0 v1 v2 v3 (v9 ++ [bitI .xor .u8 (UInt8.toNat (v3.getD v11.toNat 0) : Int) (UInt8.toNat (r0.1.getD (Int.tmod v11 64).toNat 0) : Int)]) r0.1 (IntKind.wrap .i64 (v11 + 1)))
 none)
 none)
 none)
 none)
 none)
 (cond (nonneg v11)
 (cond (Nat.blt v11.toNat v3.length)
 (cond (nonneg (Int.tmod v11 64))
 (cond (Nat.blt (Int.tmod v11 64).toNat v10.length)
 (cond (lenOK (v9.length + ([bitI .xor .u8 (UInt8.toNat (v3.getD v11.toNat 0) : Int) (UInt8.toNat (v10.getD (Int.tmod v11 64).toNat 0) : Int)]).length))
 (lp_s_l02Xor_0 R L v0 v1 v2 v3 (v9 ++ [bitI .xor .u8 (UInt8.toNat (v3.getD v11.toNat 0) : Int) (UInt8.toNat (v10.getD (Int.tmod v11 64).toNat 0) : Int)]) v10 (IntKind.wrap .i64 (v11 + 1)))
 none)
 none)
 none)
 none)
 none))
 (some (List.map (fun (n : Int) => UInt8.ofNat n.toNat) v9, ()))) := by kernel_rfl
theorem q_l_szRegister (x0 : d59) (x1 : Int) : @Eq _ (c_l_szRegister (bodyK EE R L) x0 x1) (cond (decide ((IntKind.wrap .i64 (x1 - (x0.2.2.2.2.1.length : Int))) < 0))
 (some (-1, ()))
 (cond (decide ((IntKind.wrap .i64 ((IntKind.wrap .i64 (x1 - (x0.2.2.2.2.1.length : Int))) - (x0.2.2.2.2.2.1.length : Int))) < 0))
 (some (-1, ()))
 (cond (decide ((IntKind.wrap .i64 ((IntKind.wrap .i64 ((IntKind.wrap .i64 (x1 - (x0.2.2.2.2.1.length : Int))) - (x0.2.2.2.2.2.1.length : Int))) - (x0.2.2.2.2.2.2.1.length : Int))) < 0))
 (some (-1, ()))
 (some (IntKind.wrap .i64 ((IntKind.wrap .i64 ((IntKind.wrap .i64 (x1 - (x0.2.2.2.2.1.length : Int))) - (x0.2.2.2.2.2.1.length : Int))) - (x0.2.2.2.2.2.2.1.length : Int)), ()))))) := by kernel_rfl
theorem q_l_szStringS (x0 : List (List UInt8)) (x1 : Int) : @Eq _ (c_l_szStringS (bodyK EE R L) x0 x1) (cond (decide ((IntKind.wrap .i64 (x1 - (x0.length : Int))) < 0))
 (some (-1, ()))
 (lp_l_szStringS_0 R L x0 (IntKind.wrap .i64 (x1 - (x0.length : Int))) 0 0)) := by kernel_rfl
theorem q_l_szStringS_0 (v0 : List (List UInt8)) (v1 v4 v5 : Int) : @Eq _ (lp_l_szStringS_0 R L v0 v1 v4 v5 ([1, 1, 1, 0, 1, 0] ++ [0])) (cond (decide (v5 < (v0.length : Int)))
 (cond (nonneg v5)
 (cond (Nat.blt v5.toNat v0.length)
 (cond (decide ((IntKind.wrap .i64 (v1 - ((v0.getD v5.toNat []).length : Int))) < 0))
 (some (-1, ()))
 (lp_l_szStringS_0 R L v0 (IntKind.wrap .i64 (v1 - ((v0.getD v5.toNat []).length : Int))) v4 (IntKind.wrap .i64 (v5 + 1))))
 none)
 none)
 (some (v1, ()))) := by kernel_rfl
theorem q_l_szIo (x0 : d60) (x1 : Int) : @Eq _ (c_l_szIo (bodyK EE R L) x0 x1) (cond (decide ((IntKind.wrap .i64 (x1 - (x0.2.1.length : Int))) < 0))
 (some (-1, ()))
 (some (IntKind.wrap .i64 (x1 - (x0.2.1.length : Int)), ()))) := by kernel_rfl
theorem q_l_szIoS (x0 : List d60) (x1 : Int) : @Eq _ (c_l_szIoS (bodyK EE R L) x0 x1) (cond (decide ((IntKind.wrap .i64 (x1 - (x0.length : Int))) < 0))
 (some (-1, ()))
 (lp_l_szIoS_0 R L x0 (IntKind.wrap .i64 (x1 - (x0.length : Int))) 0 0)) := by kernel_rfl
theorem q_l_szIoS_0 (v0 : List d60) (v1 v4 v5 : Int) : @Eq _ (lp_l_szIoS_0 R L v0 v1 v4 v5 ([1, 1, 1, 0, 1, 0] ++ [0])) (cond (decide (v5 < (v0.length : Int)))
 (cond (nonneg v5)
 (cond (Nat.blt v5.toNat v0.length)
 ((c_l_szIo R (v0.getD v5.toNat (0, ([], ()))) v1).bind fun r0 =>
 cond (decide (r0.1 < 0))
 (some (-1, ()))
 (lp_l_szIoS_0 R L v0 r0.1 v4 (IntKind.wrap .i64 (v5 + 1))))
 none)
 none)
 (some (v1, ()))) := by kernel_rfl
theorem q_l_szDevice (x0 : d61) (x1 : Int) : @Eq _ (c_l_szDevice (bodyK EE R L) x0 x1) ((c_l_szStringS R x0.1 x1).bind fun r0 =>
 cond (decide (r0.1 < 0))
 (some (-1, ()))
 ((c_l_szIoS R x0.2.1 r0.1).bind fun r1 =>
 cond (decide (r1.1 < 0))
 (some (-1, ()))
 (some (r1.1, ())))) := by kernel_rfl
theorem q_l_szStore (x0 : d62) (x1 : Int) : @Eq _ (c_l_szStore (bodyK EE R L) x0 x1) (cond (decide ((IntKind.wrap .i64 (x1 - (x0.1.length : Int))) < 0))
 (some (-1, ()))
 ((c_l_szRegister R x0.2.1 (IntKind.wrap .i64 (x1 - (x0.1.length : Int)))).bind fun r0 =>
 cond (decide (r0.1 < 0))
 (some (-1, ()))
 ((c_l_szDevice R x0.2.2.1 r0.1).bind fun r1 =>
 cond (decide (r1.1 < 0))
 (some (-1, ()))
 (some (r1.1, ()))))) := by kernel_rfl
theorem q_l_szOpS (x0 : List d53) (x1 : Int) : @Eq _ (c_l_szOpS (bodyK EE R L) x0 x1) (cond (decide ((IntKind.wrap .i64 (x1 - (x0.length : Int))) < 0))
 (some (-1, ()))
 (some (IntKind.wrap .i64 (x1 - (x0.length : Int)), ()))) := by kernel_rfl
theorem q_l_szTxn (x0 : d54) (x1 : Int) : @Eq _ (c_l_szTxn (bodyK EE R L) x0 x1) ((c_l_szOpS R x0.1 x1).bind fun r0 =>
 cond (decide (r0.1 < 0))
 (some (-1, ()))
 (some (r0.1, ()))) := by kernel_rfl
theorem q_l_szTxnS (x0 : List d54) (x1 : Int) : @Eq _ (c_l_szTxnS (bodyK EE R L) x0 x1) (cond (decide ((IntKind.wrap .i64 (x1 - (x0.length : Int))) < 0))
 (some (-1, ()))
 (lp_l_szTxnS_0 R L x0 (IntKind.wrap .i64 (x1 - (x0.length : Int))) 0 0)) := by kernel_rfl
theorem q_l_szTxnS_0 (v0 : List d54) (v1 v4 v5 : Int) : @Eq _ (lp_l_szTxnS_0 R L v0 v1 v4 v5 ([1, 1, 1, 0, 1, 0] ++ [0])) (cond (decide (v5 < (v0.length : Int)))
 (cond (nonneg v5)
 (cond (Nat.blt v5.toNat v0.length)
 ((c_l_szTxn R (v0.getD v5.toNat ([], ())) v1).bind fun r0 =>
 cond (decide (r0.1 < 0))
 (some (-1, ()))
 (lp_l_szTxnS_0 R L v0 r0.1 v4 (IntKind.wrap .i64 (v5 + 1))))
 none)
 none)
 (some (v1, ()))) := by kernel_rfl
theorem q_l_toRegister (x0 : d59) : @Eq _ (c_l_toRegister (bodyK EE R L) x0) (some ((x0.1, (x0.2.1, (x0.2.2.1, (x0.2.2.2.1, (x0.2.2.2.2.1, (x0.2.2.2.2.2.1, (x0.2.2.2.2.2.2.1, ()))))))), ())) := by kernel_rfl
theorem q_l_toStringS (x0 : List (List UInt8)) : @Eq _ (c_l_toStringS (bodyK EE R L) x0) (cond (leI (x0.length : Int) (x0.length : Int))
 (cond (lenOK (x0.length : Int).toNat)
 (lp_l_toStringS_0 R L x0 [] (List.replicate (x0.length : Int).toNat []) 0)
 none)
 none) := by kernel_rfl
theorem q_l_toStringS_0 (v0 v2 v3 : List (List UInt8)) (v4 : Int) : @Eq _ (lp_l_toStringS_0 R L v0 v2 v3 v4 ([1, 1, 0, 1, 0] ++ [0])) (cond (decide (v4 < (v0.length : Int)))
 (cond (nonneg v4)
 (cond (Nat.blt v4.toNat v0.length)
 (cond (nonneg v4)
 (cond (Nat.blt v4.toNat v3.length)
 (lp_l_toStringS_0 R L v0 v2 (v3.set v4.toNat (v0.getD v4.toNat [])) (IntKind.wrap .i64 (v4 + 1)))
 none)
 none)
 none)
 none)
 (some (v3, ()))) := by kernel_rfl
theorem q_l_toIo (x0 : d60) : @Eq _ (c_l_toIo (bodyK EE R L) x0) (some ((x0.1, (x0.2.1, ())), ())) := by kernel_rfl
theorem q_l_toIoS (x0 : List d60) : @Eq _ (c_l_toIoS (bodyK EE R L) x0) (cond (leI (x0.length : Int) (x0.length : Int))
 (cond (lenOK (x0.length : Int).toNat)
 (lp_l_toIoS_0 R L x0 [] (List.replicate (x0.length : Int).toNat (0, ([], ()))) 0)
 none)
 none) := by kernel_rfl
theorem q_l_toIoS_0 (v0 v2 v3 : List d60) (v4 : Int) : @Eq _ (lp_l_toIoS_0 R L v0 v2 v3 v4 ([1, 1, 0, 1, 0] ++ [0])) (cond (decide (v4 < (v0.length : Int)))
 (cond (nonneg v4)
 (cond (Nat.blt v4.toNat v0.length)
 ((c_l_toIo R (v0.getD v4.toNat (0, ([], ())))).bind fun r0 =>
 cond (nonneg v4)
 (cond (Nat.blt v4.toNat v3.length)
 (lp_l_toIoS_0 R L v0 v2 (v3.set v4.toNat r0.1) (IntKind.wrap .i64 (v4 + 1)))
 none)
 none)
 none)
 none)
 (some (v3, ()))) := by kernel_rfl
theorem q_l_toDevice (x0 : d61) : @Eq _ (c_l_toDevice (bodyK EE R L) x0) ((c_l_toStringS R x0.1).bind fun r0 =>
 (c_l_toIoS R x0.2.1).bind fun r1 =>
 some ((r0.1, (r1.1, ())), ())) := by kernel_rfl
theorem q_l_toStore (x0 : d62) : @Eq _ (c_l_toStore (bodyK EE R L) x0) ((c_l_toRegister R x0.2.1).bind fun r0 =>
 (c_l_toDevice R x0.2.2.1).bind fun r1 =>
 some ((x0.1, (r0.1, (r1.1, (x0.2.2.2.1, (x0.2.2.2.2.1, ()))))), ())) := by kernel_rfl
theorem q_l_toOp (x0 : d53) : @Eq _ (c_l_toOp (bodyK EE R L) x0) (some ((x0.1, (x0.2.1, (x0.2.2.1, ()))), ())) := by kernel_rfl
theorem q_l_toOpS (x0 : List d53) : @Eq _ (c_l_toOpS (bodyK EE R L) x0) (cond (leI (x0.length : Int) (x0.length : Int))
 (cond (lenOK (x0.length : Int).toNat)
 (lp_l_toOpS_0 R L x0 [] (List.replicate (x0.length : Int).toNat (0, (0, (0, ())))) 0)
 none)
 none) := by kernel_rfl
theorem q_l_toOpS_0 (v0 v2 v3 : List d53) (v4 : Int) : @Eq _ (lp_l_toOpS_0 R L v0 v2 v3 v4 ([1, 1, 0, 1, 0] ++ [0])) (cond (decide (v4 < (v0.length : Int)))
 (cond (nonneg v4)
 (cond (Nat.blt v4.toNat v0.length)
 ((c_l_toOp R (v0.getD v4.toNat (0, (0, (0, ()))))).bind fun r0 =>
 cond (nonneg v4)
 (cond (Nat.blt v4.toNat v3.length)
 (lp_l_toOpS_0 R L v0 v2 (v3.set v4.toNat r0.1) (IntKind.wrap .i64 (v4 + 1)))
 none)
 none)
 none)
 none)
 (some (v3, ()))) := by kernel_rfl
theorem q_l_toTxn (x0 : d54) : @Eq _ (c_l_toTxn (bodyK EE R L) x0) ((c_l_toOpS R x0.1).bind fun r0 =>
 some ((r0.1, ()), ())) := by kernel_rfl
theorem q_l_toTxnS (x0 : List d54) : @Eq _ (c_l_toTxnS (bodyK EE R L) x0) (cond (leI (x0.length : Int) (x0.length : Int))
 (cond (lenOK (x0.length : Int).toNat)
 (lp_l_toTxnS_0 R L x0 [] (List.replicate (x0.length : Int).toNat ([], ())) 0)
 none)
 none) := by kernel_rfl
theorem q_l_toTxnS_0 (v0 v2 v3 : List d54) (v4 : Int) : @Eq _ (lp_l_toTxnS_0 R L v0 v2 v3 v4 ([1, 1, 0, 1, 0] ++ [0])) (cond (decide (v4 < (v0.length : Int)))
 (cond (nonneg v4)
 (cond (Nat.blt v4.toNat v0.length)
 ((c_l_toTxn R (v0.getD v4.toNat ([], ()))).bind fun r0 =>
 cond (nonneg v4)
 (cond (Nat.blt v4.toNat v3.length)
 (lp_l_toTxnS_0 R L v0 v2 (v3.set v4.toNat r0.1) (IntKind.wrap .i64 (v4 + 1)))
 none)
 none)
 none)
 none)
 (some (v3, ()))) := by kernel_rfl
theorem q_l_toIntS (x0 : List Int) : @Eq _ (c_l_toIntS (bodyK EE R L) x0) (cond (leI (x0.length : Int) (x0.length : Int))
 (cond (lenOK (x0.length : Int).toNat)
 (lp_l_toIntS_0 R L x0 [] (List.replicate (x0.length : Int).toNat 0) 0)
 none)
 none) := by kernel_rfl
theorem q_l_toIntS_0 (v0 v2 v3 : List Int) (v4 : Int) : @Eq _ (lp_l_toIntS_0 R L v0 v2 v3 v4 ([1, 1, 0, 1, 0] ++ [0])) (cond (decide (v4 < (v0.length : Int)))
 (cond (nonneg v4)
 (cond (Nat.blt v4.toNat v0.length)
 (cond (nonneg v4)
 (cond (Nat.blt v4.toNat v3.length)
 (lp_l_toIntS_0 R L v0 v2 (v3.set v4.toNat (v0.getD v4.toNat 0)) (IntKind.wrap .i64 (v4 + 1)))
 none)
 none)
 none)
 none)
 (some (v3, ()))) := by kernel_rfl
theorem q_s_l01In (x0 x1 x2 : Int) : @Eq _ (c_s_l01In (bodyK EE R L) x0 x1 x2) (cond (decide (x1 ≤ x0))
 (some (decide (x0 ≤ x2), ()))
 (some (false, ()))) := by kernel_rfl
theorem q_s_l08Leaves (x0 : List Int) : @Eq _ (c_s_l08Leaves (bodyK EE R L) x0) (lp_s_l08Leaves_0 R L x0 0) := by kernel_rfl
theorem q_s_l08Leaves_0 (v0 : List Int) (v3 : Int) : @Eq _ (lp_s_l08Leaves_0 R L v0 v3 ([1, 0, 1, 0] ++ [0])) (cond (decide (v3 < (v0.length : Int)))
 (cond (nonneg v3)
 (cond (Nat.blt v3.toNat v0.length)
 ((c_s_l01In R (v0.getD v3.toNat 0) 0 7).bind fun r0 =>
 cond (!r0.1)
 (some (false, ()))
 (lp_s_l08Leaves_0 R L v0 (IntKind.wrap .i64 (v3 + 1))))
 none)
 none)
 (some (true, ()))) := by kernel_rfl
theorem q_s_l11Draws (x0 : List Int) (x1 : Int) : @Eq _ (c_s_l11Draws (bodyK EE R L) x0 x1) (cond (decide (4096 < (x0.length : Int)))
 (some (2, ()))
 (cond (!(eqI (x0.length : Int) x1))
 (some (13, ()))
 ((c_s_l08Leaves R x0).bind fun r0 =>
 cond (!r0.1)
 (some (4, ()))
 (some (0, ()))))) := by kernel_rfl
theorem q_s_RegisterOK (x0 : d59) : @Eq _ (c_s_RegisterOK (bodyK EE R L) x0) ((c_s_l01In R x0.1 0 1000000).bind fun r0 =>
 cond r0.1
 ((c_s_l01In R x0.2.1 0 1).bind fun r1 =>
 cond r1.1
 ((c_s_l01In R x0.2.2.2.1 0 1000000).bind fun r2 =>
 cond r2.1
 ((c_s_l01In R x0.2.2.1 x0.1 (minI (IntKind.wrap .i64 (x0.1 + 4)) 1000000)).bind fun r3 =>
 cond r3.1
 (cond (eqI (x0.2.2.2.2.1.length : Int) 32)
 (cond (eqI (x0.2.2.2.2.2.1.length : Int) 32)
 (cond (eqI (x0.2.2.2.2.2.2.1.length : Int) 32)
 (cond (decide (x0.1 < x0.2.2.1))
 (some (true, ()))
 (some (eqS x0.2.2.2.2.1 x0.2.2.2.2.2.1, ())))
 (some (false, ())))
 (some (false, ())))
 (some (false, ())))
 (some (false, ())))
 (some (false, ())))
 (some (false, ())))
 (some (false, ()))) := by kernel_rfl
theorem q_s_l05In (x0 : Int) : @Eq _ (c_s_l05In (bodyK EE R L) x0) ((c_s_l01In R x0 0 39).bind fun r0 =>
 some (r0.1, ())) := by kernel_rfl
theorem q_s_DeviceOK (x0 : d61) : @Eq _ (c_s_DeviceOK (bodyK EE R L) x0) (cond (!(eqI (x0.1.length : Int) 40))
 (some (false, ()))
 (cond (decide (60 < (x0.2.1.length : Int)))
 (some (false, ()))
 (lp_s_DeviceOK_0 R L x0 x0 false 0))) := by kernel_rfl
theorem q_s_DeviceOK_0 (v0 v1 : d61) (v2 : Bool) (v3 : Int) : @Eq _ (lp_s_DeviceOK_0 R L v0 v1 v2 v3 ([1, 1, 0, 1, 0] ++ [0])) (cond (decide (v3 < (v1.1.length : Int)))
 (cond (nonneg v3)
 (cond (Nat.blt v3.toNat v1.1.length)
 (cond (decide (700 < ((v1.1.getD v3.toNat []).length : Int)))
 (some (false, ()))
 (lp_s_DeviceOK_0 R L v0 v1 v2 (IntKind.wrap .i64 (v3 + 1))))
 none)
 none)
 (lp_s_DeviceOK_1 R L v0 v1 v2 v3 0)) := by kernel_rfl
theorem q_s_DeviceOK_1 (v0 v1 : d61) (v2 : Bool) (v3 v4 : Int) : @Eq _ (lp_s_DeviceOK_1 R L v0 v1 v2 v3 v4 ([1, 1, 1, 0, 1, 0] ++ [0])) (cond (decide (v4 < (v1.2.1.length : Int)))
 (cond (nonneg v4)
 (cond (Nat.blt v4.toNat v1.2.1.length)
 ((c_s_l05In R (v1.2.1.getD v4.toNat (0, ([], ()))).1).bind fun r0 =>
 cond (!r0.1)
 (some (false, ()))
 (cond (nonneg v4)
 (cond (Nat.blt v4.toNat v1.2.1.length)
 (cond (decide (700 < ((v1.2.1.getD v4.toNat (0, ([], ()))).2.1.length : Int)))
 (some (false, ()))
 (lp_s_DeviceOK_1 R L v0 v1 v2 v3 (IntKind.wrap .i64 (v4 + 1))))
 none)
 none))
 none)
 none)
 (some (true, ()))) := by kernel_rfl
theorem q_s_StoreOK (x0 : d62) : @Eq _ (c_s_StoreOK (bodyK EE R L) x0) (cond (eqI (x0.1.length : Int) 32)
 ((c_s_RegisterOK R x0.2.1).bind fun r0 =>
 cond r0.1
 ((c_s_DeviceOK R x0.2.2.1).bind fun r1 =>
 cond r1.1
 (cond (eqI (x0.2.2.1.2.1.length : Int) 0)
 (cond x0.2.2.2.1
 (some (!x0.2.2.2.2.1, ()))
 (some (!false, ())))
 (some (false, ())))
 (some (false, ())))
 (some (false, ())))
 (some (false, ()))) := by kernel_rfl
theorem q_s_OpOK (x0 : d53) : @Eq _ (c_s_OpOK (bodyK EE R L) x0) ((c_s_l01In R x0.1 1 6).bind fun r0 =>
 cond (!r0.1)
 (some (false, ()))
 ((c_s_l01In R x0.2.1 1 9999).bind fun r1 =>
 cond (!r1.1)
 (some (false, ()))
 (cond (eqI x0.1 1)
 (some (eqI x0.2.2.1 0, ()))
 (cond (eqI x0.1 3)
 (some (eqI x0.2.2.1 0, ()))
 (cond (eqI x0.1 6)
 ((c_s_l01In R x0.2.2.1 1 4).bind fun r2 =>
 some (r2.1, ()))
 ((c_s_l01In R x0.2.2.1 0 999999).bind fun r2 =>
 some (r2.1, ()))))))) := by kernel_rfl
theorem q_s_l09Txn (x0 : d54) : @Eq _ (c_s_l09Txn (bodyK EE R L) x0) (lp_s_l09Txn_0 R L x0 x0 false 0) := by kernel_rfl
theorem q_s_l09Txn_0 (v0 v1 : d54) (v2 : Bool) (v3 : Int) : @Eq _ (lp_s_l09Txn_0 R L v0 v1 v2 v3 ([1, 0, 1, 0] ++ [0])) (cond (decide (v3 < (v1.1.length : Int)))
 (cond (nonneg v3)
 (cond (Nat.blt v3.toNat v1.1.length)
 ((c_s_OpOK R (v1.1.getD v3.toNat (0, (0, (0, ()))))).bind fun r0 =>
 cond (!r0.1)
 (some (false, ()))
 (lp_s_l09Txn_0 R L v0 v1 v2 (IntKind.wrap .i64 (v3 + 1))))
 none)
 none)
 ((c_s_l01In R (v1.1.length : Int) 1 4).bind fun r0 =>
 some (r0.1, ()))) := by kernel_rfl
theorem q_s_BatchOK (x0 : List d54) : @Eq _ (c_s_BatchOK (bodyK EE R L) x0) (cond (decide (4096 < (x0.length : Int)))
 (some (false, ()))
 ((c_s_l01In R (x0.length : Int) 1 2).bind fun r0 =>
 cond (!r0.1)
 (some (false, ()))
 (lp_s_BatchOK_0 R L x0 false 0))) := by kernel_rfl
theorem q_s_BatchOK_0 (v0 : List d54) (v2 : Bool) (v3 : Int) : @Eq _ (lp_s_BatchOK_0 R L v0 v2 v3 ([1, 1, 1, 0, 1, 0] ++ [0])) (cond (decide (v3 < (v0.length : Int)))
 (cond (nonneg v3)
 (cond (Nat.blt v3.toNat v0.length)
 ((c_s_l09Txn R (v0.getD v3.toNat ([], ()))).bind fun r0 =>
 cond (!r0.1)
 (some (false, ()))
 (lp_s_BatchOK_0 R L v0 v2 (IntKind.wrap .i64 (v3 + 1))))
 none)
 none)
 (some (true, ()))) := by kernel_rfl
theorem q_s_l13Batch (x0 : d62) (x1 : List d54) (x2 : List Int) : @Eq _ (c_s_l13Batch (bodyK EE R L) x0 x1 x2) ((c_s_l11Draws R x2 40).bind fun r0 =>
 cond (!(eqI r0.1 0))
 (some (r0.1, ()))
 (cond (decide (4096 < (x1.length : Int)))
 (some (2, ()))
 ((c_s_StoreOK R x0).bind fun r1 =>
 cond (!r1.1)
 (some (1, ()))
 ((c_s_BatchOK R x1).bind fun r2 =>
 cond (!r2.1)
 (some (1, ()))
 (some (0, ())))))) := by kernel_rfl
theorem q_s_l13Ask (x0 : d62) : @Eq _ (c_s_l13Ask (bodyK EE R L) x0) (cond x0.2.2.2.2.1
 (some (18, ()))
 (cond (!x0.2.2.2.1)
 (some (16, ()))
 (some (0, ())))) := by kernel_rfl
theorem q_s_l13Room (x0 : d62) : @Eq _ (c_s_l13Room (bodyK EE R L) x0) (cond (eqI (IntKind.wrap .i64 (x0.2.1.2.2.1 - x0.2.1.1)) 4)
 (some (7, ()))
 (cond (decide (1000000 ≤ x0.2.1.2.2.1))
 (some (7, ()))
 (some (0, ())))) := by kernel_rfl
theorem q_s_l13Number (x0 x1 : Int) : @Eq _ (c_s_l13Number (bodyK EE R L) x0 x1) (some (IntKind.wrap .i64 (x0 + (IntKind.wrap .i64 (x1 * (2 ^ (Min.min (20 : Int).toNat (IntKind.bits .i64)))))), ())) := by kernel_rfl
theorem q_s_l04Eight (x0 : Int) : @Eq _ (c_s_l04Eight (bodyK EE R L) x0) (lp_s_l04Eight_0 R L x0 [] 0) := by kernel_rfl
theorem q_s_l04Eight_0 (v0 : Int) (v3 : List Int) (v4 : Int) : @Eq _ (lp_s_l04Eight_0 R L v0 v3 v4 ([1, 1, 0, 1, 0] ++ [0])) (cond (decide (v4 < 8))
 (cond (decide ((IntKind.wrap .i64 (8 * v4)) < 0))
 none
 (cond (lenOK (v3.length + ([IntKind.wrap .u8 (Int.fdiv v0 (2 ^ (Min.min (IntKind.wrap .i64 (8 * v4)).toNat (IntKind.bits .i64))))]).length))
 (lp_s_l04Eight_0 R L v0 (v3 ++ [IntKind.wrap .u8 (Int.fdiv v0 (2 ^ (Min.min (IntKind.wrap .i64 (8 * v4)).toNat (IntKind.bits .i64))))]) (IntKind.wrap .i64 (v4 + 1)))
 none))
 (some (List.map (fun (n : Int) => UInt8.ofNat n.toNat) v3, ()))) := by kernel_rfl
theorem q_s_l06Nonce (x0 x1 x2 : Int) : @Eq _ (c_s_l06Nonce (bodyK EE R L) x0 x1 x2) ((c_s_l04Eight R x2).bind fun r0 =>
 cond (lenOK ((List.map (fun (n : Int) => UInt8.ofNat n.toNat) [IntKind.wrap .u8 x0, IntKind.wrap .u8 x1, IntKind.wrap .u8 (Int.fdiv x1 (2 ^ (Min.min (8 : Int).toNat (IntKind.bits .i64)))), 0]).length + r0.1.length))
 (some ((List.map (fun (n : Int) => UInt8.ofNat n.toNat) [IntKind.wrap .u8 x0, IntKind.wrap .u8 x1, IntKind.wrap .u8 (Int.fdiv x1 (2 ^ (Min.min (8 : Int).toNat (IntKind.bits .i64)))), 0]) ++ r0.1, ()))
 none) := by kernel_rfl
theorem q_s_l04Pad (x0 : List UInt8) : @Eq _ (c_s_l04Pad (bodyK EE R L) x0) (lp_s_l04Pad_0 R L x0) := by kernel_rfl
theorem q_s_l04Pad_0 (v0 : List UInt8) : @Eq _ (lp_s_l04Pad_0 R L v0 ([1, 0, 0] ++ [0])) (cond (!(eqI (Int.tmod (v0.length : Int) 16) 0))
 (cond (lenOK (v0.length + ([(0 : UInt8)]).length))
 (lp_s_l04Pad_0 R L (v0 ++ [0]))
 none)
 (some (v0, ()))) := by kernel_rfl
theorem q_s_l03Clamp (x0 : List UInt8) : @Eq _ (c_s_l03Clamp (bodyK EE R L) x0) (cond (Nat.ble (16 : Int).toNat x0.length)
 (lp_s_l03Clamp_0 R L (List.map (fun (b : UInt8) => (UInt8.toNat b : Int)) (List.drop 0 (List.take (16 : Int).toNat x0))) 3)
 none) := by kernel_rfl
theorem q_s_l03Clamp_0 (v3 : List Int) (v4 : Int) : @Eq _ (lp_s_l03Clamp_0 R L v3 v4 ([1, 1, 0, 1, 0] ++ [0])) (cond (decide (v4 < 16))
 (cond (nonneg v4)
 (cond (Nat.blt v4.toNat v3.length)
 (cond (nonneg v4)
 (cond (Nat.blt v4.toNat v3.length)
 (lp_s_l03Clamp_0 R L (v3.set v4.toNat (bitI .and .u8 (v3.getD v4.toNat 0) 15)) (IntKind.wrap .i64 (v4 + 4)))
 none)
 none)
 none)
 none)
 (lp_s_l03Clamp_1 R L v3 4)) := by kernel_rfl
theorem q_s_l03Clamp_1 (v3 : List Int) (v5 : Int) : @Eq _ (lp_s_l03Clamp_1 R L v3 v5 ([1, 1, 1, 0, 1, 0] ++ [0])) (cond (decide (v5 < 16))
 (cond (nonneg v5)
 (cond (Nat.blt v5.toNat v3.length)
 (cond (nonneg v5)
 (cond (Nat.blt v5.toNat v3.length)
 (lp_s_l03Clamp_1 R L (v3.set v5.toNat (bitI .and .u8 (v3.getD v5.toNat 0) 252)) (IntKind.wrap .i64 (v5 + 4)))
 none)
 none)
 none)
 none)
 (some (List.map (fun (n : Int) => UInt8.ofNat n.toNat) v3, ()))) := by kernel_rfl
theorem q_s_l03Parts (x0 : List UInt8) : @Eq _ (c_s_l03Parts (bodyK EE R L) x0) (lp_s_l03Parts_0 R L x0 (List.replicate 5 0) [0, 0, 0, 0, 0] 0) := by kernel_rfl
theorem q_s_l03Parts_0 (v0 : List UInt8) (v2 v3 : List Int) (v4 : Int) : @Eq _ (lp_s_l03Parts_0 R L v0 v2 v3 v4 ([1, 1, 0, 1, 0] ++ [0])) (cond (decide (v4 < 17))
 (cond (nonneg v4)
 (cond (Nat.blt v4.toNat v0.length)
 (cond (nonneg (IntKind.wrap .i64 (Int.tdiv (IntKind.wrap .i64 (8 * v4)) 26)))
 (cond (Nat.blt (IntKind.wrap .i64 (Int.tdiv (IntKind.wrap .i64 (8 * v4)) 26)).toNat 5)
 (cond (decide ((Int.tmod (IntKind.wrap .i64 (8 * v4)) 26) < 0))
 none
 (cond (nonneg (IntKind.wrap .i64 (Int.tdiv (IntKind.wrap .i64 (8 * v4)) 26)))
 (cond (Nat.blt (IntKind.wrap .i64 (Int.tdiv (IntKind.wrap .i64 (8 * v4)) 26)).toNat 5)
 (cond (decide (18 < (Int.tmod (IntKind.wrap .i64 (8 * v4)) 26)))
 (cond (decide ((IntKind.wrap .i64 (Int.tdiv (IntKind.wrap .i64 (8 * v4)) 26)) < 4))
 (cond (nonneg (IntKind.wrap .i64 ((IntKind.wrap .i64 (Int.tdiv (IntKind.wrap .i64 (8 * v4)) 26)) + 1)))
 (cond (Nat.blt (IntKind.wrap .i64 ((IntKind.wrap .i64 (Int.tdiv (IntKind.wrap .i64 (8 * v4)) 26)) + 1)).toNat 5)
 (cond (decide ((IntKind.wrap .i64 (26 - (Int.tmod (IntKind.wrap .i64 (8 * v4)) 26))) < 0))
 none
 (cond (nonneg (IntKind.wrap .i64 ((IntKind.wrap .i64 (Int.tdiv (IntKind.wrap .i64 (8 * v4)) 26)) + 1)))
 (cond (Nat.blt (IntKind.wrap .i64 ((IntKind.wrap .i64 (Int.tdiv (IntKind.wrap .i64 (8 * v4)) 26)) + 1)).toNat 5)
 (lp_s_l03Parts_0 R L v0 v2 ((v3.set (IntKind.wrap .i64 (Int.tdiv (IntKind.wrap .i64 (8 * v4)) 26)).toNat (IntKind.wrap .i64 ((v3.getD (IntKind.wrap .i64 (Int.tdiv (IntKind.wrap .i64 (8 * v4)) 26)).toNat 0) + (bitI .and .i64 (IntKind.wrap .i64 ((IntKind.wrap .i64 (UInt8.toNat (v0.getD v4.toNat 0) : Int)) * (2 ^ (Min.min (Int.tmod (IntKind.wrap .i64 (8 * v4)) 26).toNat (IntKind.bits .i64))))) 67108863)))).set (IntKind.wrap .i64 ((IntKind.wrap .i64 (Int.tdiv (IntKind.wrap .i64 (8 * v4)) 26)) + 1)).toNat (IntKind.wrap .i64 (((v3.set (IntKind.wrap .i64 (Int.tdiv (IntKind.wrap .i64 (8 * v4)) 26)).toNat (IntKind.wrap .i64 ((v3.getD (IntKind.wrap .i64 (Int.tdiv (IntKind.wrap .i64 (8 * v4)) 26)).toNat 0) + (bitI .and .i64 (IntKind.wrap .i64 ((IntKind.wrap .i64 (UInt8.toNat (v0.getD v4.toNat 0) : Int)) * (2 ^ (Min.min (Int.tmod (IntKind.wrap .i64 (8 * v4)) 26).toNat (IntKind.bits .i64))))) 67108863)))).getD (IntKind.wrap .i64 ((IntKind.wrap .i64 (Int.tdiv (IntKind.wrap .i64 (8 * v4)) 26)) + 1)).toNat 0) + (Int.fdiv (IntKind.wrap .i64 (UInt8.toNat (v0.getD v4.toNat 0) : Int)) (2 ^ (Min.min (IntKind.wrap .i64 (26 - (Int.tmod (IntKind.wrap .i64 (8 * v4)) 26))).toNat (IntKind.bits .i64))))))) (IntKind.wrap .i64 (v4 + 1)))
 none)
 none))
 none)
 none)
 (lp_s_l03Parts_0 R L v0 v2 (v3.set (IntKind.wrap .i64 (Int.tdiv (IntKind.wrap .i64 (8 * v4)) 26)).toNat (IntKind.wrap .i64 ((v3.getD (IntKind.wrap .i64 (Int.tdiv (IntKind.wrap .i64 (8 * v4)) 26)).toNat 0) + (bitI .and .i64 (IntKind.wrap .i64 ((IntKind.wrap .i64 (UInt8.toNat (v0.getD v4.toNat 0) : Int)) * (2 ^ (Min.min (Int.tmod (IntKind.wrap .i64 (8 * v4)) 26).toNat (IntKind.bits .i64))))) 67108863)))) (IntKind.wrap .i64 (v4 + 1))))
 (lp_s_l03Parts_0 R L v0 v2 (v3.set (IntKind.wrap .i64 (Int.tdiv (IntKind.wrap .i64 (8 * v4)) 26)).toNat (IntKind.wrap .i64 ((v3.getD (IntKind.wrap .i64 (Int.tdiv (IntKind.wrap .i64 (8 * v4)) 26)).toNat 0) + (bitI .and .i64 (IntKind.wrap .i64 ((IntKind.wrap .i64 (UInt8.toNat (v0.getD v4.toNat 0) : Int)) * (2 ^ (Min.min (Int.tmod (IntKind.wrap .i64 (8 * v4)) 26).toNat (IntKind.bits .i64))))) 67108863)))) (IntKind.wrap .i64 (v4 + 1))))
 none)
 none))
 none)
 none)
 none)
 none)
 (some (v3, ()))) := by kernel_rfl
theorem q_s_l03Carry (x0 : List Int) : @Eq _ (c_s_l03Carry (bodyK EE R L) x0) (lp_s_l03Carry_0 R L x0 (List.replicate 5 0) 0) := by kernel_rfl
theorem q_s_l03Carry_0 (v1 v2 : List Int) (v3 : Int) : @Eq _ (lp_s_l03Carry_0 R L v1 v2 v3 ([1, 0, 1, 0] ++ [0])) (cond (decide (v3 < 3))
 (lp_s_l03Carry_1 R L v1 v2 v3 0)
 (some (v1, ()))) := by kernel_rfl
theorem q_s_l03Carry_1 (v1 v2 : List Int) (v3 v4 : Int) : @Eq _ (lp_s_l03Carry_1 R L v1 v2 v3 v4 ([1, 0, 1, 0, 0, 1, 0, 0, 0, 1, 0] ++ [0])) (cond (decide (v4 < 4))
 (cond (nonneg (IntKind.wrap .i64 (v4 + 1)))
 (cond (Nat.blt (IntKind.wrap .i64 (v4 + 1)).toNat 5)
 (cond (nonneg v4)
 (cond (Nat.blt v4.toNat 5)
 (cond (nonneg (IntKind.wrap .i64 (v4 + 1)))
 (cond (Nat.blt (IntKind.wrap .i64 (v4 + 1)).toNat 5)
 (cond (nonneg v4)
 (cond (Nat.blt v4.toNat 5)
 (cond (nonneg v4)
 (cond (Nat.blt v4.toNat 5)
 (lp_s_l03Carry_1 R L ((v1.set (IntKind.wrap .i64 (v4 + 1)).toNat (IntKind.wrap .i64 ((v1.getD (IntKind.wrap .i64 (v4 + 1)).toNat 0) + (Int.fdiv (v1.getD v4.toNat 0) (2 ^ (Min.min (26 : Int).toNat (IntKind.bits .i64))))))).set v4.toNat (bitI .and .i64 ((v1.set (IntKind.wrap .i64 (v4 + 1)).toNat (IntKind.wrap .i64 ((v1.getD (IntKind.wrap .i64 (v4 + 1)).toNat 0) + (Int.fdiv (v1.getD v4.toNat 0) (2 ^ (Min.min (26 : Int).toNat (IntKind.bits .i64))))))).getD v4.toNat 0) 67108863)) v2 v3 (IntKind.wrap .i64 (v4 + 1)))
 none)
 none)
 none)
 none)
 none)
 none)
 none)
 none)
 none)
 none)
 (lp_s_l03Carry_0 R L ((v1.set (0 : Int).toNat (IntKind.wrap .i64 ((v1.getD (0 : Int).toNat 0) + (IntKind.wrap .i64 (5 * (Int.fdiv (v1.getD (4 : Int).toNat 0) (2 ^ (Min.min (26 : Int).toNat (IntKind.bits .i64))))))))).set (4 : Int).toNat (bitI .and .i64 ((v1.set (0 : Int).toNat (IntKind.wrap .i64 ((v1.getD (0 : Int).toNat 0) + (IntKind.wrap .i64 (5 * (Int.fdiv (v1.getD (4 : Int).toNat 0) (2 ^ (Min.min (26 : Int).toNat (IntKind.bits .i64))))))))).getD (4 : Int).toNat 0) 67108863)) v2 (IntKind.wrap .i64 (v3 + 1)))) := by kernel_rfl
theorem q_s_l03Times (x0 x1 : List Int) : @Eq _ (c_s_l03Times (bodyK EE R L) x0 x1) (lp_s_l03Times_0 R L x0 x1 (List.replicate 5 0) [0, 0, 0, 0, 0] 0) := by kernel_rfl
theorem q_s_l03Times_0 (v2 v3 v4 v5 : List Int) (v6 : Int) : @Eq _ (lp_s_l03Times_0 R L v2 v3 v4 v5 v6 ([1, 1, 0, 1, 0] ++ [0])) (cond (decide (v6 < 5))
 (lp_s_l03Times_1 R L v2 v3 v4 v5 v6 0)
 ((c_s_l03Carry R v5).bind fun r0 =>
 some (r0.1, ()))) := by kernel_rfl
theorem q_s_l03Times_1 (v2 v3 v4 v5 : List Int) (v6 v7 : Int) : @Eq _ (lp_s_l03Times_1 R L v2 v3 v4 v5 v6 v7 ([1, 1, 0, 1, 0, 0, 1, 0, 0, 1, 0] ++ [0])) (cond (decide (v7 < 5))
 (cond (nonneg v6)
 (cond (Nat.blt v6.toNat 5)
 (cond (nonneg v7)
 (cond (Nat.blt v7.toNat 5)
 (cond (decide (4 < (IntKind.wrap .i64 (v6 + v7))))
 (cond (nonneg (Int.tmod (IntKind.wrap .i64 (v6 + v7)) 5))
 (cond (Nat.blt (Int.tmod (IntKind.wrap .i64 (v6 + v7)) 5).toNat 5)
 (cond (nonneg (Int.tmod (IntKind.wrap .i64 (v6 + v7)) 5))
 (cond (Nat.blt (Int.tmod (IntKind.wrap .i64 (v6 + v7)) 5).toNat 5)
 (lp_s_l03Times_1 R L v2 v3 v4 (v5.set (Int.tmod (IntKind.wrap .i64 (v6 + v7)) 5).toNat (IntKind.wrap .i64 ((v5.getD (Int.tmod (IntKind.wrap .i64 (v6 + v7)) 5).toNat 0) + (IntKind.wrap .i64 ((IntKind.wrap .i64 ((v2.getD v6.toNat 0) * (v3.getD v7.toNat 0))) * 5))))) v6 (IntKind.wrap .i64 (v7 + 1)))
 none)
 none)
 none)
 none)
 (cond (nonneg (Int.tmod (IntKind.wrap .i64 (v6 + v7)) 5))
 (cond (Nat.blt (Int.tmod (IntKind.wrap .i64 (v6 + v7)) 5).toNat 5)
 (cond (nonneg (Int.tmod (IntKind.wrap .i64 (v6 + v7)) 5))
 (cond (Nat.blt (Int.tmod (IntKind.wrap .i64 (v6 + v7)) 5).toNat 5)
 (lp_s_l03Times_1 R L v2 v3 v4 (v5.set (Int.tmod (IntKind.wrap .i64 (v6 + v7)) 5).toNat (IntKind.wrap .i64 ((v5.getD (Int.tmod (IntKind.wrap .i64 (v6 + v7)) 5).toNat 0) + (IntKind.wrap .i64 ((v2.getD v6.toNat 0) * (v3.getD v7.toNat 0)))))) v6 (IntKind.wrap .i64 (v7 + 1)))
 none)
 none)
 none)
 none))
 none)
 none)
 none)
 none)
 (lp_s_l03Times_0 R L v2 v3 v4 v5 (IntKind.wrap .i64 (v6 + 1)))) := by kernel_rfl
theorem q_s_l03Less (x0 : List Int) : @Eq _ (c_s_l03Less (bodyK EE R L) x0) (lp_s_l03Less_0 R L x0 (List.replicate 5 0) (x0.set (0 : Int).toNat (IntKind.wrap .i64 ((x0.getD (0 : Int).toNat 0) + 5))) 0) := by kernel_rfl
theorem q_s_l03Less_0 (v1 v2 v3 : List Int) (v4 : Int) : @Eq _ (lp_s_l03Less_0 R L v1 v2 v3 v4 ([1, 1, 1, 0, 1, 0] ++ [0])) (cond (decide (v4 < 4))
 (cond (nonneg (IntKind.wrap .i64 (v4 + 1)))
 (cond (Nat.blt (IntKind.wrap .i64 (v4 + 1)).toNat 5)
 (cond (nonneg v4)
 (cond (Nat.blt v4.toNat 5)
 (cond (nonneg (IntKind.wrap .i64 (v4 + 1)))
 (cond (Nat.blt (IntKind.wrap .i64 (v4 + 1)).toNat 5)
 (cond (nonneg v4)
 (cond (Nat.blt v4.toNat 5)
 (cond (nonneg v4)
 (cond (Nat.blt v4.toNat 5)
 (lp_s_l03Less_0 R L v1 v2 ((v3.set (IntKind.wrap .i64 (v4 + 1)).toNat (IntKind.wrap .i64 ((v3.getD (IntKind.wrap .i64 (v4 + 1)).toNat 0) + (Int.fdiv (v3.getD v4.toNat 0) (2 ^ (Min.min (26 : Int).toNat (IntKind.bits .i64))))))).set v4.toNat (bitI .and .i64 ((v3.set (IntKind.wrap .i64 (v4 + 1)).toNat (IntKind.wrap .i64 ((v3.getD (IntKind.wrap .i64 (v4 + 1)).toNat 0) + (Int.fdiv (v3.getD v4.toNat 0) (2 ^ (Min.min (26 : Int).toNat (IntKind.bits .i64))))))).getD v4.toNat 0) 67108863)) (IntKind.wrap .i64 (v4 + 1)))
 none)
 none)
 none)
 none)
 none)
 none)
 none)
 none)
 none)
 none)
 (cond (eqI (Int.fdiv (v3.getD (4 : Int).toNat 0) (2 ^ (Min.min (26 : Int).toNat (IntKind.bits .i64)))) 0)
 (some (v1, ()))
 (some (v3.set (4 : Int).toNat (bitI .and .i64 (v3.getD (4 : Int).toNat 0) 67108863), ())))) := by kernel_rfl
theorem q_s_l03Tag (x0 x1 : List UInt8) : @Eq _ (c_s_l03Tag (bodyK EE R L) x0 x1) ((c_s_l03Clamp R x0).bind fun r0 =>
 cond (lenOK (r0.1.length + ([(0 : UInt8)]).length))
 ((c_s_l03Parts R (r0.1 ++ [0])).bind fun r1 =>
 lp_s_l03Tag_0 R L x0 x1 r1.1 [0, 0, 0, 0, 0] 0)
 none) := by kernel_rfl
theorem q_s_l03Tag_0 (v0 v1 : List UInt8) (v5 v6 : List Int) (v7 : Int) : @Eq _ (lp_s_l03Tag_0 R L v0 v1 v5 v6 v7 ([1, 1, 1, 0, 1, 0] ++ [0])) (cond (decide (v7 < (v1.length : Int)))
 (cond (nonneg (minI (v1.length : Int) (IntKind.wrap .i64 (v7 + 16))))
 (cond (nonneg v7)
 (cond (Nat.ble (minI (v1.length : Int) (IntKind.wrap .i64 (v7 + 16))).toNat v1.length)
 (cond (Nat.ble v7.toNat (minI (v1.length : Int) (IntKind.wrap .i64 (v7 + 16))).toNat)
 (cond (lenOK ((List.drop v7.toNat (List.take (minI (v1.length : Int) (IntKind.wrap .i64 (v7 + 16))).toNat v1)).length + ([(1 : UInt8)]).length))
 (lp_s_l03Tag_1 R L v0 v1 v5 v6 v7 ((List.drop v7.toNat (List.take (minI (v1.length : Int) (IntKind.wrap .i64 (v7 + 16))).toNat v1)) ++ [1]))
 none)
 none)
 none)
 none)
 none)
 ((c_s_l03Carry R v6).bind fun r0 =>
 (c_s_l03Less R r0.1).bind fun r1 =>
 lp_s_l03Tag_2 R L v0 r1.1 [] 0 0)) := by kernel_rfl
theorem q_s_l03Tag_1 (v0 v1 : List UInt8) (v5 v6 : List Int) (v7 : Int) (v8 : List UInt8) : @Eq _ (lp_s_l03Tag_1 R L v0 v1 v5 v6 v7 v8 ([1, 1, 1, 0, 1, 0, 0, 1, 0, 0, 1, 0, 0] ++ [0])) (cond (decide ((v8.length : Int) < 17))
 (cond (lenOK (v8.length + ([(0 : UInt8)]).length))
 (lp_s_l03Tag_1 R L v0 v1 v5 v6 v7 (v8 ++ [0]))
 none)
 ((c_s_l03Parts R v8).bind fun r0 =>
 lp_s_l03Tag_3 R L v0 v1 v5 v6 v7 r0.1 0)) := by kernel_rfl
theorem q_s_l03Tag_2 (v0 : List UInt8) (v6 v11 : List Int) (v12 v13 : Int) : @Eq _ (lp_s_l03Tag_2 R L v0 v6 v11 v12 v13 ([1, 1, 1, 1, 1, 1, 1, 0, 1, 0] ++ [0])) (cond (decide (v13 < 16))
 (cond (nonneg (IntKind.wrap .i64 (Int.tdiv (IntKind.wrap .i64 (8 * v13)) 26)))
 (cond (Nat.blt (IntKind.wrap .i64 (Int.tdiv (IntKind.wrap .i64 (8 * v13)) 26)).toNat 5)
 (cond (decide ((Int.tmod (IntKind.wrap .i64 (8 * v13)) 26) < 0))
 none
 (cond (decide (18 < (Int.tmod (IntKind.wrap .i64 (8 * v13)) 26)))
 (cond (nonneg (IntKind.wrap .i64 ((IntKind.wrap .i64 (Int.tdiv (IntKind.wrap .i64 (8 * v13)) 26)) + 1)))
 (cond (Nat.blt (IntKind.wrap .i64 ((IntKind.wrap .i64 (Int.tdiv (IntKind.wrap .i64 (8 * v13)) 26)) + 1)).toNat 5)
 (cond (decide ((IntKind.wrap .i64 (26 - (Int.tmod (IntKind.wrap .i64 (8 * v13)) 26))) < 0))
 none
 (cond (nonneg (IntKind.wrap .i64 (16 + v13)))
 (cond (Nat.blt (IntKind.wrap .i64 (16 + v13)).toNat v0.length)
 (cond (lenOK (v11.length + ([IntKind.wrap .u8 (IntKind.wrap .i64 (v12 + (IntKind.wrap .i64 ((bitI .and .i64 (IntKind.wrap .i64 ((Int.fdiv (v6.getD (IntKind.wrap .i64 (Int.tdiv (IntKind.wrap .i64 (8 * v13)) 26)).toNat 0) (2 ^ (Min.min (Int.tmod (IntKind.wrap .i64 (8 * v13)) 26).toNat (IntKind.bits .i64)))) + (IntKind.wrap .i64 ((v6.getD (IntKind.wrap .i64 ((IntKind.wrap .i64 (Int.tdiv (IntKind.wrap .i64 (8 * v13)) 26)) + 1)).toNat 0) * (2 ^ (Min.min (IntKind.wrap .i64 (26 - (Int.tmod (IntKind.wrap .i64 (8 * v13)) 26))).toNat (IntKind.bits .i64))))))) 255) + (IntKind.wrap .i64 (UInt8.toNat (v0.getD (IntKind.wrap .i64 (16 + v13)).toNat 0) : Int))))))]).length))
 (lp_s_l03Tag_2 R L v0 v6 (v11 ++ [IntKind.wrap .u8 (IntKind.wrap .i64 (v12 + (IntKind.wrap .i64 ((bitI .and .i64 (IntKind.wrap .i64 ((Int.fdiv (v6.getD (IntKind.wrap .i64 (Int.tdiv (IntKind.wrap .i64 (8 * v13)) 26)).toNat 0) (2 ^ (Min.min (Int.tmod (IntKind.wrap .i64 (8 * v13)) 26).toNat (IntKind.bits .i64)))) + (IntKind.wrap .i64 ((v6.getD (IntKind.wrap .i64 ((IntKind.wrap .i64 (Int.tdiv (IntKind.wrap .i64 (8 * v13)) 26)) + 1)).toNat 0) * (2 ^ (Min.min (IntKind.wrap .i64 (26 - (Int.tmod (IntKind.wrap .i64 (8 * v13)) 26))).toNat (IntKind.bits .i64))))))) 255) + (IntKind.wrap .i64 (UInt8.toNat (v0.getD (IntKind.wrap .i64 (16 + v13)).toNat 0) : Int))))))]) (Int.fdiv (IntKind.wrap .i64 (v12 + (IntKind.wrap .i64 ((bitI .and .i64 (IntKind.wrap .i64 ((Int.fdiv (v6.getD (IntKind.wrap .i64 (Int.tdiv (IntKind.wrap .i64 (8 * v13)) 26)).toNat 0) (2 ^ (Min.min (Int.tmod (IntKind.wrap .i64 (8 * v13)) 26).toNat (IntKind.bits .i64)))) + (IntKind.wrap .i64 ((v6.getD (IntKind.wrap .i64 ((IntKind.wrap .i64 (Int.tdiv (IntKind.wrap .i64 (8 * v13)) 26)) + 1)).toNat 0) * (2 ^ (Min.min (IntKind.wrap .i64 (26 - (Int.tmod (IntKind.wrap .i64 (8 * v13)) 26))).toNat (IntKind.bits .i64))))))) 255) + (IntKind.wrap .i64 (UInt8.toNat (v0.getD (IntKind.wrap .i64 (16 + v13)).toNat 0) : Int)))))) (2 ^ (Min.min (8 : Int).toNat (IntKind.bits .i64)))) (IntKind.wrap .i64 (v13 + 1)))
 none)
 none)
 none))
 none)
 none)
 (cond (nonneg (IntKind.wrap .i64 (16 + v13)))
 (cond (Nat.blt (IntKind.wrap .i64 (16 + v13)).toNat v0.length)
 (cond (lenOK (v11.length + ([IntKind.wrap .u8 (IntKind.wrap .i64 (v12 + (IntKind.wrap .i64 ((bitI .and .i64 (Int.fdiv (v6.getD (IntKind.wrap .i64 (Int.tdiv (IntKind.wrap .i64 (8 * v13)) 26)).toNat 0) (2 ^ (Min.min (Int.tmod (IntKind.wrap .i64 (8 * v13)) 26).toNat (IntKind.bits .i64)))) 255) + (IntKind.wrap .i64 (UInt8.toNat (v0.getD (IntKind.wrap .i64 (16 + v13)).toNat 0) : Int))))))]).length))
 (lp_s_l03Tag_2 R L v0 v6 (v11 ++ [IntKind.wrap .u8 (IntKind.wrap .i64 (v12 + (IntKind.wrap .i64 ((bitI .and .i64 (Int.fdiv (v6.getD (IntKind.wrap .i64 (Int.tdiv (IntKind.wrap .i64 (8 * v13)) 26)).toNat 0) (2 ^ (Min.min (Int.tmod (IntKind.wrap .i64 (8 * v13)) 26).toNat (IntKind.bits .i64)))) 255) + (IntKind.wrap .i64 (UInt8.toNat (v0.getD (IntKind.wrap .i64 (16 + v13)).toNat 0) : Int))))))]) (Int.fdiv (IntKind.wrap .i64 (v12 + (IntKind.wrap .i64 ((bitI .and .i64 (Int.fdiv (v6.getD (IntKind.wrap .i64 (Int.tdiv (IntKind.wrap .i64 (8 * v13)) 26)).toNat 0) (2 ^ (Min.min (Int.tmod (IntKind.wrap .i64 (8 * v13)) 26).toNat (IntKind.bits .i64)))) 255) + (IntKind.wrap .i64 (UInt8.toNat (v0.getD (IntKind.wrap .i64 (16 + v13)).toNat 0) : Int)))))) (2 ^ (Min.min (8 : Int).toNat (IntKind.bits .i64)))) (IntKind.wrap .i64 (v13 + 1)))
 none)
 none)
 none)))
 none)
 none)
 (some (List.map (fun (n : Int) => UInt8.ofNat n.toNat) v11, ()))) := by kernel_rfl
theorem q_s_l03Tag_3 (v0 v1 : List UInt8) (v5 v6 : List Int) (v7 : Int) (v9 : List Int) (v10 : Int) : @Eq _ (lp_s_l03Tag_3 R L v0 v1 v5 v6 v7 v9 v10 ([1, 1, 1, 0, 1, 0, 0, 1, 0, 0, 1, 1, 1, 0, 1, 0] ++ [0])) (cond (decide (v10 < 5))
 (cond (nonneg v10)
 (cond (Nat.blt v10.toNat 5)
 (cond (nonneg v10)
 (cond (Nat.blt v10.toNat 5)
 (cond (nonneg v10)
 (cond (Nat.blt v10.toNat 5)
 (lp_s_l03Tag_3 R L v0 v1 v5 (v6.set v10.toNat (IntKind.wrap .i64 ((v6.getD v10.toNat 0) + (v9.getD v10.toNat 0)))) v7 v9 (IntKind.wrap .i64 (v10 + 1)))
 none)
 none)
 none)
 none)
 none)
 none)
 ((c_s_l03Times R v6 v5).bind fun r0 =>
 lp_s_l03Tag_0 R L v0 v1 v5 r0.1 (IntKind.wrap .i64 (v7 + 16)))) := by kernel_rfl
theorem q_s_l04Tag (x0 x1 x2 x3 : List UInt8) : @Eq _ (c_s_l04Tag (bodyK EE R L) x0 x1 x2 x3) ((c_s_l02Block R x0 x1 0).bind fun r0 =>
 cond (Nat.ble (32 : Int).toNat r0.1.length)
 ((c_s_l04Pad R x2).bind fun r1 =>
 (c_s_l04Pad R x3).bind fun r2 =>
 cond (lenOK (r1.1.length + r2.1.length))
 ((c_s_l04Eight R (x2.length : Int)).bind fun r3 =>
 cond (lenOK ((r1.1 ++ r2.1).length + r3.1.length))
 ((c_s_l04Eight R (x3.length : Int)).bind fun r4 =>
 cond (lenOK (((r1.1 ++ r2.1) ++ r3.1).length + r4.1.length))
 ((c_s_l03Tag R (List.drop 0 (List.take (32 : Int).toNat r0.1)) (((r1.1 ++ r2.1) ++ r3.1) ++ r4.1)).bind fun r5 =>
 some (r5.1, ()))
 none)
 none)
 none)
 none) := by kernel_rfl
theorem q_s_l04Seal (x0 x1 x2 x3 : List UInt8) : @Eq _ (c_s_l04Seal (bodyK EE R L) x0 x1 x2 x3) ((c_s_l02Xor R x0 x1 1 x3).bind fun r0 =>
 (c_s_l04Tag R x0 x1 x2 r0.1).bind fun r1 =>
 cond (lenOK (r0.1.length + r1.1.length))
 (some (r0.1 ++ r1.1, ()))
 none) := by kernel_rfl
theorem q_s_l06Seal (x0 : List UInt8) (x1 x2 x3 : Int) (x4 : List UInt8) : @Eq _ (c_s_l06Seal (bodyK EE R L) x0 x1 x2 x3 x4) ((c_s_l06Nonce R x1 x2 x3).bind fun r0 =>
 (c_s_l04Seal R x0 r0.1 [98, 108, 111, 99, 107] x4).bind fun r1 =>
 some (r1.1, ())) := by kernel_rfl
theorem q_s_l05Write (x0 : d61) (x1 : Int) (x2 : List UInt8) : @Eq _ (c_s_l05Write (bodyK EE R L) x0 x1 x2) (cond (lenOK (([] : List d60).length + x0.2.1.length))
 (cond (lenOK ((([] : List d60) ++ x0.2.1).length + ([(x1, (x2, ()))]).length))
 (some ((x0.1, (([] ++ x0.2.1) ++ [(x1, (x2, ()))], x0.2.2)), ()))
 none)
 none) := by kernel_rfl
theorem q_s_l13Entry (x0 : d62) (x1 : List d54) (x2 : List Int) : @Eq _ (c_s_l13Entry (bodyK EE R L) x0 x1 x2) ((c_s_l06Ints R [x0.2.1.2.2.2.1]).bind fun r0 =>
 (c_s_l13Number R (IntKind.wrap .i64 (x0.2.1.2.2.1 + 1)) x0.2.1.2.2.2.1).bind fun r1 =>
 (c_s_l12Entry R x1 x2).bind fun r2 =>
 (c_s_l06Seal R x0.1 3 (IntKind.wrap .i64 (32 + (Int.tmod (IntKind.wrap .i64 (x0.2.1.2.2.1 + 1)) 8))) r1.1 r2.1).bind fun r3 =>
 cond (lenOK (r0.1.length + r3.1.length))
 ((c_s_l05Write R x0.2.2.1 (IntKind.wrap .i64 (32 + (Int.tmod (IntKind.wrap .i64 (x0.2.1.2.2.1 + 1)) 8))) (r0.1 ++ r3.1)).bind fun r4 =>
 some ((x0.1, (x0.2.1, (r4.1, x0.2.2.2))), (r0.1 ++ r3.1, ())))
 none) := by kernel_rfl
theorem q_s_l05Sync (x0 : d61) : @Eq _ (c_s_l05Sync (bodyK EE R L) x0) (cond (lenOK (([] : List (List UInt8)).length + x0.1.length))
 (lp_s_l05Sync_0 R L x0 ([], ([], ())) ([] ++ x0.1, ([], ())) 0)
 none) := by kernel_rfl
theorem q_s_l05Sync_0 (v1 v2 v3 : d61) (v4 : Int) : @Eq _ (lp_s_l05Sync_0 R L v1 v2 v3 v4 ([1, 1, 0, 1, 0] ++ [0])) (cond (decide (v4 < (v1.2.1.length : Int)))
 (cond (nonneg v4)
 (cond (Nat.blt v4.toNat v1.2.1.length)
 (cond (nonneg v4)
 (cond (Nat.blt v4.toNat v1.2.1.length)
 (cond (nonneg (v1.2.1.getD v4.toNat (0, ([], ()))).1)
 (cond (Nat.blt (v1.2.1.getD v4.toNat (0, ([], ()))).1.toNat v3.1.length)
 (lp_s_l05Sync_0 R L v1 v2 (v3.1.set (v1.2.1.getD v4.toNat (0, ([], ()))).1.toNat (v1.2.1.getD v4.toNat (0, ([], ()))).2.1, v3.2) (IntKind.wrap .i64 (v4 + 1)))
 none)
 none)
 none)
 none)
 none)
 none)
 (some (v3, ()))) := by kernel_rfl
theorem q_s_l07Chain (x0 x1 : List UInt8) : @Eq _ (c_s_l07Chain (bodyK EE R L) x0 x1) (cond (lenOK (([(2 : UInt8)]).length + x0.length))
 (cond (lenOK (([(2 : UInt8)] ++ x0).length + x1.length))
 ((c_s_l01Of R (([2] ++ x0) ++ x1)).bind fun r0 =>
 some (r0.1, ()))
 none)
 none) := by kernel_rfl
theorem q_s_l13Submit (x0 : d62) (x1 : List d54) (x2 : List Int) : @Eq _ (c_s_l13Submit (bodyK EE R L) x0 x1 x2) ((c_s_l13Ask R x0).bind fun r0 =>
 cond (!(eqI r0.1 0))
 (some (x0, (r0.1, ())))
 ((c_s_l13Room R x0).bind fun r1 =>
 cond (!(eqI r1.1 0))
 (some (x0, (r1.1, ())))
 ((c_s_l13Entry R x0 x1 x2).bind fun r2 =>
 (c_s_l05Sync R r2.1.2.2.1).bind fun r3 =>
 (c_s_l07Chain R x0.2.1.2.2.2.2.2.1 r2.2.1).bind fun r4 =>
 some ((r2.1.1, ((r2.1.2.1.1, (r2.1.2.1.2.1, (IntKind.wrap .i64 (r2.1.2.1.2.2.1 + 1), (r2.1.2.1.2.2.2.1, (r2.1.2.1.2.2.2.2.1, (r4.1, r2.1.2.1.2.2.2.2.2.2)))))), (r3.1, r2.1.2.2.2))), (0, ()))))) := by kernel_rfl
theorem q_s_l05Own (x0 : d61) : @Eq _ (c_s_l05Own (bodyK EE R L) x0) (cond (lenOK (([] : List (List UInt8)).length + x0.1.length))
 (cond (lenOK (([] : List d60).length + x0.2.1.length))
 (some (([] ++ x0.1, ([] ++ x0.2.1, ())), ()))
 none)
 none) := by kernel_rfl
theorem q_s_l13Own (x0 : d62) : @Eq _ (c_s_l13Own (bodyK EE R L) x0) ((c_s_l05Own R x0.2.2.1).bind fun r0 =>
 some ((x0.1, (x0.2.1, (r0.1, x0.2.2.2))), ())) := by kernel_rfl
theorem q_i_areAll_int__1 (x0 : Int) (x1 : FnVal) : @Eq _ (c_i_areAll_int__1 (bodyK EE R L) x0 x1) ((callVB EE R x1 [⟨(.int .i64), (x0 : Int)⟩]).bind fun (r0 : Bool) =>
 some (!r0, ())) := by kernel_rfl
theorem q_slices_IndexFunc___int_int_ (x0 : List Int) (x1 : FnVal) : @Eq _ (c_slices_IndexFunc___int_int_ (bodyK EE R L) x0 x1) (lp_slices_IndexFunc___int_int__0 R L x0 x1 0 (x0.length : Int) 0) := by kernel_rfl
theorem q_slices_IndexFunc___int_int__0 (v0 : List Int) (v1 : FnVal) (v4 v7 v8 : Int) : @Eq _ (lp_slices_IndexFunc___int_int__0 R L v0 v1 v4 v7 v8 ([1, 0, 1, 0] ++ [0])) (cond (decide (v8 < v7))
 (cond (nonneg v8)
 (cond (Nat.blt v8.toNat v0.length)
 ((callVB EE R v1 [⟨(.int .i64), (v0.getD v8.toNat 0 : Int)⟩]).bind fun (r0 : Bool) =>
 cond r0
 (some (v8, ()))
 (lp_slices_IndexFunc___int_int__1 R L v0 v1 v4 v8 v7 (IntKind.wrap .i64 (v8 + 1))))
 none)
 none)
 (some (-1, ()))) := by kernel_rfl
theorem q_slices_IndexFunc___int_int__1 (v0 : List Int) (v1 : FnVal) (v4 v5 v7 v8 : Int) : @Eq _ (lp_slices_IndexFunc___int_int__1 R L v0 v1 v4 v5 v7 v8 ([1, 0, 1, 0] ++ [0])) (cond (decide (v8 < v7))
 (cond (nonneg v8)
 (cond (Nat.blt v8.toNat v0.length)
 ((callVB EE R v1 [⟨(.int .i64), (v0.getD v8.toNat 0 : Int)⟩]).bind fun (r0 : Bool) =>
 cond r0
 (some (v8, ()))
 (lp_slices_IndexFunc___int_int__1 R L v0 v1 v4 v8 v7 (IntKind.wrap .i64 (v8 + 1))))
 none)
 none)
 (some (-1, ()))) := by kernel_rfl
theorem q_slices_ContainsFunc___int_int_ (x0 : List Int) (x1 : FnVal) : @Eq _ (c_slices_ContainsFunc___int_int_ (bodyK EE R L) x0 x1) ((c_slices_IndexFunc___int_int_ R x0 x1).bind fun r0 =>
 some (decide (0 ≤ r0.1), ())) := by kernel_rfl
theorem q_i_areAll_int_ (x0 : List Int) (x1 : FnVal) : @Eq _ (c_i_areAll_int_ (bodyK EE R L) x0 x1) ((c_slices_ContainsFunc___int_int_ R x0 (FnVal.mk (268 : Nat) (FCaps.fn x1 FCaps.nil))).bind fun r0 =>
 some (!r0.1, ())) := by kernel_rfl
theorem q_i_within (x0 x1 x2 : Int) : @Eq _ (c_i_within (bodyK EE R L) x0 x1 x2) (cond (decide (x1 ≤ x0))
 (some (decide (x0 ≤ x2), ()))
 (some (false, ()))) := by kernel_rfl
theorem q_i_isLeaf (x0 : Int) : @Eq _ (c_i_isLeaf (bodyK EE R L) x0) ((c_i_within R x0 0 7).bind fun r0 =>
 some (r0.1, ())) := by kernel_rfl
theorem q_i_drawsCode (x0 : List Int) (x1 : Int) : @Eq _ (c_i_drawsCode (bodyK EE R L) x0 x1) (cond (!(eqI (x0.length : Int) x1))
 (some (13, ()))
 ((c_i_areAll_int_ R x0 (FnVal.mk (205 : Nat) FCaps.nil)).bind fun r0 =>
 cond (!r0.1)
 (some (4, ()))
 (some (0, ())))) := by kernel_rfl
theorem q_i_isDigest (x0 : List UInt8) : @Eq _ (c_i_isDigest (bodyK EE R L) x0) (some (eqI (x0.length : Int) 32, ())) := by kernel_rfl
theorem q_i_Register_waiting (x0 : d59) : @Eq _ (c_i_Register_waiting (bodyK EE R L) x0) (some (IntKind.wrap .i64 (x0.2.2.1 - x0.1), ())) := by kernel_rfl
theorem q_i_RegisterOK (x0 : d59) : @Eq _ (c_i_RegisterOK (bodyK EE R L) x0) ((c_i_within R x0.1 0 1000000).bind fun r0 =>
 cond r0.1
 ((c_i_within R x0.2.1 0 1).bind fun r1 =>
 cond r1.1
 ((c_i_within R x0.2.2.1 x0.1 (minI (IntKind.wrap .i64 (x0.1 + 4)) 1000000)).bind fun r2 =>
 cond r2.1
 ((c_i_within R x0.2.2.2.1 0 1000000).bind fun r3 =>
 cond r3.1
 ((c_i_isDigest R x0.2.2.2.2.1).bind fun r4 =>
 cond r4.1
 ((c_i_isDigest R x0.2.2.2.2.2.1).bind fun r5 =>
 cond r5.1
 ((c_i_isDigest R x0.2.2.2.2.2.2.1).bind fun r6 =>
 cond r6.1
 ((c_i_Register_waiting R x0).bind fun r7 =>
 cond (decide (0 < r7.1))
 (some (true, ()))
 (some (eqS x0.2.2.2.2.1 x0.2.2.2.2.2.1, ())))
 (some (false, ())))
 (some (false, ())))
 (some (false, ())))
 (some (false, ())))
 (some (false, ())))
 (some (false, ())))
 (some (false, ()))) := by kernel_rfl
theorem q_i_areAll_string__1 (x0 : List UInt8) (x1 : FnVal) : @Eq _ (c_i_areAll_string__1 (bodyK EE R L) x0 x1) ((callVB EE R x1 [⟨.str, (x0 : List UInt8)⟩]).bind fun (r0 : Bool) =>
 some (!r0, ())) := by kernel_rfl
theorem q_slices_IndexFunc___string_string_ (x0 : List (List UInt8)) (x1 : FnVal) : @Eq _ (c_slices_IndexFunc___string_string_ (bodyK EE R L) x0 x1) (lp_slices_IndexFunc___string_string__0 R L x0 x1 0 (x0.length : Int) 0) := by kernel_rfl
theorem q_slices_IndexFunc___string_string__0 (v0 : List (List UInt8)) (v1 : FnVal) (v4 v7 v8 : Int) : @Eq _ (lp_slices_IndexFunc___string_string__0 R L v0 v1 v4 v7 v8 ([1, 0, 1, 0] ++ [0])) (cond (decide (v8 < v7))
 (cond (nonneg v8)
 (cond (Nat.blt v8.toNat v0.length)
 ((callVB EE R v1 [⟨.str, (v0.getD v8.toNat [] : List UInt8)⟩]).bind fun (r0 : Bool) =>
 cond r0
 (some (v8, ()))
 (lp_slices_IndexFunc___string_string__1 R L v0 v1 v4 v8 v7 (IntKind.wrap .i64 (v8 + 1))))
 none)
 none)
 (some (-1, ()))) := by kernel_rfl
theorem q_slices_IndexFunc___string_string__1 (v0 : List (List UInt8)) (v1 : FnVal) (v4 v5 v7 v8 : Int) : @Eq _ (lp_slices_IndexFunc___string_string__1 R L v0 v1 v4 v5 v7 v8 ([1, 0, 1, 0] ++ [0])) (cond (decide (v8 < v7))
 (cond (nonneg v8)
 (cond (Nat.blt v8.toNat v0.length)
 ((callVB EE R v1 [⟨.str, (v0.getD v8.toNat [] : List UInt8)⟩]).bind fun (r0 : Bool) =>
 cond r0
 (some (v8, ()))
 (lp_slices_IndexFunc___string_string__1 R L v0 v1 v4 v8 v7 (IntKind.wrap .i64 (v8 + 1))))
 none)
 none)
 (some (-1, ()))) := by kernel_rfl
theorem q_slices_ContainsFunc___string_string_ (x0 : List (List UInt8)) (x1 : FnVal) : @Eq _ (c_slices_ContainsFunc___string_string_ (bodyK EE R L) x0 x1) ((c_slices_IndexFunc___string_string_ R x0 x1).bind fun r0 =>
 some (decide (0 ≤ r0.1), ())) := by kernel_rfl
theorem q_i_areAll_string_ (x0 : List (List UInt8)) (x1 : FnVal) : @Eq _ (c_i_areAll_string_ (bodyK EE R L) x0 x1) ((c_slices_ContainsFunc___string_string_ R x0 (FnVal.mk (254 : Nat) (FCaps.fn x1 FCaps.nil))).bind fun r0 =>
 some (!r0.1, ())) := by kernel_rfl
theorem q_i_isContent (x0 : List UInt8) : @Eq _ (c_i_isContent (bodyK EE R L) x0) (some (decide ((x0.length : Int) ≤ 700), ())) := by kernel_rfl
theorem q_i_areAll_i_Io__1 (x0 : d60) (x1 : FnVal) : @Eq _ (c_i_areAll_i_Io__1 (bodyK EE R L) x0 x1) ((callVB EE R x1 [⟨t24, (x0 : d60)⟩]).bind fun (r0 : Bool) =>
 some (!r0, ())) := by kernel_rfl
theorem q_slices_IndexFunc___i_Io_i_Io_ (x0 : List d60) (x1 : FnVal) : @Eq _ (c_slices_IndexFunc___i_Io_i_Io_ (bodyK EE R L) x0 x1) (lp_slices_IndexFunc___i_Io_i_Io__0 R L x0 x1 0 (x0.length : Int) 0) := by kernel_rfl
theorem q_slices_IndexFunc___i_Io_i_Io__0 (v0 : List d60) (v1 : FnVal) (v4 v7 v8 : Int) : @Eq _ (lp_slices_IndexFunc___i_Io_i_Io__0 R L v0 v1 v4 v7 v8 ([1, 0, 1, 0] ++ [0])) (cond (decide (v8 < v7))
 (cond (nonneg v8)
 (cond (Nat.blt v8.toNat v0.length)
 ((callVB EE R v1 [⟨t24, (v0.getD v8.toNat (0, ([], ())) : d60)⟩]).bind fun (r0 : Bool) =>
 cond r0
 (some (v8, ()))
 (lp_slices_IndexFunc___i_Io_i_Io__1 R L v0 v1 v4 v8 v7 (IntKind.wrap .i64 (v8 + 1))))
 none)
 none)
 (some (-1, ()))) := by kernel_rfl
theorem q_slices_IndexFunc___i_Io_i_Io__1 (v0 : List d60) (v1 : FnVal) (v4 v5 v7 v8 : Int) : @Eq _ (lp_slices_IndexFunc___i_Io_i_Io__1 R L v0 v1 v4 v5 v7 v8 ([1, 0, 1, 0] ++ [0])) (cond (decide (v8 < v7))
 (cond (nonneg v8)
 (cond (Nat.blt v8.toNat v0.length)
 ((callVB EE R v1 [⟨t24, (v0.getD v8.toNat (0, ([], ())) : d60)⟩]).bind fun (r0 : Bool) =>
 cond r0
 (some (v8, ()))
 (lp_slices_IndexFunc___i_Io_i_Io__1 R L v0 v1 v4 v8 v7 (IntKind.wrap .i64 (v8 + 1))))
 none)
 none)
 (some (-1, ()))) := by kernel_rfl
theorem q_slices_ContainsFunc___i_Io_i_Io_ (x0 : List d60) (x1 : FnVal) : @Eq _ (c_slices_ContainsFunc___i_Io_i_Io_ (bodyK EE R L) x0 x1) ((c_slices_IndexFunc___i_Io_i_Io_ R x0 x1).bind fun r0 =>
 some (decide (0 ≤ r0.1), ())) := by kernel_rfl
theorem q_i_areAll_i_Io_ (x0 : List d60) (x1 : FnVal) : @Eq _ (c_i_areAll_i_Io_ (bodyK EE R L) x0 x1) ((c_slices_ContainsFunc___i_Io_i_Io_ R x0 (FnVal.mk (331 : Nat) (FCaps.fn x1 FCaps.nil))).bind fun r0 =>
 some (!r0.1, ())) := by kernel_rfl
theorem q_i_isSector (x0 : Int) : @Eq _ (c_i_isSector (bodyK EE R L) x0) ((c_i_within R x0 0 39).bind fun r0 =>
 some (r0.1, ())) := by kernel_rfl
theorem q_i_DeviceOK_1 (x0 : d60) : @Eq _ (c_i_DeviceOK_1 (bodyK EE R L) x0) ((c_i_isSector R x0.1).bind fun r0 =>
 cond r0.1
 ((c_i_isContent R x0.2.1).bind fun r1 =>
 some (r1.1, ()))
 (some (false, ()))) := by kernel_rfl
theorem q_i_DeviceOK (x0 : d61) : @Eq _ (c_i_DeviceOK (bodyK EE R L) x0) (cond (eqI (x0.1.length : Int) 40)
 ((c_i_areAll_string_ R x0.1 (FnVal.mk (285 : Nat) FCaps.nil)).bind fun r0 =>
 cond r0.1
 (cond (decide ((x0.2.1.length : Int) ≤ 60))
 ((c_i_areAll_i_Io_ R x0.2.1 (FnVal.mk (287 : Nat) FCaps.nil)).bind fun r1 =>
 some (r1.1, ()))
 (some (false, ())))
 (some (false, ())))
 (some (false, ()))) := by kernel_rfl
theorem q_i_isSure (x0 : d61) : @Eq _ (c_i_isSure (bodyK EE R L) x0) ((c_i_DeviceOK R x0).bind fun r0 =>
 cond r0.1
 (some (eqI (x0.2.1.length : Int) 0, ()))
 (some (false, ()))) := by kernel_rfl
theorem q_i_StoreOK (x0 : d62) : @Eq _ (c_i_StoreOK (bodyK EE R L) x0) (cond (eqI (x0.1.length : Int) 32)
 ((c_i_RegisterOK R x0.2.1).bind fun r0 =>
 cond r0.1
 ((c_i_isSure R x0.2.2.1).bind fun r1 =>
 cond r1.1
 (cond x0.2.2.2.1
 (some (!x0.2.2.2.2.1, ()))
 (some (!false, ())))
 (some (false, ())))
 (some (false, ())))
 (some (false, ()))) := by kernel_rfl
theorem q_i_areAll_i_Txn__1 (x0 : d54) (x1 : FnVal) : @Eq _ (c_i_areAll_i_Txn__1 (bodyK EE R L) x0 x1) ((callVB EE R x1 [⟨t4, (x0 : d54)⟩]).bind fun (r0 : Bool) =>
 some (!r0, ())) := by kernel_rfl
theorem q_slices_IndexFunc___i_Txn_i_Txn_ (x0 : List d54) (x1 : FnVal) : @Eq _ (c_slices_IndexFunc___i_Txn_i_Txn_ (bodyK EE R L) x0 x1) (lp_slices_IndexFunc___i_Txn_i_Txn__0 R L x0 x1 0 (x0.length : Int) 0) := by kernel_rfl
theorem q_slices_IndexFunc___i_Txn_i_Txn__0 (v0 : List d54) (v1 : FnVal) (v4 v7 v8 : Int) : @Eq _ (lp_slices_IndexFunc___i_Txn_i_Txn__0 R L v0 v1 v4 v7 v8 ([1, 0, 1, 0] ++ [0])) (cond (decide (v8 < v7))
 (cond (nonneg v8)
 (cond (Nat.blt v8.toNat v0.length)
 ((callVB EE R v1 [⟨t4, (v0.getD v8.toNat ([], ()) : d54)⟩]).bind fun (r0 : Bool) =>
 cond r0
 (some (v8, ()))
 (lp_slices_IndexFunc___i_Txn_i_Txn__1 R L v0 v1 v4 v8 v7 (IntKind.wrap .i64 (v8 + 1))))
 none)
 none)
 (some (-1, ()))) := by kernel_rfl
theorem q_slices_IndexFunc___i_Txn_i_Txn__1 (v0 : List d54) (v1 : FnVal) (v4 v5 v7 v8 : Int) : @Eq _ (lp_slices_IndexFunc___i_Txn_i_Txn__1 R L v0 v1 v4 v5 v7 v8 ([1, 0, 1, 0] ++ [0])) (cond (decide (v8 < v7))
 (cond (nonneg v8)
 (cond (Nat.blt v8.toNat v0.length)
 ((callVB EE R v1 [⟨t4, (v0.getD v8.toNat ([], ()) : d54)⟩]).bind fun (r0 : Bool) =>
 cond r0
 (some (v8, ()))
 (lp_slices_IndexFunc___i_Txn_i_Txn__1 R L v0 v1 v4 v8 v7 (IntKind.wrap .i64 (v8 + 1))))
 none)
 none)
 (some (-1, ()))) := by kernel_rfl
theorem q_slices_ContainsFunc___i_Txn_i_Txn_ (x0 : List d54) (x1 : FnVal) : @Eq _ (c_slices_ContainsFunc___i_Txn_i_Txn_ (bodyK EE R L) x0 x1) ((c_slices_IndexFunc___i_Txn_i_Txn_ R x0 x1).bind fun r0 =>
 some (decide (0 ≤ r0.1), ())) := by kernel_rfl
theorem q_i_areAll_i_Txn_ (x0 : List d54) (x1 : FnVal) : @Eq _ (c_i_areAll_i_Txn_ (bodyK EE R L) x0 x1) ((c_slices_ContainsFunc___i_Txn_i_Txn_ R x0 (FnVal.mk (270 : Nat) (FCaps.fn x1 FCaps.nil))).bind fun r0 =>
 some (!r0.1, ())) := by kernel_rfl
theorem q_i_areAll_i_Op__1 (x0 : d53) (x1 : FnVal) : @Eq _ (c_i_areAll_i_Op__1 (bodyK EE R L) x0 x1) ((callVB EE R x1 [⟨t3, (x0 : d53)⟩]).bind fun (r0 : Bool) =>
 some (!r0, ())) := by kernel_rfl
theorem q_slices_IndexFunc___i_Op_i_Op_ (x0 : List d53) (x1 : FnVal) : @Eq _ (c_slices_IndexFunc___i_Op_i_Op_ (bodyK EE R L) x0 x1) (lp_slices_IndexFunc___i_Op_i_Op__0 R L x0 x1 0 (x0.length : Int) 0) := by kernel_rfl
theorem q_slices_IndexFunc___i_Op_i_Op__0 (v0 : List d53) (v1 : FnVal) (v4 v7 v8 : Int) : @Eq _ (lp_slices_IndexFunc___i_Op_i_Op__0 R L v0 v1 v4 v7 v8 ([1, 0, 1, 0] ++ [0])) (cond (decide (v8 < v7))
 (cond (nonneg v8)
 (cond (Nat.blt v8.toNat v0.length)
 ((callVB EE R v1 [⟨t3, (v0.getD v8.toNat (0, (0, (0, ()))) : d53)⟩]).bind fun (r0 : Bool) =>
 cond r0
 (some (v8, ()))
 (lp_slices_IndexFunc___i_Op_i_Op__1 R L v0 v1 v4 v8 v7 (IntKind.wrap .i64 (v8 + 1))))
 none)
 none)
 (some (-1, ()))) := by kernel_rfl
theorem q_slices_IndexFunc___i_Op_i_Op__1 (v0 : List d53) (v1 : FnVal) (v4 v5 v7 v8 : Int) : @Eq _ (lp_slices_IndexFunc___i_Op_i_Op__1 R L v0 v1 v4 v5 v7 v8 ([1, 0, 1, 0] ++ [0])) (cond (decide (v8 < v7))
 (cond (nonneg v8)
 (cond (Nat.blt v8.toNat v0.length)
 ((callVB EE R v1 [⟨t3, (v0.getD v8.toNat (0, (0, (0, ()))) : d53)⟩]).bind fun (r0 : Bool) =>
 cond r0
 (some (v8, ()))
 (lp_slices_IndexFunc___i_Op_i_Op__1 R L v0 v1 v4 v8 v7 (IntKind.wrap .i64 (v8 + 1))))
 none)
 none)
 (some (-1, ()))) := by kernel_rfl
theorem q_slices_ContainsFunc___i_Op_i_Op_ (x0 : List d53) (x1 : FnVal) : @Eq _ (c_slices_ContainsFunc___i_Op_i_Op_ (bodyK EE R L) x0 x1) ((c_slices_IndexFunc___i_Op_i_Op_ R x0 x1).bind fun r0 =>
 some (decide (0 ≤ r0.1), ())) := by kernel_rfl
theorem q_i_areAll_i_Op_ (x0 : List d53) (x1 : FnVal) : @Eq _ (c_i_areAll_i_Op_ (bodyK EE R L) x0 x1) ((c_slices_ContainsFunc___i_Op_i_Op_ R x0 (FnVal.mk (318 : Nat) (FCaps.fn x1 FCaps.nil))).bind fun r0 =>
 some (!r0.1, ())) := by kernel_rfl
theorem q_i_isKey (x0 : Int) : @Eq _ (c_i_isKey (bodyK EE R L) x0) ((c_i_within R x0 1 9999).bind fun r0 =>
 some (r0.1, ())) := by kernel_rfl
theorem q_i_isBare (x0 : Int) : @Eq _ (c_i_isBare (bodyK EE R L) x0) (cond (eqI x0 1)
 (some (true, ()))
 (some (eqI x0 3, ()))) := by kernel_rfl
theorem q_i_isValue (x0 : Int) : @Eq _ (c_i_isValue (bodyK EE R L) x0) ((c_i_within R x0 0 999999).bind fun r0 =>
 some (r0.1, ())) := by kernel_rfl
theorem q_i_OpOK (x0 : d53) : @Eq _ (c_i_OpOK (bodyK EE R L) x0) ((c_i_within R x0.1 1 6).bind fun r0 =>
 cond (!r0.1)
 (some (false, ()))
 ((c_i_isKey R x0.2.1).bind fun r1 =>
 cond (!r1.1)
 (some (false, ()))
 ((c_i_isBare R x0.1).bind fun r2 =>
 cond r2.1
 (some (eqI x0.2.2.1 0, ()))
 (cond (eqI x0.1 6)
 ((c_i_within R x0.2.2.1 1 4).bind fun r3 =>
 some (r3.1, ()))
 ((c_i_isValue R x0.2.2.1).bind fun r3 =>
 some (r3.1, ())))))) := by kernel_rfl
theorem q_i_isTxn (x0 : d54) : @Eq _ (c_i_isTxn (bodyK EE R L) x0) ((c_i_within R (x0.1.length : Int) 1 4).bind fun r0 =>
 cond r0.1
 ((c_i_areAll_i_Op_ R x0.1 (FnVal.mk (272 : Nat) FCaps.nil)).bind fun r1 =>
 some (r1.1, ()))
 (some (false, ()))) := by kernel_rfl
theorem q_i_BatchOK (x0 : List d54) : @Eq _ (c_i_BatchOK (bodyK EE R L) x0) ((c_i_within R (x0.length : Int) 1 2).bind fun r0 =>
 cond r0.1
 ((c_i_areAll_i_Txn_ R x0 (FnVal.mk (207 : Nat) FCaps.nil)).bind fun r1 =>
 some (r1.1, ()))
 (some (false, ()))) := by kernel_rfl
theorem q_i_submitCode (x0 : d62) (x1 : List d54) (x2 : List Int) : @Eq _ (c_i_submitCode (bodyK EE R L) x0 x1 x2) (cond (decide (4096 < (x1.length : Int)))
 (some (2, ()))
 (cond (decide (4096 < (x2.length : Int)))
 (some (2, ()))
 ((c_i_drawsCode R x2 40).bind fun r0 =>
 cond (!(eqI r0.1 0))
 (some (r0.1, ()))
 ((c_i_StoreOK R x0).bind fun r1 =>
 cond (!r1.1)
 (some (1, ()))
 ((c_i_BatchOK R x1).bind fun r2 =>
 cond (!r2.1)
 (some (1, ()))
 (some (0, ()))))))) := by kernel_rfl
theorem q_i_Store_upCode (x0 : d62) : @Eq _ (c_i_Store_upCode (bodyK EE R L) x0) (cond x0.2.2.2.2.1
 (some (18, ()))
 (cond (!x0.2.2.2.1)
 (some (16, ()))
 (some (0, ())))) := by kernel_rfl
theorem q_i_entrySector (x0 : Int) : @Eq _ (c_i_entrySector (bodyK EE R L) x0) (some (IntKind.wrap .i64 (32 + (Int.tmod x0 8)), ())) := by kernel_rfl
theorem q_i_logEpoch (x0 x1 : Int) : @Eq _ (c_i_logEpoch (bodyK EE R L) x0 x1) (some (IntKind.wrap .i64 (x0 + (IntKind.wrap .i64 (1048576 * x1))), ())) := by kernel_rfl
theorem q_i_nonceOf (x0 x1 x2 : Int) : @Eq _ (c_i_nonceOf (bodyK EE R L) x0 x1 x2) ((c_i_little R x0 1).bind fun r0 =>
 (c_i_little R x1 2).bind fun r1 =>
 cond (lenOK (r0.1.length + r1.1.length))
 ((c_i_little R 0 1).bind fun r2 =>
 cond (lenOK ((r0.1 ++ r1.1).length + r2.1.length))
 ((c_i_little R x2 8).bind fun r3 =>
 cond (lenOK (((r0.1 ++ r1.1) ++ r2.1).length + r3.1.length))
 (some (((r0.1 ++ r1.1) ++ r2.1) ++ r3.1, ()))
 none)
 none)
 none) := by kernel_rfl
theorem q_i_padded (x0 : List UInt8) : @Eq _ (c_i_padded (bodyK EE R L) x0) ((c_strings_Repeat R [0] (Int.tmod (IntKind.wrap .i64 (16 - (Int.tmod (x0.length : Int) 16))) 16)).bind fun r0 =>
 cond (lenOK (x0.length + r0.1.length))
 (some (x0 ++ r0.1, ()))
 none) := by kernel_rfl
theorem q_i_clamped (x0 : List UInt8) : @Eq _ (c_i_clamped (bodyK EE R L) x0) (cond (Nat.ble (16 : Int).toNat x0.length)
 (lp_i_clamped_0 R L (List.map (fun (b : UInt8) => (UInt8.toNat b : Int)) (List.drop 0 (List.take (16 : Int).toNat x0))) 3)
 none) := by kernel_rfl
theorem q_i_clamped_0 (v3 : List Int) (v4 : Int) : @Eq _ (lp_i_clamped_0 R L v3 v4 ([1, 1, 0, 1, 0] ++ [0])) (cond (decide (v4 < 16))
 (cond (nonneg v4)
 (cond (Nat.blt v4.toNat v3.length)
 (cond (nonneg v4)
 (cond (Nat.blt v4.toNat v3.length)
 (lp_i_clamped_0 R L (v3.set v4.toNat (bitI .and .u8 (v3.getD v4.toNat 0) 15)) (IntKind.wrap .i64 (v4 + 4)))
 none)
 none)
 none)
 none)
 (lp_i_clamped_1 R L v3 4)) := by kernel_rfl
theorem q_i_clamped_1 (v3 : List Int) (v5 : Int) : @Eq _ (lp_i_clamped_1 R L v3 v5 ([1, 1, 1, 0, 1, 0] ++ [0])) (cond (decide (v5 < 16))
 (cond (nonneg v5)
 (cond (Nat.blt v5.toNat v3.length)
 (cond (nonneg v5)
 (cond (Nat.blt v5.toNat v3.length)
 (lp_i_clamped_1 R L (v3.set v5.toNat (bitI .and .u8 (v3.getD v5.toNat 0) 252)) (IntKind.wrap .i64 (v5 + 4)))
 none)
 none)
 none)
 none)
 (some (List.map (fun (n : Int) => UInt8.ofNat n.toNat) v3, ()))) := by kernel_rfl
theorem q_i_limbsOf (x0 : List UInt8) : @Eq _ (c_i_limbsOf (bodyK EE R L) x0) (lp_i_limbsOf_0 R L (List.replicate 5 0) (List.replicate 5 0) (List.map (fun (b : UInt8) => (UInt8.toNat b : Int)) x0) ((List.map (fun (b : UInt8) => (UInt8.toNat b : Int)) x0).length : Int) 0) := by kernel_rfl
theorem q_i_limbsOf_0 (v2 v3 v9 : List Int) (v10 v11 : Int) : @Eq _ (lp_i_limbsOf_0 R L v2 v3 v9 v10 v11 ([1, 1, 0, 1, 0] ++ [0])) (cond (decide (v11 < v10))
 (cond (nonneg v11)
 (cond (Nat.blt v11.toNat v9.length)
 (lp_i_limbsOf_1 R L v2 v3 v11 (v9.getD v11.toNat 0) v9 v10 v11 0)
 none)
 none)
 (some (v3, ()))) := by kernel_rfl
theorem q_i_limbsOf_1 (v2 v3 : List Int) (v4 v5 : Int) (v9 : List Int) (v10 v11 v16 : Int) : @Eq _ (lp_i_limbsOf_1 R L v2 v3 v4 v5 v9 v10 v11 v16 ([1, 1, 0, 1, 0, 0, 1, 1, 0, 0, 1, 1, 0] ++ [0])) (cond (decide (v16 < 8))
 (cond (decide (v16 < 0))
 none
 (cond (eqI (bitI .and .u8 (Int.fdiv v5 (2 ^ (Min.min v16.toNat (IntKind.bits .u8)))) 1) 1)
 (cond (nonneg (IntKind.wrap .i64 (Int.tdiv (IntKind.wrap .i64 ((IntKind.wrap .i64 (8 * v4)) + v16)) 26)))
 (cond (Nat.blt (IntKind.wrap .i64 (Int.tdiv (IntKind.wrap .i64 ((IntKind.wrap .i64 (8 * v4)) + v16)) 26)).toNat 5)
 (cond (decide ((Int.tmod (IntKind.wrap .i64 ((IntKind.wrap .i64 (8 * v4)) + v16)) 26) < 0))
 none
 (cond (nonneg (IntKind.wrap .i64 (Int.tdiv (IntKind.wrap .i64 ((IntKind.wrap .i64 (8 * v4)) + v16)) 26)))
 (cond (Nat.blt (IntKind.wrap .i64 (Int.tdiv (IntKind.wrap .i64 ((IntKind.wrap .i64 (8 * v4)) + v16)) 26)).toNat 5)
 (lp_i_limbsOf_1 R L v2 (v3.set (IntKind.wrap .i64 (Int.tdiv (IntKind.wrap .i64 ((IntKind.wrap .i64 (8 * v4)) + v16)) 26)).toNat (bitI .or .u64 (v3.getD (IntKind.wrap .i64 (Int.tdiv (IntKind.wrap .i64 ((IntKind.wrap .i64 (8 * v4)) + v16)) 26)).toNat 0) (IntKind.wrap .u64 (1 * (2 ^ (Min.min (Int.tmod (IntKind.wrap .i64 ((IntKind.wrap .i64 (8 * v4)) + v16)) 26).toNat (IntKind.bits .u64))))))) v4 v5 v9 v10 v11 (IntKind.wrap .i64 (v16 + 1)))
 none)
 none))
 none)
 none)
 (lp_i_limbsOf_1 R L v2 v3 v4 v5 v9 v10 v11 (IntKind.wrap .i64 (v16 + 1)))))
 (lp_i_limbsOf_0 R L v2 v3 v9 v10 (IntKind.wrap .i64 (v11 + 1)))) := by kernel_rfl
theorem q_i_limbs_carried (x0 : List Int) : @Eq _ (c_i_limbs_carried (bodyK EE R L) x0) (lp_i_limbs_carried_0 R L x0 (List.replicate 5 0) 0) := by kernel_rfl
theorem q_i_limbs_carried_0 (v1 v2 : List Int) (v5 : Int) : @Eq _ (lp_i_limbs_carried_0 R L v1 v2 v5 ([1, 0, 1, 0] ++ [0])) (cond (decide (v5 < 3))
 (lp_i_limbs_carried_1 R L v1 v2 0 v5 0)
 (some (v1, ()))) := by kernel_rfl
theorem q_i_limbs_carried_1 (v1 v2 : List Int) (v3 v5 v7 : Int) : @Eq _ (lp_i_limbs_carried_1 R L v1 v2 v3 v5 v7 ([1, 0, 1, 0, 0, 1, 1, 0, 0, 1, 0, 1, 0] ++ [0])) (cond (decide (v7 < 5))
 (cond (nonneg v7)
 (cond (Nat.blt v7.toNat 5)
 (cond (nonneg v7)
 (cond (Nat.blt v7.toNat 5)
 (cond (nonneg v7)
 (cond (Nat.blt v7.toNat 5)
 (cond (nonneg v7)
 (cond (Nat.blt v7.toNat 5)
 (cond (nonneg v7)
 (cond (Nat.blt v7.toNat 5)
 (lp_i_limbs_carried_1 R L ((v1.set v7.toNat (IntKind.wrap .u64 ((v1.getD v7.toNat 0) + v3))).set v7.toNat (bitI .and .u64 ((v1.set v7.toNat (IntKind.wrap .u64 ((v1.getD v7.toNat 0) + v3))).getD v7.toNat 0) 67108863)) v2 (Int.fdiv ((v1.set v7.toNat (IntKind.wrap .u64 ((v1.getD v7.toNat 0) + v3))).getD v7.toNat 0) (2 ^ (Min.min (26 : Int).toNat (IntKind.bits .u64)))) v5 (IntKind.wrap .i64 (v7 + 1)))
 none)
 none)
 none)
 none)
 none)
 none)
 none)
 none)
 none)
 none)
 (lp_i_limbs_carried_0 R L (v1.set (0 : Int).toNat (IntKind.wrap .u64 ((v1.getD (0 : Int).toNat 0) + (IntKind.wrap .u64 (5 * v3))))) v2 (IntKind.wrap .i64 (v5 + 1)))) := by kernel_rfl
theorem q_i_limbs_plus (x0 x1 : List Int) : @Eq _ (c_i_limbs_plus (bodyK EE R L) x0 x1) (lp_i_limbs_plus_0 R L x0 x1 (List.replicate 5 0) 0) := by kernel_rfl
theorem q_i_limbs_plus_0 (v2 v3 v4 : List Int) (v6 : Int) : @Eq _ (lp_i_limbs_plus_0 R L v2 v3 v4 v6 ([1, 0, 1, 0] ++ [0])) (cond (decide (v6 < 5))
 (cond (nonneg v6)
 (cond (Nat.blt v6.toNat 5)
 (cond (nonneg v6)
 (cond (Nat.blt v6.toNat 5)
 (cond (nonneg v6)
 (cond (Nat.blt v6.toNat 5)
 (lp_i_limbs_plus_0 R L (v2.set v6.toNat (IntKind.wrap .u64 ((v2.getD v6.toNat 0) + (v3.getD v6.toNat 0)))) v3 v4 (IntKind.wrap .i64 (v6 + 1)))
 none)
 none)
 none)
 none)
 none)
 none)
 ((c_i_limbs_carried R v2).bind fun r0 =>
 some (r0.1, ()))) := by kernel_rfl
theorem q_i_limbs_times (x0 x1 : List Int) : @Eq _ (c_i_limbs_times (bodyK EE R L) x0 x1) (lp_i_limbs_times_0 R L x1 (List.replicate 5 0) (List.replicate 5 0) x0 0) := by kernel_rfl
theorem q_i_limbs_times_0 (v3 v4 v5 v10 : List Int) (v11 : Int) : @Eq _ (lp_i_limbs_times_0 R L v3 v4 v5 v10 v11 ([1, 1, 0, 1, 0] ++ [0])) (cond (decide (v11 < 5))
 (cond (nonneg v11)
 (cond (Nat.blt v11.toNat 5)
 (lp_i_limbs_times_1 R L v3 v4 v5 v11 (v10.getD v11.toNat 0) v10 v11 v3 0)
 none)
 none)
 ((c_i_limbs_carried R v5).bind fun r0 =>
 some (r0.1, ()))) := by kernel_rfl
theorem q_i_limbs_times_1 (v3 v4 v5 : List Int) (v6 v7 : Int) (v10 : List Int) (v11 : Int) (v15 : List Int) (v16 : Int) : @Eq _ (lp_i_limbs_times_1 R L v3 v4 v5 v6 v7 v10 v11 v15 v16 ([1, 1, 0, 1, 0, 0, 1, 1, 0, 0, 1, 1, 0] ++ [0])) (cond (decide (v16 < 5))
 (cond (nonneg v16)
 (cond (Nat.blt v16.toNat 5)
 (cond (decide ((IntKind.wrap .i64 (v6 + v16)) < 5))
 (cond (nonneg (IntKind.wrap .i64 (v6 + v16)))
 (cond (Nat.blt (IntKind.wrap .i64 (v6 + v16)).toNat 5)
 (cond (nonneg (IntKind.wrap .i64 (v6 + v16)))
 (cond (Nat.blt (IntKind.wrap .i64 (v6 + v16)).toNat 5)
 (lp_i_limbs_times_1 R L v3 v4 (v5.set (IntKind.wrap .i64 (v6 + v16)).toNat (IntKind.wrap .u64 ((v5.getD (IntKind.wrap .i64 (v6 + v16)).toNat 0) + (IntKind.wrap .u64 (v7 * (v15.getD v16.toNat 0)))))) v6 v7 v10 v11 v15 (IntKind.wrap .i64 (v16 + 1)))
 none)
 none)
 none)
 none)
 (cond (nonneg (IntKind.wrap .i64 ((IntKind.wrap .i64 (v6 + v16)) - 5)))
 (cond (Nat.blt (IntKind.wrap .i64 ((IntKind.wrap .i64 (v6 + v16)) - 5)).toNat 5)
 (cond (nonneg (IntKind.wrap .i64 ((IntKind.wrap .i64 (v6 + v16)) - 5)))
 (cond (Nat.blt (IntKind.wrap .i64 ((IntKind.wrap .i64 (v6 + v16)) - 5)).toNat 5)
 (lp_i_limbs_times_1 R L v3 v4 (v5.set (IntKind.wrap .i64 ((IntKind.wrap .i64 (v6 + v16)) - 5)).toNat (IntKind.wrap .u64 ((v5.getD (IntKind.wrap .i64 ((IntKind.wrap .i64 (v6 + v16)) - 5)).toNat 0) + (IntKind.wrap .u64 ((IntKind.wrap .u64 (5 * v7)) * (v15.getD v16.toNat 0)))))) v6 v7 v10 v11 v15 (IntKind.wrap .i64 (v16 + 1)))
 none)
 none)
 none)
 none))
 none)
 none)
 (lp_i_limbs_times_0 R L v3 v4 v5 v10 (IntKind.wrap .i64 (v11 + 1)))) := by kernel_rfl
theorem q_i_limbs_reduced (x0 : List Int) : @Eq _ (c_i_limbs_reduced (bodyK EE R L) x0) ((c_i_limbs_carried R x0).bind fun r0 =>
 lp_i_limbs_reduced_0 R L r0.1 (List.replicate 5 0) [67108859, 67108863, 67108863, 67108863, 67108863] 4) := by kernel_rfl
theorem q_i_limbs_reduced_0 (v1 v2 v3 : List Int) (v4 : Int) : @Eq _ (lp_i_limbs_reduced_0 R L v1 v2 v3 v4 ([1, 1, 1, 0, 1, 0] ++ [0])) (cond (decide (0 ≤ v4))
 (cond (nonneg v4)
 (cond (Nat.blt v4.toNat 5)
 (cond (nonneg v4)
 (cond (Nat.blt v4.toNat 5)
 (cond (!(eqI (v1.getD v4.toNat 0) (v3.getD v4.toNat 0)))
 (cond (nonneg v4)
 (cond (Nat.blt v4.toNat 5)
 (cond (nonneg v4)
 (cond (Nat.blt v4.toNat 5)
 (cond (decide ((v1.getD v4.toNat 0) < (v3.getD v4.toNat 0)))
 (some (v1, ()))
 (lp_i_limbs_reduced_1 R L v1 v2 v3 0))
 none)
 none)
 none)
 none)
 (lp_i_limbs_reduced_0 R L v1 v2 v3 (IntKind.wrap .i64 (v4 - 1))))
 none)
 none)
 none)
 none)
 (lp_i_limbs_reduced_1 R L v1 v2 v3 0)) := by kernel_rfl
theorem q_i_limbs_reduced_1 (v1 v2 v3 : List Int) (v28 : Int) : @Eq _ (lp_i_limbs_reduced_1 R L v1 v2 v3 v28 ([1, 1, 1, 1, 0, 1, 0] ++ [0])) (cond (decide (v28 < 5))
 (cond (nonneg v28)
 (cond (Nat.blt v28.toNat 5)
 (cond (nonneg v28)
 (cond (Nat.blt v28.toNat 5)
 (cond (nonneg v28)
 (cond (Nat.blt v28.toNat 5)
 (lp_i_limbs_reduced_1 R L (v1.set v28.toNat (IntKind.wrap .u64 ((v1.getD v28.toNat 0) - (v3.getD v28.toNat 0)))) v2 v3 (IntKind.wrap .i64 (v28 + 1)))
 none)
 none)
 none)
 none)
 none)
 none)
 (some (v1, ()))) := by kernel_rfl
theorem q_i_limbs_bytes (x0 : List Int) (x1 : List UInt8) : @Eq _ (c_i_limbs_bytes (bodyK EE R L) x0 x1) (lp_i_limbs_bytes_0 R L x1 x0 (List.replicate (16 : Int).toNat 0) 0 ((List.replicate (16 : Int).toNat (0 : Int)).length : Int) 0) := by kernel_rfl
theorem q_i_limbs_bytes_0 (v1 : List UInt8) (v2 v5 : List Int) (v6 v13 v14 : Int) : @Eq _ (lp_i_limbs_bytes_0 R L v1 v2 v5 v6 v13 v14 ([1, 1, 1, 0, 1, 0] ++ [0])) (cond (decide (v14 < v13))
 (lp_i_limbs_bytes_1 R L v1 v2 v5 v6 v14 0 v13 v14 0)
 (some (List.map (fun (n : Int) => UInt8.ofNat n.toNat) v5, ()))) := by kernel_rfl
theorem q_i_limbs_bytes_1 (v1 : List UInt8) (v2 v5 : List Int) (v6 v7 v8 v13 v14 v17 : Int) : @Eq _ (lp_i_limbs_bytes_1 R L v1 v2 v5 v6 v7 v8 v13 v14 v17 ([1, 1, 1, 0, 1, 0, 0, 1, 1, 0, 0, 1, 1, 0, 1, 0] ++ [0])) (cond (decide (v17 < 8))
 (cond (nonneg (IntKind.wrap .i64 (Int.tdiv (IntKind.wrap .i64 ((IntKind.wrap .i64 (8 * v7)) + v17)) 26)))
 (cond (Nat.blt (IntKind.wrap .i64 (Int.tdiv (IntKind.wrap .i64 ((IntKind.wrap .i64 (8 * v7)) + v17)) 26)).toNat 5)
 (cond (decide ((Int.tmod (IntKind.wrap .i64 ((IntKind.wrap .i64 (8 * v7)) + v17)) 26) < 0))
 none
 (cond (decide (v17 < 0))
 none
 (lp_i_limbs_bytes_1 R L v1 v2 v5 v6 v7 (bitI .or .i64 v8 (IntKind.wrap .i64 ((IntKind.wrap .i64 (bitI .and .u64 (Int.fdiv (v2.getD (IntKind.wrap .i64 (Int.tdiv (IntKind.wrap .i64 ((IntKind.wrap .i64 (8 * v7)) + v17)) 26)).toNat 0) (2 ^ (Min.min (Int.tmod (IntKind.wrap .i64 ((IntKind.wrap .i64 (8 * v7)) + v17)) 26).toNat (IntKind.bits .u64)))) 1)) * (2 ^ (Min.min v17.toNat (IntKind.bits .i64)))))) v13 v14 (IntKind.wrap .i64 (v17 + 1)))))
 none)
 none)
 (cond (nonneg v7)
 (cond (Nat.blt v7.toNat v1.length)
 (cond (nonneg v7)
 (cond (Nat.blt v7.toNat v5.length)
 (lp_i_limbs_bytes_0 R L v1 v2 (v5.set v7.toNat (IntKind.wrap .u8 (IntKind.wrap .i64 (v6 + (IntKind.wrap .i64 (v8 + (IntKind.wrap .i64 (UInt8.toNat (v1.getD v7.toNat 0) : Int)))))))) (Int.fdiv (IntKind.wrap .i64 (v6 + (IntKind.wrap .i64 (v8 + (IntKind.wrap .i64 (UInt8.toNat (v1.getD v7.toNat 0) : Int)))))) (2 ^ (Min.min (8 : Int).toNat (IntKind.bits .i64)))) v13 (IntKind.wrap .i64 (v14 + 1)))
 none)
 none)
 none)
 none)) := by kernel_rfl
theorem q_i_tag (x0 x1 : List UInt8) : @Eq _ (c_i_tag (bodyK EE R L) x0 x1) ((c_i_clamped R x0).bind fun r0 =>
 (c_i_limbsOf R r0.1).bind fun r1 =>
 lp_i_tag_0 R L x0 x1 (List.replicate 5 0) r1.1 0) := by kernel_rfl
theorem q_i_tag_0 (v0 v1 : List UInt8) (v5 v6 : List Int) (v7 : Int) : @Eq _ (lp_i_tag_0 R L v0 v1 v5 v6 v7 ([1, 1, 1, 0, 1, 0] ++ [0])) (cond (decide (v7 < (v1.length : Int)))
 (cond (nonneg (minI (IntKind.wrap .i64 (v7 + 16)) (v1.length : Int)))
 (cond (nonneg v7)
 (cond (Nat.ble (minI (IntKind.wrap .i64 (v7 + 16)) (v1.length : Int)).toNat v1.length)
 (cond (Nat.ble v7.toNat (minI (IntKind.wrap .i64 (v7 + 16)) (v1.length : Int)).toNat)
 (cond (lenOK ((List.drop v7.toNat (List.take (minI (IntKind.wrap .i64 (v7 + 16)) (v1.length : Int)).toNat v1)).length + ([(1 : UInt8)]).length))
 ((c_i_limbsOf R ((List.drop v7.toNat (List.take (minI (IntKind.wrap .i64 (v7 + 16)) (v1.length : Int)).toNat v1)) ++ [1])).bind fun r0 =>
 (c_i_limbs_plus R v5 r0.1).bind fun r1 =>
 (c_i_limbs_times R r1.1 v6).bind fun r2 =>
 lp_i_tag_0 R L v0 v1 r2.1 v6 (IntKind.wrap .i64 (v7 + 16)))
 none)
 none)
 none)
 none)
 none)
 ((c_i_limbs_reduced R v5).bind fun r0 =>
 cond (Nat.ble v0.length v0.length)
 (cond (Nat.ble (16 : Int).toNat v0.length)
 ((c_i_limbs_bytes R r0.1 (List.drop (16 : Int).toNat (List.take v0.length v0))).bind fun r1 =>
 some (r1.1, ()))
 none)
 none)) := by kernel_rfl
theorem q_i_boxTag (x0 x1 x2 x3 : List UInt8) : @Eq _ (c_i_boxTag (bodyK EE R L) x0 x1 x2 x3) ((c_i_stream R x0 x1 0).bind fun r0 =>
 cond (Nat.ble (32 : Int).toNat r0.1.length)
 ((c_i_padded R x2).bind fun r1 =>
 (c_i_padded R x3).bind fun r2 =>
 cond (lenOK (r1.1.length + r2.1.length))
 ((c_i_little R (x2.length : Int) 8).bind fun r3 =>
 cond (lenOK ((r1.1 ++ r2.1).length + r3.1.length))
 ((c_i_little R (x3.length : Int) 8).bind fun r4 =>
 cond (lenOK (((r1.1 ++ r2.1) ++ r3.1).length + r4.1.length))
 ((c_i_tag R (List.drop 0 (List.take (32 : Int).toNat r0.1)) (((r1.1 ++ r2.1) ++ r3.1) ++ r4.1)).bind fun r5 =>
 some (r5.1, ()))
 none)
 none)
 none)
 none) := by kernel_rfl
theorem q_i_seal (x0 x1 x2 x3 : List UInt8) : @Eq _ (c_i_seal (bodyK EE R L) x0 x1 x2 x3) ((c_i_chaXor R x0 x1 1 x3).bind fun r0 =>
 (c_i_boxTag R x0 x1 x2 r0.1).bind fun r1 =>
 cond (lenOK (r0.1.length + r1.1.length))
 (some (r0.1 ++ r1.1, ()))
 none) := by kernel_rfl
theorem q_i_sealed (x0 : List UInt8) (x1 x2 x3 : Int) (x4 : List UInt8) : @Eq _ (c_i_sealed (bodyK EE R L) x0 x1 x2 x3 x4) ((c_i_nonceOf R x1 x2 x3).bind fun r0 =>
 (c_i_seal R x0 r0.1 [98, 108, 111, 99, 107] x4).bind fun r1 =>
 some (r1.1, ())) := by kernel_rfl
theorem q_i_chain (x0 x1 : List UInt8) : @Eq _ (c_i_chain (bodyK EE R L) x0 x1) (cond (lenOK (([(2 : UInt8)]).length + x0.length))
 (cond (lenOK (([(2 : UInt8)] ++ x0).length + x1.length))
 ((c_i_digest R (([2] ++ x0) ++ x1)).bind fun r0 =>
 some (r0.1, ()))
 none)
 none) := by kernel_rfl
theorem q_slices_Clone___string_string_ (x0 : List (List UInt8)) : @Eq _ (c_slices_Clone___string_string_ (bodyK EE R L) x0) (cond (Nat.beq x0.length 0)
 (agree
 (some ([], ()))
 (cond (lenOK (([] : List (List UInt8)).length + x0.length))
 (some ([] ++ x0, ()))
 none))
 (cond (lenOK (([] : List (List UInt8)).length + x0.length))
 (some ([] ++ x0, ()))
 none)) := by kernel_rfl
theorem q_slices_Clone___i_Io_i_Io_ (x0 : List d60) : @Eq _ (c_slices_Clone___i_Io_i_Io_ (bodyK EE R L) x0) (cond (Nat.beq x0.length 0)
 (agree
 (some ([], ()))
 (cond (lenOK (([] : List d60).length + x0.length))
 (some ([] ++ x0, ()))
 none))
 (cond (lenOK (([] : List d60).length + x0.length))
 (some ([] ++ x0, ()))
 none)) := by kernel_rfl
theorem q_i_Device_own (x0 : d61) : @Eq _ (c_i_Device_own (bodyK EE R L) x0) ((c_slices_Clone___string_string_ R x0.1).bind fun r0 =>
 (c_slices_Clone___i_Io_i_Io_ R x0.2.1).bind fun r1 =>
 some ((r0.1, (r1.1, ())), ())) := by kernel_rfl
theorem q_i_Device_write (x0 : d61) (x1 : Int) (x2 : List UInt8) : @Eq _ (c_i_Device_write (bodyK EE R L) x0 x1 x2) ((c_i_Device_own R x0).bind fun r0 =>
 cond (lenOK (r0.1.2.1.length + ([(x1, (x2, ()))]).length))
 (some ((r0.1.1, (r0.1.2.1 ++ [(x1, (x2, ()))], r0.1.2.2)), ()))
 none) := by kernel_rfl
theorem q_i_Store_submission (x0 : d62) (x1 : List d54) (x2 : List Int) : @Eq _ (c_i_Store_submission (bodyK EE R L) x0 x1 x2) ((c_i_Store_upCode R x0).bind fun r0 =>
 cond (!(eqI r0.1 0))
 (some (([], ([], ())), ((0, (0, (0, (0, ([], ([], ([], ()))))))), (r0.1, ()))))
 ((c_i_Register_waiting R x0.2.1).bind fun r1 =>
 cond (eqI r1.1 4)
 (some (([], ([], ())), ((0, (0, (0, (0, ([], ([], ([], ()))))))), (7, ()))))
 (cond (eqI x0.2.1.2.2.1 1000000)
 (some (([], ([], ())), ((0, (0, (0, (0, ([], ([], ([], ()))))))), (7, ()))))
 ((c_i_entrySector R (IntKind.wrap .i64 (x0.2.1.2.2.1 + 1))).bind fun r2 =>
 (c_i_little R x0.2.1.2.2.2.1 4).bind fun r3 =>
 (c_i_logEpoch R (IntKind.wrap .i64 (x0.2.1.2.2.1 + 1)) x0.2.1.2.2.2.1).bind fun r4 =>
 (c_i_entryText R x1 x2).bind fun r5 =>
 (c_i_sealed R x0.1 3 r2.1 r4.1 r5.1).bind fun r6 =>
 cond (lenOK (r3.1.length + r6.1.length))
 ((c_i_chain R x0.2.1.2.2.2.2.2.1 (r3.1 ++ r6.1)).bind fun r7 =>
 (c_i_Device_write R x0.2.2.1 r2.1 (r3.1 ++ r6.1)).bind fun r8 =>
 some (r8.1, ((x0.2.1.1, (x0.2.1.2.1, (IntKind.wrap .i64 (x0.2.1.2.2.1 + 1), (x0.2.1.2.2.2.1, (x0.2.1.2.2.2.2.1, (r7.1, x0.2.1.2.2.2.2.2.2)))))), (0, ()))))
 none)))) := by kernel_rfl
theorem q_i_Store_own (x0 : d62) : @Eq _ (c_i_Store_own (bodyK EE R L) x0) ((c_i_Device_own R x0.2.2.1).bind fun r0 =>
 some ((x0.1, (x0.2.1, (r0.1, x0.2.2.2))), ())) := by kernel_rfl
theorem q_i_Device_crash (x0 : d61) (x1 : List Int) : @Eq _ (c_i_Device_crash (bodyK EE R L) x0 x1) ((c_slices_Clone___string_string_ R x0.1).bind fun r0 =>
 lp_i_Device_crash_0 R L x1 ([], ([], ())) (r0.1, ([], ())) x0.2.1 (x0.2.1.length : Int) 0) := by kernel_rfl
theorem q_i_Device_crash_0 (v1 : List Int) (v4 v5 : d61) (v16 : List d60) (v17 v18 : Int) : @Eq _ (lp_i_Device_crash_0 R L v1 v4 v5 v16 v17 v18 ([1, 1, 0, 1, 0] ++ [0])) (cond (decide (v18 < v17))
 (cond (nonneg v18)
 (cond (Nat.blt v18.toNat v16.length)
 (cond (decide (0 < (v1.length : Int)))
 (cond (eqI (v1.length : Int) 0)
 none
 (cond (nonneg (Int.tmod v18 (v1.length : Int)))
 (cond (Nat.blt (Int.tmod v18 (v1.length : Int)).toNat v1.length)
 (cond (eqI (v1.getD (Int.tmod v18 (v1.length : Int)).toNat 0) 1)
 (cond (nonneg (v16.getD v18.toNat (0, ([], ()))).1)
 (cond (Nat.blt (v16.getD v18.toNat (0, ([], ()))).1.toNat v5.1.length)
 (lp_i_Device_crash_0 R L v1 v4 (v5.1.set (v16.getD v18.toNat (0, ([], ()))).1.toNat (v16.getD v18.toNat (0, ([], ()))).2.1, v5.2) v16 v17 (IntKind.wrap .i64 (v18 + 1)))
 none)
 none)
 (cond (eqI (v1.getD (Int.tmod v18 (v1.length : Int)).toNat 0) 2)
 (cond (nonneg (v16.getD v18.toNat (0, ([], ()))).1)
 (cond (Nat.blt (v16.getD v18.toNat (0, ([], ()))).1.toNat v5.1.length)
 (cond (nonneg (IntKind.wrap .i64 (Int.tdiv ((v16.getD v18.toNat (0, ([], ()))).2.1.length : Int) 2)))
 (cond (Nat.ble (IntKind.wrap .i64 (Int.tdiv ((v16.getD v18.toNat (0, ([], ()))).2.1.length : Int) 2)).toNat (v16.getD v18.toNat (0, ([], ()))).2.1.length)
 (cond (nonneg (minI (IntKind.wrap .i64 (Int.tdiv ((v16.getD v18.toNat (0, ([], ()))).2.1.length : Int) 2)) ((v5.1.getD (v16.getD v18.toNat (0, ([], ()))).1.toNat []).length : Int)))
 (cond (Nat.ble (v5.1.getD (v16.getD v18.toNat (0, ([], ()))).1.toNat []).length (v5.1.getD (v16.getD v18.toNat (0, ([], ()))).1.toNat []).length)
 (cond (Nat.ble (minI (IntKind.wrap .i64 (Int.tdiv ((v16.getD v18.toNat (0, ([], ()))).2.1.length : Int) 2)) ((v5.1.getD (v16.getD v18.toNat (0, ([], ()))).1.toNat []).length : Int)).toNat (v5.1.getD (v16.getD v18.toNat (0, ([], ()))).1.toNat []).length)
 (cond (lenOK ((List.drop 0 (List.take (IntKind.wrap .i64 (Int.tdiv ((v16.getD v18.toNat (0, ([], ()))).2.1.length : Int) 2)).toNat (v16.getD v18.toNat (0, ([], ()))).2.1)).length + (List.drop (minI (IntKind.wrap .i64 (Int.tdiv ((v16.getD v18.toNat (0, ([], ()))).2.1.length : Int) 2)) ((v5.1.getD (v16.getD v18.toNat (0, ([], ()))).1.toNat []).length : Int)).toNat (List.take (v5.1.getD (v16.getD v18.toNat (0, ([], ()))).1.toNat []).length (v5.1.getD (v16.getD v18.toNat (0, ([], ()))).1.toNat []))).length))
 (cond (nonneg (v16.getD v18.toNat (0, ([], ()))).1)
 (cond (Nat.blt (v16.getD v18.toNat (0, ([], ()))).1.toNat v5.1.length)
 (lp_i_Device_crash_0 R L v1 v4 (v5.1.set (v16.getD v18.toNat (0, ([], ()))).1.toNat ((List.drop 0 (List.take (IntKind.wrap .i64 (Int.tdiv ((v16.getD v18.toNat (0, ([], ()))).2.1.length : Int) 2)).toNat (v16.getD v18.toNat (0, ([], ()))).2.1)) ++ (List.drop (minI (IntKind.wrap .i64 (Int.tdiv ((v16.getD v18.toNat (0, ([], ()))).2.1.length : Int) 2)) ((v5.1.getD (v16.getD v18.toNat (0, ([], ()))).1.toNat []).length : Int)).toNat (List.take (v5.1.getD (v16.getD v18.toNat (0, ([], ()))).1.toNat []).length (v5.1.getD (v16.getD v18.toNat (0, ([], ()))).1.toNat [])))), v5.2) v16 v17 (IntKind.wrap .i64 (v18 + 1)))
 none)
 none)
 none)
 none)
 none)
 none)
 none)
 none)
 none)
 none)
 (lp_i_Device_crash_0 R L v1 v4 v5 v16 v17 (IntKind.wrap .i64 (v18 + 1)))))
 none)
 none))
 (lp_i_Device_crash_0 R L v1 v4 v5 v16 v17 (IntKind.wrap .i64 (v18 + 1))))
 none)
 none)
 (some (v5, ()))) := by kernel_rfl
theorem q_i_Device_sync (x0 : d61) : @Eq _ (c_i_Device_sync (bodyK EE R L) x0) ((c_i_Device_crash R x0 [1]).bind fun r0 =>
 some (r0.1, ())) := by kernel_rfl
theorem q_l_eqRegister (x0 x1 : d59) : @Eq _ (c_l_eqRegister (bodyK EE R L) x0 x1) (cond (!(eqI x0.1 x1.1))
 (some (false, ()))
 (cond (!(eqI x0.2.1 x1.2.1))
 (some (false, ()))
 (cond (!(eqI x0.2.2.1 x1.2.2.1))
 (some (false, ()))
 (cond (!(eqI x0.2.2.2.1 x1.2.2.2.1))
 (some (false, ()))
 (cond (!(eqS x0.2.2.2.2.1 x1.2.2.2.2.1))
 (some (false, ()))
 (cond (!(eqS x0.2.2.2.2.2.1 x1.2.2.2.2.2.1))
 (some (false, ()))
 (cond (!(eqS x0.2.2.2.2.2.2.1 x1.2.2.2.2.2.2.1))
 (some (false, ()))
 (some (true, ()))))))))) := by kernel_rfl
theorem q_l_eqStringS (x0 x1 : List (List UInt8)) : @Eq _ (c_l_eqStringS (bodyK EE R L) x0 x1) (cond (!(eqI (x0.length : Int) (x1.length : Int)))
 (some (false, ()))
 (lp_l_eqStringS_0 R L x0 x1 false 0)) := by kernel_rfl
theorem q_l_eqStringS_0 (v0 v1 : List (List UInt8)) (v4 : Bool) (v5 : Int) : @Eq _ (lp_l_eqStringS_0 R L v0 v1 v4 v5 ([1, 1, 0, 1, 0] ++ [0])) (cond (decide (v5 < (v0.length : Int)))
 (cond (nonneg v5)
 (cond (Nat.blt v5.toNat v0.length)
 (cond (nonneg v5)
 (cond (Nat.blt v5.toNat v1.length)
 (cond (!(eqS (v0.getD v5.toNat []) (v1.getD v5.toNat [])))
 (some (false, ()))
 (lp_l_eqStringS_0 R L v0 v1 v4 (IntKind.wrap .i64 (v5 + 1))))
 none)
 none)
 none)
 none)
 (some (true, ()))) := by kernel_rfl
theorem q_l_eqIo (x0 x1 : d60) : @Eq _ (c_l_eqIo (bodyK EE R L) x0 x1) (cond (!(eqI x0.1 x1.1))
 (some (false, ()))
 (cond (!(eqS x0.2.1 x1.2.1))
 (some (false, ()))
 (some (true, ())))) := by kernel_rfl
theorem q_l_eqIoS (x0 x1 : List d60) : @Eq _ (c_l_eqIoS (bodyK EE R L) x0 x1) (cond (!(eqI (x0.length : Int) (x1.length : Int)))
 (some (false, ()))
 (lp_l_eqIoS_0 R L x0 x1 false 0)) := by kernel_rfl
theorem q_l_eqIoS_0 (v0 v1 : List d60) (v4 : Bool) (v5 : Int) : @Eq _ (lp_l_eqIoS_0 R L v0 v1 v4 v5 ([1, 1, 0, 1, 0] ++ [0])) (cond (decide (v5 < (v0.length : Int)))
 (cond (nonneg v5)
 (cond (Nat.blt v5.toNat v0.length)
 (cond (nonneg v5)
 (cond (Nat.blt v5.toNat v1.length)
 ((c_l_eqIo R (v0.getD v5.toNat (0, ([], ()))) (v1.getD v5.toNat (0, ([], ())))).bind fun r0 =>
 cond (!r0.1)
 (some (false, ()))
 (lp_l_eqIoS_0 R L v0 v1 v4 (IntKind.wrap .i64 (v5 + 1))))
 none)
 none)
 none)
 none)
 (some (true, ()))) := by kernel_rfl
theorem q_l_eqDevice (x0 x1 : d61) : @Eq _ (c_l_eqDevice (bodyK EE R L) x0 x1) ((c_l_eqStringS R x0.1 x1.1).bind fun r0 =>
 cond (!r0.1)
 (some (false, ()))
 ((c_l_eqIoS R x0.2.1 x1.2.1).bind fun r1 =>
 cond (!r1.1)
 (some (false, ()))
 (some (true, ())))) := by kernel_rfl
theorem q_l_eqStore (x0 x1 : d62) : @Eq _ (c_l_eqStore (bodyK EE R L) x0 x1) (cond (!(eqS x0.1 x1.1))
 (some (false, ()))
 ((c_l_eqRegister R x0.2.1 x1.2.1).bind fun r0 =>
 cond (!r0.1)
 (some (false, ()))
 ((c_l_eqDevice R x0.2.2.1 x1.2.2.1).bind fun r1 =>
 cond (!r1.1)
 (some (false, ()))
 (cond (!(eqB x0.2.2.2.1 x1.2.2.2.1))
 (some (false, ()))
 (cond (!(eqB x0.2.2.2.2.1 x1.2.2.2.2.1))
 (some (false, ()))
 (some (true, ()))))))) := by kernel_rfl
theorem q_l_eqOp (x0 x1 : d53) : @Eq _ (c_l_eqOp (bodyK EE R L) x0 x1) (cond (!(eqI x0.1 x1.1))
 (some (false, ()))
 (cond (!(eqI x0.2.1 x1.2.1))
 (some (false, ()))
 (cond (!(eqI x0.2.2.1 x1.2.2.1))
 (some (false, ()))
 (some (true, ()))))) := by kernel_rfl
theorem q_l_eqOpS (x0 x1 : List d53) : @Eq _ (c_l_eqOpS (bodyK EE R L) x0 x1) (cond (!(eqI (x0.length : Int) (x1.length : Int)))
 (some (false, ()))
 (lp_l_eqOpS_0 R L x0 x1 false 0)) := by kernel_rfl
theorem q_l_eqOpS_0 (v0 v1 : List d53) (v4 : Bool) (v5 : Int) : @Eq _ (lp_l_eqOpS_0 R L v0 v1 v4 v5 ([1, 1, 0, 1, 0] ++ [0])) (cond (decide (v5 < (v0.length : Int)))
 (cond (nonneg v5)
 (cond (Nat.blt v5.toNat v0.length)
 (cond (nonneg v5)
 (cond (Nat.blt v5.toNat v1.length)
 ((c_l_eqOp R (v0.getD v5.toNat (0, (0, (0, ())))) (v1.getD v5.toNat (0, (0, (0, ()))))).bind fun r0 =>
 cond (!r0.1)
 (some (false, ()))
 (lp_l_eqOpS_0 R L v0 v1 v4 (IntKind.wrap .i64 (v5 + 1))))
 none)
 none)
 none)
 none)
 (some (true, ()))) := by kernel_rfl
theorem q_l_eqTxn (x0 x1 : d54) : @Eq _ (c_l_eqTxn (bodyK EE R L) x0 x1) ((c_l_eqOpS R x0.1 x1.1).bind fun r0 =>
 cond (!r0.1)
 (some (false, ()))
 (some (true, ()))) := by kernel_rfl
theorem q_l_eqTxnS (x0 x1 : List d54) : @Eq _ (c_l_eqTxnS (bodyK EE R L) x0 x1) (cond (!(eqI (x0.length : Int) (x1.length : Int)))
 (some (false, ()))
 (lp_l_eqTxnS_0 R L x0 x1 false 0)) := by kernel_rfl
theorem q_l_eqTxnS_0 (v0 v1 : List d54) (v4 : Bool) (v5 : Int) : @Eq _ (lp_l_eqTxnS_0 R L v0 v1 v4 v5 ([1, 1, 0, 1, 0] ++ [0])) (cond (decide (v5 < (v0.length : Int)))
 (cond (nonneg v5)
 (cond (Nat.blt v5.toNat v0.length)
 (cond (nonneg v5)
 (cond (Nat.blt v5.toNat v1.length)
 ((c_l_eqTxn R (v0.getD v5.toNat ([], ())) (v1.getD v5.toNat ([], ()))).bind fun r0 =>
 cond (!r0.1)
 (some (false, ()))
 (lp_l_eqTxnS_0 R L v0 v1 v4 (IntKind.wrap .i64 (v5 + 1))))
 none)
 none)
 none)
 none)
 (some (true, ()))) := by kernel_rfl
theorem q_l_eqIntS (x0 x1 : List Int) : @Eq _ (c_l_eqIntS (bodyK EE R L) x0 x1) (cond (!(eqI (x0.length : Int) (x1.length : Int)))
 (some (false, ()))
 (lp_l_eqIntS_0 R L x0 x1 false 0)) := by kernel_rfl
theorem q_l_eqIntS_0 (v0 v1 : List Int) (v4 : Bool) (v5 : Int) : @Eq _ (lp_l_eqIntS_0 R L v0 v1 v4 v5 ([1, 1, 0, 1, 0] ++ [0])) (cond (decide (v5 < (v0.length : Int)))
 (cond (nonneg v5)
 (cond (Nat.blt v5.toNat v0.length)
 (cond (nonneg v5)
 (cond (Nat.blt v5.toNat v1.length)
 (cond (!(eqI (v0.getD v5.toNat 0) (v1.getD v5.toNat 0)))
 (some (false, ()))
 (lp_l_eqIntS_0 R L v0 v1 v4 (IntKind.wrap .i64 (v5 + 1))))
 none)
 none)
 none)
 none)
 (some (true, ()))) := by kernel_rfl
theorem q_l_markText (x0 : Int) : @Eq _ (c_l_markText (bodyK EE R L) x0) (cond (decide (x0 ≤ 0))
 (some ([109, 48], ()))
 (lp_l_markText_0 R L x0 [] [])) := by kernel_rfl
theorem q_l_markText_0 (v0 : Int) (v2 v3 : List UInt8) : @Eq _ (lp_l_markText_0 R L v0 v2 v3 ([1, 1, 1, 0, 0] ++ [0])) (cond (decide (0 < v0))
 (cond (lenOK ((List.map (fun (n : Int) => UInt8.ofNat n.toNat) [IntKind.wrap .u8 (IntKind.wrap .i64 (48 + (Int.tmod v0 10)))]).length + v3.length))
 (lp_l_markText_0 R L (IntKind.wrap .i64 (Int.tdiv v0 10)) v2 ((List.map (fun (n : Int) => UInt8.ofNat n.toNat) [IntKind.wrap .u8 (IntKind.wrap .i64 (48 + (Int.tmod v0 10)))]) ++ v3))
 none)
 (cond (lenOK (([(109 : UInt8)]).length + v3.length))
 (some ([109] ++ v3, ()))
 none)) := by kernel_rfl
theorem q_l_markStringS (x0 : List (List UInt8)) (x1 : Int) : @Eq _ (c_l_markStringS (bodyK EE R L) x0 x1) (lp_l_markStringS_0 R L x0 x1 0 0) := by kernel_rfl
theorem q_l_markStringS_0 (v0 : List (List UInt8)) (v1 v4 v5 : Int) : @Eq _ (lp_l_markStringS_0 R L v0 v1 v4 v5 ([1, 0, 1, 0] ++ [0])) (cond (decide (v5 < (v0.length : Int)))
 ((c_l_markText R v1).bind fun r0 =>
 cond (nonneg v5)
 (cond (Nat.blt v5.toNat v0.length)
 (lp_l_markStringS_0 R L (v0.set v5.toNat r0.1) (IntKind.wrap .i64 (v1 + 1)) v4 (IntKind.wrap .i64 (v5 + 1)))
 none)
 none)
 (some (v1, (v0, ())))) := by kernel_rfl
theorem q_l_markIoS (x0 : List d60) (x1 : Int) : @Eq _ (c_l_markIoS (bodyK EE R L) x0 x1) (lp_l_markIoS_0 R L x0 x1 0 0) := by kernel_rfl
theorem q_l_markIoS_0 (v0 : List d60) (v1 v4 v5 : Int) : @Eq _ (lp_l_markIoS_0 R L v0 v1 v4 v5 ([1, 0, 1, 0] ++ [0])) (cond (decide (v5 < (v0.length : Int)))
 (cond (nonneg v5)
 (cond (Nat.blt v5.toNat v0.length)
 ((c_l_markText R (IntKind.wrap .i64 (v1 + 1))).bind fun r0 =>
 cond (nonneg v5)
 (cond (Nat.blt v5.toNat (v0.set v5.toNat (v1, (v0.getD v5.toNat (0, ([], ()))).2)).length)
 (lp_l_markIoS_0 R L ((v0.set v5.toNat (v1, (v0.getD v5.toNat (0, ([], ()))).2)).set v5.toNat (((v0.set v5.toNat (v1, (v0.getD v5.toNat (0, ([], ()))).2)).getD v5.toNat (0, ([], ()))).1, (r0.1, ((v0.set v5.toNat (v1, (v0.getD v5.toNat (0, ([], ()))).2)).getD v5.toNat (0, ([], ()))).2.2))) (IntKind.wrap .i64 ((IntKind.wrap .i64 (v1 + 1)) + 1)) v4 (IntKind.wrap .i64 (v5 + 1)))
 none)
 none)
 none)
 none)
 (some (v1, (v0, ())))) := by kernel_rfl
theorem q_l_markDevice (x0 : d61) (x1 : Int) : @Eq _ (c_l_markDevice (bodyK EE R L) x0 x1) ((c_l_markStringS R x0.1 x1).bind fun r0 =>
 (c_l_markIoS R x0.2.1 r0.1).bind fun r1 =>
 some (r1.1, ((r0.2.1, (r1.2.1, x0.2.2)), ()))) := by kernel_rfl
theorem q_l_markStore (x0 : d62) (x1 : Int) : @Eq _ (c_l_markStore (bodyK EE R L) x0 x1) ((c_l_markDevice R x0.2.2.1 x1).bind fun r0 =>
 some (r0.1, ((x0.1, (x0.2.1, (r0.2.1, x0.2.2.2))), ()))) := by kernel_rfl
theorem q_l_markOpS (x0 : List d53) (x1 : Int) : @Eq _ (c_l_markOpS (bodyK EE R L) x0 x1) (lp_l_markOpS_0 R L x0 x1 0 0) := by kernel_rfl
theorem q_l_markOpS_0 (v0 : List d53) (v1 v4 v5 : Int) : @Eq _ (lp_l_markOpS_0 R L v0 v1 v4 v5 ([1, 0, 1, 0] ++ [0])) (cond (decide (v5 < (v0.length : Int)))
 (cond (nonneg v5)
 (cond (Nat.blt v5.toNat v0.length)
 (cond (nonneg v5)
 (cond (Nat.blt v5.toNat (v0.set v5.toNat (v1, (v0.getD v5.toNat (0, (0, (0, ())))).2)).length)
 (cond (nonneg v5)
 (cond (Nat.blt v5.toNat ((v0.set v5.toNat (v1, (v0.getD v5.toNat (0, (0, (0, ())))).2)).set v5.toNat (((v0.set v5.toNat (v1, (v0.getD v5.toNat (0, (0, (0, ())))).2)).getD v5.toNat (0, (0, (0, ())))).1, (IntKind.wrap .i64 (v1 + 1), ((v0.set v5.toNat (v1, (v0.getD v5.toNat (0, (0, (0, ())))).2)).getD v5.toNat (0, (0, (0, ())))).2.2))).length)
 (lp_l_markOpS_0 R L (((v0.set v5.toNat (v1, (v0.getD v5.toNat (0, (0, (0, ())))).2)).set v5.toNat (((v0.set v5.toNat (v1, (v0.getD v5.toNat (0, (0, (0, ())))).2)).getD v5.toNat (0, (0, (0, ())))).1, (IntKind.wrap .i64 (v1 + 1), ((v0.set v5.toNat (v1, (v0.getD v5.toNat (0, (0, (0, ())))).2)).getD v5.toNat (0, (0, (0, ())))).2.2))).set v5.toNat ((((v0.set v5.toNat (v1, (v0.getD v5.toNat (0, (0, (0, ())))).2)).set v5.toNat (((v0.set v5.toNat (v1, (v0.getD v5.toNat (0, (0, (0, ())))).2)).getD v5.toNat (0, (0, (0, ())))).1, (IntKind.wrap .i64 (v1 + 1), ((v0.set v5.toNat (v1, (v0.getD v5.toNat (0, (0, (0, ())))).2)).getD v5.toNat (0, (0, (0, ())))).2.2))).getD v5.toNat (0, (0, (0, ())))).1, ((((v0.set v5.toNat (v1, (v0.getD v5.toNat (0, (0, (0, ())))).2)).set v5.toNat (((v0.set v5.toNat (v1, (v0.getD v5.toNat (0, (0, (0, ())))).2)).getD v5.toNat (0, (0, (0, ())))).1, (IntKind.wrap .i64 (v1 + 1), ((v0.set v5.toNat (v1, (v0.getD v5.toNat (0, (0, (0, ())))).2)).getD v5.toNat (0, (0, (0, ())))).2.2))).getD v5.toNat (0, (0, (0, ())))).2.1, (IntKind.wrap .i64 ((IntKind.wrap .i64 (v1 + 1)) + 1), (((v0.set v5.toNat (v1, (v0.getD v5.toNat (0, (0, (0, ())))).2)).set v5.toNat (((v0.set v5.toNat (v1, (v0.getD v5.toNat (0, (0, (0, ())))).2)).getD v5.toNat (0, (0, (0, ())))).1, (IntKind.wrap .i64 (v1 + 1), ((v0.set v5.toNat (v1, (v0.getD v5.toNat (0, (0, (0, ())))).2)).getD v5.toNat (0, (0, (0, ())))).2.2))).getD v5.toNat (0, (0, (0, ())))).2.2.2)))) (IntKind.wrap .i64 ((IntKind.wrap .i64 ((IntKind.wrap .i64 (v1 + 1)) + 1)) + 1)) v4 (IntKind.wrap .i64 (v5 + 1)))
 none)
 none)
 none)
 none)
 none)
 none)
 (some (v1, (v0, ())))) := by kernel_rfl
theorem q_l_markTxnS (x0 : List d54) (x1 : Int) : @Eq _ (c_l_markTxnS (bodyK EE R L) x0 x1) (lp_l_markTxnS_0 R L x0 x1 0 0) := by kernel_rfl
theorem q_l_markTxnS_0 (v0 : List d54) (v1 v4 v5 : Int) : @Eq _ (lp_l_markTxnS_0 R L v0 v1 v4 v5 ([1, 0, 1, 0] ++ [0])) (cond (decide (v5 < (v0.length : Int)))
 (cond (nonneg v5)
 (cond (Nat.blt v5.toNat v0.length)
 ((c_l_markOpS R (v0.getD v5.toNat ([], ())).1 v1).bind fun r0 =>
 lp_l_markTxnS_0 R L (v0.set v5.toNat (r0.2.1, (v0.getD v5.toNat ([], ())).2)) r0.1 v4 (IntKind.wrap .i64 (v5 + 1)))
 none)
 none)
 (some (v1, (v0, ())))) := by kernel_rfl
theorem q_l_markIntS (x0 : List Int) (x1 : Int) : @Eq _ (c_l_markIntS (bodyK EE R L) x0 x1) (lp_l_markIntS_0 R L x0 x1 0 0) := by kernel_rfl
theorem q_l_markIntS_0 (v0 : List Int) (v1 v4 v5 : Int) : @Eq _ (lp_l_markIntS_0 R L v0 v1 v4 v5 ([1, 0, 1, 0] ++ [0])) (cond (decide (v5 < (v0.length : Int)))
 (cond (nonneg v5)
 (cond (Nat.blt v5.toNat v0.length)
 (lp_l_markIntS_0 R L (v0.set v5.toNat v1) (IntKind.wrap .i64 (v1 + 1)) v4 (IntKind.wrap .i64 (v5 + 1)))
 none)
 none)
 (some (v1, (v0, ())))) := by kernel_rfl
theorem q_l_heldStringS (x0 : List (List UInt8)) (x1 : Int) : @Eq _ (c_l_heldStringS (bodyK EE R L) x0 x1) (lp_l_heldStringS_0 R L x0 x1 0 0) := by kernel_rfl
theorem q_l_heldStringS_0 (v0 : List (List UInt8)) (v1 v4 v5 : Int) : @Eq _ (lp_l_heldStringS_0 R L v0 v1 v4 v5 ([1, 0, 1, 0] ++ [0])) (cond (decide (v5 < (v0.length : Int)))
 (cond (nonneg v5)
 (cond (Nat.blt v5.toNat v0.length)
 ((c_l_markText R v1).bind fun r0 =>
 cond (!(eqS (v0.getD v5.toNat []) r0.1))
 (some (-1, ()))
 (lp_l_heldStringS_0 R L v0 (IntKind.wrap .i64 (v1 + 1)) v4 (IntKind.wrap .i64 (v5 + 1))))
 none)
 none)
 (some (v1, ()))) := by kernel_rfl
theorem q_l_heldIoS (x0 : List d60) (x1 : Int) : @Eq _ (c_l_heldIoS (bodyK EE R L) x0 x1) (lp_l_heldIoS_0 R L x0 x1 0 0) := by kernel_rfl
theorem q_l_heldIoS_0 (v0 : List d60) (v1 v4 v5 : Int) : @Eq _ (lp_l_heldIoS_0 R L v0 v1 v4 v5 ([1, 0, 1, 0] ++ [0])) (cond (decide (v5 < (v0.length : Int)))
 (cond (nonneg v5)
 (cond (Nat.blt v5.toNat v0.length)
 (cond (!(eqI (v0.getD v5.toNat (0, ([], ()))).1 v1))
 (some (-1, ()))
 (cond (nonneg v5)
 (cond (Nat.blt v5.toNat v0.length)
 ((c_l_markText R (IntKind.wrap .i64 (v1 + 1))).bind fun r0 =>
 cond (!(eqS (v0.getD v5.toNat (0, ([], ()))).2.1 r0.1))
 (some (-1, ()))
 (lp_l_heldIoS_0 R L v0 (IntKind.wrap .i64 ((IntKind.wrap .i64 (v1 + 1)) + 1)) v4 (IntKind.wrap .i64 (v5 + 1))))
 none)
 none))
 none)
 none)
 (some (v1, ()))) := by kernel_rfl
theorem q_l_heldDevice (x0 : d61) (x1 : Int) : @Eq _ (c_l_heldDevice (bodyK EE R L) x0 x1) ((c_l_heldStringS R x0.1 x1).bind fun r0 =>
 cond (decide (r0.1 < 0))
 (some (-1, ()))
 ((c_l_heldIoS R x0.2.1 r0.1).bind fun r1 =>
 cond (decide (r1.1 < 0))
 (some (-1, ()))
 (some (r1.1, ())))) := by kernel_rfl
theorem q_l_heldStore (x0 : d62) (x1 : Int) : @Eq _ (c_l_heldStore (bodyK EE R L) x0 x1) ((c_l_heldDevice R x0.2.2.1 x1).bind fun r0 =>
 cond (decide (r0.1 < 0))
 (some (-1, ()))
 (some (r0.1, ()))) := by kernel_rfl
theorem q_s_l05Fates (x0 : List Int) : @Eq _ (c_s_l05Fates (bodyK EE R L) x0) (lp_s_l05Fates_0 R L x0 0) := by kernel_rfl
theorem q_s_l05Fates_0 (v0 : List Int) (v3 : Int) : @Eq _ (lp_s_l05Fates_0 R L v0 v3 ([1, 0, 1, 0] ++ [0])) (cond (decide (v3 < (v0.length : Int)))
 (cond (nonneg v3)
 (cond (Nat.blt v3.toNat v0.length)
 ((c_s_l01In R (v0.getD v3.toNat 0) 0 2).bind fun r0 =>
 cond (!r0.1)
 (some (false, ()))
 (lp_s_l05Fates_0 R L v0 (IntKind.wrap .i64 (v3 + 1))))
 none)
 none)
 (some (true, ()))) := by kernel_rfl
theorem q_s_l13Torn (x0 : d62) (x1 : Int) (x2 : List Int) : @Eq _ (c_s_l13Torn (bodyK EE R L) x0 x1 x2) (cond (decide (4096 < (x2.length : Int)))
 (some (2, ()))
 ((c_s_StoreOK R x0).bind fun r0 =>
 cond (!r0.1)
 (some (1, ()))
 ((c_s_l01In R x1 0 2).bind fun r1 =>
 cond (!r1.1)
 (some (4, ()))
 ((c_s_l05Fates R x2).bind fun r2 =>
 cond (!r2.1)
 (some (4, ()))
 (some (0, ())))))) := by kernel_rfl
theorem q_s_l05Crash (x0 : d61) (x1 : List Int) : @Eq _ (c_s_l05Crash (bodyK EE R L) x0 x1) (cond (lenOK (([] : List (List UInt8)).length + x0.1.length))
 (lp_s_l05Crash_0 R L x1 x0 ([], ([], ())) ([] ++ x0.1, ([], ())) 0)
 none) := by kernel_rfl
theorem q_s_l05Crash_0 (v1 : List Int) (v2 v4 v5 : d61) (v6 : Int) : @Eq _ (lp_s_l05Crash_0 R L v1 v2 v4 v5 v6 ([1, 1, 0, 1, 0] ++ [0])) (cond (decide (v6 < (v2.2.1.length : Int)))
 (cond (decide (0 < (v1.length : Int)))
 (cond (eqI (v1.length : Int) 0)
 none
 (cond (nonneg (Int.tmod v6 (v1.length : Int)))
 (cond (Nat.blt (Int.tmod v6 (v1.length : Int)).toNat v1.length)
 (cond (nonneg v6)
 (cond (Nat.blt v6.toNat v2.2.1.length)
 (cond (nonneg (v2.2.1.getD v6.toNat (0, ([], ()))).1)
 (cond (Nat.blt (v2.2.1.getD v6.toNat (0, ([], ()))).1.toNat v5.1.length)
 (cond (eqI (v1.getD (Int.tmod v6 (v1.length : Int)).toNat 0) 1)
 (cond (nonneg (v2.2.1.getD v6.toNat (0, ([], ()))).1)
 (cond (Nat.blt (v2.2.1.getD v6.toNat (0, ([], ()))).1.toNat v5.1.length)
 (lp_s_l05Crash_0 R L v1 v2 v4 (v5.1.set (v2.2.1.getD v6.toNat (0, ([], ()))).1.toNat (v2.2.1.getD v6.toNat (0, ([], ()))).2.1, v5.2) (IntKind.wrap .i64 (v6 + 1)))
 none)
 none)
 (cond (eqI (v1.getD (Int.tmod v6 (v1.length : Int)).toNat 0) 2)
 (cond (nonneg (IntKind.wrap .i64 (Int.tdiv ((v2.2.1.getD v6.toNat (0, ([], ()))).2.1.length : Int) 2)))
 (cond (Nat.ble (IntKind.wrap .i64 (Int.tdiv ((v2.2.1.getD v6.toNat (0, ([], ()))).2.1.length : Int) 2)).toNat (v2.2.1.getD v6.toNat (0, ([], ()))).2.1.length)
 (cond (nonneg (minI (IntKind.wrap .i64 (Int.tdiv ((v2.2.1.getD v6.toNat (0, ([], ()))).2.1.length : Int) 2)) ((v5.1.getD (v2.2.1.getD v6.toNat (0, ([], ()))).1.toNat []).length : Int)))
 (cond (Nat.ble (v5.1.getD (v2.2.1.getD v6.toNat (0, ([], ()))).1.toNat []).length (v5.1.getD (v2.2.1.getD v6.toNat (0, ([], ()))).1.toNat []).length)
 (cond (Nat.ble (minI (IntKind.wrap .i64 (Int.tdiv ((v2.2.1.getD v6.toNat (0, ([], ()))).2.1.length : Int) 2)) ((v5.1.getD (v2.2.1.getD v6.toNat (0, ([], ()))).1.toNat []).length : Int)).toNat (v5.1.getD (v2.2.1.getD v6.toNat (0, ([], ()))).1.toNat []).length)
 (cond (lenOK ((List.drop 0 (List.take (IntKind.wrap .i64 (Int.tdiv ((v2.2.1.getD v6.toNat (0, ([], ()))).2.1.length : Int) 2)).toNat (v2.2.1.getD v6.toNat (0, ([], ()))).2.1)).length + (List.drop (minI (IntKind.wrap .i64 (Int.tdiv ((v2.2.1.getD v6.toNat (0, ([], ()))).2.1.length : Int) 2)) ((v5.1.getD (v2.2.1.getD v6.toNat (0, ([], ()))).1.toNat []).length : Int)).toNat (List.take (v5.1.getD (v2.2.1.getD v6.toNat (0, ([], ()))).1.toNat []).length (v5.1.getD (v2.2.1.getD v6.toNat (0, ([], ()))).1.toNat []))).length))
 (cond (nonneg (v2.2.1.getD v6.toNat (0, ([], ()))).1)
 (cond (Nat.blt (v2.2.1.getD v6.toNat (0, ([], ()))).1.toNat v5.1.length)
 (lp_s_l05Crash_0 R L v1 v2 v4 (v5.1.set (v2.2.1.getD v6.toNat (0, ([], ()))).1.toNat ((List.drop 0 (List.take (IntKind.wrap .i64 (Int.tdiv ((v2.2.1.getD v6.toNat (0, ([], ()))).2.1.length : Int) 2)).toNat (v2.2.1.getD v6.toNat (0, ([], ()))).2.1)) ++ (List.drop (minI (IntKind.wrap .i64 (Int.tdiv ((v2.2.1.getD v6.toNat (0, ([], ()))).2.1.length : Int) 2)) ((v5.1.getD (v2.2.1.getD v6.toNat (0, ([], ()))).1.toNat []).length : Int)).toNat (List.take (v5.1.getD (v2.2.1.getD v6.toNat (0, ([], ()))).1.toNat []).length (v5.1.getD (v2.2.1.getD v6.toNat (0, ([], ()))).1.toNat [])))), v5.2) (IntKind.wrap .i64 (v6 + 1)))
 none)
 none)
 none)
 none)
 none)
 none)
 none)
 none)
 (lp_s_l05Crash_0 R L v1 v2 v4 v5 (IntKind.wrap .i64 (v6 + 1)))))
 none)
 none)
 none)
 none)
 none)
 none))
 (cond (nonneg v6)
 (cond (Nat.blt v6.toNat v2.2.1.length)
 (cond (nonneg (v2.2.1.getD v6.toNat (0, ([], ()))).1)
 (cond (Nat.blt (v2.2.1.getD v6.toNat (0, ([], ()))).1.toNat v5.1.length)
 (lp_s_l05Crash_0 R L v1 v2 v4 v5 (IntKind.wrap .i64 (v6 + 1)))
 none)
 none)
 none)
 none))
 (some (v5, ()))) := by kernel_rfl
theorem q_s_l13SubmitTorn (x0 : d62) (x1 : List d54) (x2 : List Int) (x3 : Int) (x4 : List Int) : @Eq _ (c_s_l13SubmitTorn (bodyK EE R L) x0 x1 x2 x3 x4) (cond (eqI x3 2)
 ((c_s_l13Submit R x0 x1 x2).bind fun r0 =>
 cond r0.1.2.2.2.1
 (some ((r0.1.1, (r0.1.2.1, (r0.1.2.2.1, (!(eqI r0.2.1 0), r0.1.2.2.2.2)))), (r0.2.1, ())))
 (some ((r0.1.1, (r0.1.2.1, (r0.1.2.2.1, (false, r0.1.2.2.2.2)))), (r0.2.1, ()))))
 ((c_s_l13Ask R x0).bind fun r0 =>
 cond (!(eqI r0.1 0))
 (some (x0, (r0.1, ())))
 ((c_s_l13Room R x0).bind fun r1 =>
 cond (!(eqI r1.1 0))
 (some (x0, (r1.1, ())))
 ((c_s_l13Entry R x0 x1 x2).bind fun r2 =>
 cond (eqI x3 0)
 ((c_s_l05Crash R r2.1.2.2.1 x4).bind fun r3 =>
 some ((r2.1.1, (r2.1.2.1, (r3.1, (false, r2.1.2.2.2.2)))), (0, ())))
 ((c_s_l05Sync R r2.1.2.2.1).bind fun r3 =>
 some ((r2.1.1, (r2.1.2.1, (r3.1, (false, r2.1.2.2.2.2)))), (0, ()))))))) := by kernel_rfl
theorem q_s_SubmitTorn (x0 : d62) (x1 : List d54) (x2 : List Int) (x3 : Int) (x4 : List Int) : @Eq _ (c_s_SubmitTorn (bodyK EE R L) x0 x1 x2 x3 x4) (cond (decide (4096 < (x1.length : Int)))
 (some (([], ((0, (0, (0, (0, ([], ([], ([], ()))))))), (([], ([], ())), (false, (false, ()))))), (2, ())))
 (cond (decide (4096 < (x2.length : Int)))
 (some (([], ((0, (0, (0, (0, ([], ([], ([], ()))))))), (([], ([], ())), (false, (false, ()))))), (2, ())))
 (cond (decide (4096 < (x4.length : Int)))
 (some (([], ((0, (0, (0, (0, ([], ([], ([], ()))))))), (([], ([], ())), (false, (false, ()))))), (2, ())))
 ((c_s_l13Batch R x0 x1 x2).bind fun r0 =>
 cond (!(eqI r0.1 0))
 (some (([], ((0, (0, (0, (0, ([], ([], ([], ()))))))), (([], ([], ())), (false, (false, ()))))), (r0.1, ())))
 ((c_s_l13Torn R x0 x3 x4).bind fun r1 =>
 cond (!(eqI r1.1 0))
 (some (([], ((0, (0, (0, (0, ([], ([], ([], ()))))))), (([], ([], ())), (false, (false, ()))))), (r1.1, ())))
 ((c_s_l13SubmitTorn R x0 x1 x2 x3 x4).bind fun r2 =>
 (c_s_l13Own R r2.1).bind fun r3 =>
 some (r3.1, (r2.2.1, ())))))))) := by kernel_rfl
theorem q_i_areFates_1 (x0 : Int) : @Eq _ (c_i_areFates_1 (bodyK EE R L) x0) ((c_i_within R x0 0 2).bind fun r0 =>
 some (r0.1, ())) := by kernel_rfl
theorem q_i_areFates (x0 : List Int) : @Eq _ (c_i_areFates (bodyK EE R L) x0) ((c_i_areAll_int_ R x0 (FnVal.mk (213 : Nat) FCaps.nil)).bind fun r0 =>
 some (r0.1, ())) := by kernel_rfl
theorem q_i_isTear (x0 : Int) (x1 : List Int) : @Eq _ (c_i_isTear (bodyK EE R L) x0 x1) ((c_i_within R x0 0 2).bind fun r0 =>
 cond r0.1
 ((c_i_areFates R x1).bind fun r1 =>
 some (r1.1, ()))
 (some (false, ()))) := by kernel_rfl
theorem q_i_Store_torn (x0 : d62) (x1 : d61) (x2 : d59) (x3 : Int) (x4 : List Int) : @Eq _ (c_i_Store_torn (bodyK EE R L) x0 x1 x2 x3 x4) (cond (eqI x3 0)
 ((c_i_Device_crash R x1 x4).bind fun r0 =>
 cond (eqI x3 2)
 (some ((x0.1, (x2, (r0.1, (false, x0.2.2.2.2)))), ()))
 (some ((x0.1, (x0.2.1, (r0.1, (false, x0.2.2.2.2)))), ())))
 ((c_i_Device_sync R x1).bind fun r0 =>
 cond (eqI x3 2)
 (some ((x0.1, (x2, (r0.1, (false, x0.2.2.2.2)))), ()))
 (some ((x0.1, (x0.2.1, (r0.1, (false, x0.2.2.2.2)))), ())))) := by kernel_rfl
theorem q_i_SubmitTorn (x0 : d62) (x1 : List d54) (x2 : List Int) (x3 : Int) (x4 : List Int) : @Eq _ (c_i_SubmitTorn (bodyK EE R L) x0 x1 x2 x3 x4) (cond (decide (4096 < (x4.length : Int)))
 (some (([], ((0, (0, (0, (0, ([], ([], ([], ()))))))), (([], ([], ())), (false, (false, ()))))), (2, ())))
 ((c_i_submitCode R x0 x1 x2).bind fun r0 =>
 cond (!(eqI r0.1 0))
 (some (([], ((0, (0, (0, (0, ([], ([], ([], ()))))))), (([], ([], ())), (false, (false, ()))))), (r0.1, ())))
 ((c_i_isTear R x3 x4).bind fun r1 =>
 cond (!r1.1)
 (some (([], ((0, (0, (0, (0, ([], ([], ([], ()))))))), (([], ([], ())), (false, (false, ()))))), (4, ())))
 ((c_i_Store_submission R x0 x1 x2).bind fun r2 =>
 cond (!(eqI r2.2.2.1 0))
 ((c_i_Store_own R x0).bind fun r3 =>
 some (r3.1, (r2.2.2.1, ())))
 ((c_i_Store_torn R x0 r2.1 r2.2.1 x3 x4).bind fun r3 =>
 some (r3.1, (0, ()))))))) := by kernel_rfl
theorem q_l_FnExactSubmitTorn (x0 : d62) (x1 : List d54) (x2 : List Int) (x3 : Int) (x4 : List Int) : @Eq _ (c_l_FnExactSubmitTorn (bodyK EE R L) x0 x1 x2 x3 x4) (cond (decide (1048576 < (x2.length : Int)))
 (some (true, ()))
 (cond (decide (1048576 < (x4.length : Int)))
 (some (true, ()))
 ((c_l_szStore R x0 1048576).bind fun r0 =>
 cond (decide (r0.1 < 0))
 (some (true, ()))
 ((c_l_szTxnS R x1 r0.1).bind fun r1 =>
 cond (decide (r1.1 < 0))
 (some (true, ()))
 ((c_l_toStore R x0).bind fun r2 =>
 (c_l_toTxnS R x1).bind fun r3 =>
 (c_l_toIntS R x2).bind fun r4 =>
 (c_l_toIntS R x4).bind fun r5 =>
 (c_s_SubmitTorn R r2.1 r3.1 r4.1 x3 r5.1).bind fun r6 =>
 (c_l_toStore R x0).bind fun r7 =>
 (c_l_toTxnS R x1).bind fun r8 =>
 (c_l_toIntS R x2).bind fun r9 =>
 (c_l_toIntS R x4).bind fun r10 =>
 (c_i_SubmitTorn R r7.1 r8.1 r9.1 x3 r10.1).bind fun r11 =>
 (c_l_eqStore R r11.1 r6.1).bind fun r12 =>
 cond (!r12.1)
 (some (false, ()))
 (cond (!(eqI r11.2.1 r6.2.1))
 (some (false, ()))
 ((c_l_toStore R x0).bind fun r13 =>
 (c_l_eqStore R r7.1 r13.1).bind fun r14 =>
 cond (!r14.1)
 (some (false, ()))
 ((c_l_toTxnS R x1).bind fun r15 =>
 (c_l_eqTxnS R r8.1 r15.1).bind fun r16 =>
 cond (!r16.1)
 (some (false, ()))
 ((c_l_toIntS R x2).bind fun r17 =>
 (c_l_eqIntS R r9.1 r17.1).bind fun r18 =>
 cond (!r18.1)
 (some (false, ()))
 ((c_l_toIntS R x4).bind fun r19 =>
 (c_l_eqIntS R r10.1 r19.1).bind fun r20 =>
 cond (!r20.1)
 (some (false, ()))
 ((c_l_markStore R r7.1 1).bind fun r21 =>
 (c_l_markTxnS R r8.1 r21.1).bind fun r22 =>
 (c_l_markIntS R r9.1 r22.1).bind fun r23 =>
 (c_l_markIntS R r10.1 r23.1).bind fun r24 =>
 cond (decide (r24.1 < 0))
 (some (false, ()))
 ((c_l_eqStore R r11.1 r6.1).bind fun r25 =>
 cond (!r25.1)
 (some (false, ()))
 (cond (!(eqI r11.2.1 r6.2.1))
 (some (false, ()))
 ((c_l_markStore R r11.1 1).bind fun r26 =>
 (c_l_heldStore R r26.2.1 1).bind fun r27 =>
 cond (decide (r27.1 < 0))
 (some (false, ()))
 (cond (!(eqI r27.1 r26.1))
 (some (false, ()))
 ((c_l_toStore R x0).bind fun r28 =>
 (c_l_toTxnS R x1).bind fun r29 =>
 (c_l_toIntS R x2).bind fun r30 =>
 (c_l_toIntS R x4).bind fun r31 =>
 (c_i_SubmitTorn R r28.1 r29.1 r30.1 x3 r31.1).bind fun r32 =>
 (c_l_eqStore R r32.1 r6.1).bind fun r33 =>
 cond (!r33.1)
 (some (false, ()))
 (cond (!(eqI r32.2.1 r6.2.1))
 (some (false, ()))
 ((c_l_heldStore R r26.2.1 1).bind fun r34 =>
 cond (decide (r34.1 < 0))
 (some (false, ()))
 (cond (!(eqI r34.1 r26.1))
 (some (false, ()))
 (some (true, ()))))))))))))))))))))) := by kernel_rfl
end Go.Rf.S

end
section
namespace Go.Rf.S
open Go.Proofs
set_option maxRecDepth 100000
instance laid : Laid := ⟨[]⟩
def chaH : List Dyn → Option (Ty.pair .str .unit).D
 | [k, n, c, t] => (strOf k).bind fun k => (strOf n).bind fun n => (i64Of c).bind fun c => (strOf t).bind fun t => some (chX k n (t.length / 64 + 1) c.toNat t, ())
 | _ => none
def itx (x : Int) : List UInt8 := ub (lit x.toNat 4)
def intsH : List Dyn → Option (Ty.pair .str .unit).D
 | [l] => (slOf (.int .i64) l).bind fun l => some (l.flatMap itx, ())
 | _ => none
noncomputable def X : (f : FuncId) → Option (List Dyn → Option (EE.cfg f).rt.D)
 | 311 => some repH
 | 273 => some (okH EE 273 chaH)
 | 275 => some (okH EE 275 intsH)
 | _ => none
noncomputable abbrev R : Run EE := run X
noncomputable abbrev L : Loops := lps X
theorem run_x {f : FuncId} {h : List Dyn → Option (EE.cfg f).rt.D} (hX : X f = some h) (ds : List Dyn) : run X f ds = h ds := by
 rw [run_eq]; unfold nextR; rw [hX]
theorem call {f : FuncId} {ds : List Dyn} {r : Option (EE.cfg f).rt.D} (h : bodyK EE R L f ds = r) (hX : X f = none := by rfl) : R f ds = r := (run_fn X hX ds).trans h
theorem round {f : FuncId} {fn : Func} {p : List Nat} {σ : List SV} {r : Option (EE.cfg f).rt.D} (h : (okPath (codeOf fn) p && !unkOK (EE.cfg f).keep) = true) (q : from_ EE R L f fn (p ++ [0]) σ = r) : from_ EE R L f fn p σ = r := (from_loop h).trans q
theorem X_ok : ∀ f h, X f = some h → ∀ ds x, h ds = some x → FnOK EE f ds x := by
 intro f h hX ds x hx
 unfold X at hX
 split at hX
 ·cases hX
  obtain ⟨s, n, rfl, h1, h2, rfl⟩ := repH_some hx
  exact repeat_fn (E := EE) Tryz.laysRep Tryz.extra rfl Tryz.func311 (by kernel_rfl) (by kernel_rfl) s n h1 h2
 ·cases hX; exact okH_ok hx
 ·cases hX; exact okH_ok hx
 ·cases hX
theorem mixed : EE.P.follows .mixedOrders = true := by kernel_rfl
theorem names : NamesOK EE.P := namesOK_of (by kernel_rfl)
theorem runOK : RunOK EE R := run_ok X X_ok mixed names
end Go.Rf.S

end
section
namespace Go.Rf.S
set_option maxRecDepth 100000
theorem sumC {k : IntKind} {a b : Nat} (h : a + b < kmax k) : IntKind.wrap k ((a : Int) + (b : Int)) = ((a + b : Nat) : Int) := by
 rw [show (a : Int) + (b : Int) = ((a + b : Nat) : Int) from by omega, wrapN h]
theorem sumU (a b : Nat) : IntKind.wrap .u32 ((a : Int) + (b : Int)) = (((a + b) % 4294967296 : Nat) : Int) := by
 rw [show (a : Int) + (b : Int) = ((a + b : Nat) : Int) from by omega, wrapN_u32]
theorem m32 {a : Nat} (h : a < 9223372036854775808) : bitI .and .i64 (a : Int) 4294967295 = ((a % 4294967296 : Nat) : Int) := by
 rw [show (4294967295 : Int) = ((4294967295 : Nat) : Int) from rfl, bit_and (k := .i64) h (by decide), and_m32]
theorem subC {a c : Nat} (h : c ≤ a) (ha : a < 9223372036854775808) : IntKind.wrap .i64 ((a : Int) - (c : Int)) = ((a - c : Nat) : Int) := by
 rw [wrap_id (by omega) (by omega)]; omega
theorem mulpC {k : IntKind} {a n : Nat} (h : a * 2 ^ n < kmax k) : IntKind.wrap k ((a : Int) * (2 ^ n : Int)) = ((a * 2 ^ n : Nat) : Int) := by
 rw [mulpN, wrapN h]
theorem neg31 : ∀ n : Fin 32, 0 < n.val → bitI .and .u64 (IntKind.wrap .u64 (negI .i64 (n.val : Int))) 31 = ((32 - n.val : Nat) : Int) := by decide +kernel
theorem p_rotl (x n : Nat) (hx : x < 4294967296) (h0 : 0 < n) (hn : n < 32) : c_math_bits_RotateLeft32 R (x : Int) (negI .i64 (n : Int)) = some (((rr n x : Nat) : Int), ()) := by
 have hq : c_math_bits_RotateLeft32 R (x : Int) (negI .i64 (n : Int)) = _ := call (q_math_bits_RotateLeft32 R L (x : Int) (negI .i64 (n : Int)))
 have e1 := neg31 ⟨n, hn⟩ h0
 simp only at e1
 have e2 : IntKind.wrap .u64 ((32 : Int) - ((32 - n : Nat) : Int)) = (n : Int) := by
  rw [show (32 : Int) - ((32 - n : Nat) : Int) = (n : Int) by omega, wrapN (by simp only [kmax]; omega)]
 rw [hq, e1, e2, decide_eq_false (show ¬ ((n : Int) < 0) by omega)]
 simp only [cond_false, tn]
 rw [show Min.min (32 - n) (IntKind.bits .u32) = 32 - n from Nat.min_eq_left (by simp only [IntKind.bits]; omega), show Min.min n (IntKind.bits .u32) = n from Nat.min_eq_left (by simp only [IntKind.bits]; omega), mulpN, wrapN_u32, fdivN,
  bit_or (k := .u32) (lt32_mod _) (lt32_div _ hx)]
 unfold rr rl
 rw [show 32 - (32 - n) = n by omega]
theorem p_turned (x n : Nat) (hx : x < 4294967296) (h0 : 0 < n) (hn : n < 32) : c_i_turned R (x : Int) (n : Int) = some (((rr n x : Nat) : Int), ()) := by
 have hq : c_i_turned R (x : Int) (n : Int) = _ := call (q_i_turned R L (x : Int) (n : Int))
 rw [hq, p_rotl x n hx h0 hn]
 rfl
theorem p_right (x n : Nat) (hx : x < 4294967296) (h0 : 0 < n) (hn : n < 32) : c_s_l01Right R (x : Int) (n : Int) = some (((rr n x : Nat) : Int), ()) := by
 have hq : c_s_l01Right R (x : Int) (n : Int) = _ := call (q_s_l01Right R L (x : Int) (n : Int))
 have e2 : IntKind.wrap .i64 ((32 : Int) - (n : Int)) = ((32 - n : Nat) : Int) := by
  rw [wrap_id (by omega) (by omega)]; omega
 have hb : x * 2 ^ (32 - n) < 9223372036854775808 := by
  have h1 : 2 ^ (32 - n) ≤ 2 ^ 31 := Nat.pow_le_pow_right (by decide) (by omega)
  have h2 : x * 2 ^ (32 - n) ≤ x * 2 ^ 31 := Nat.mul_le_mul_left _ h1
  omega
 rw [hq, e2, decide_eq_false (show ¬ ((n : Int) < 0) by omega), decide_eq_false (show ¬ (((32 - n : Nat) : Int) < 0) by omega)]
 simp only [cond_false, tn]
 rw [show Min.min (32 - n) (IntKind.bits .i64) = 32 - n from Nat.min_eq_left (by simp only [IntKind.bits]; omega), show Min.min n (IntKind.bits .i64) = n from Nat.min_eq_left (by simp only [IntKind.bits]; omega), mulpC (k := .i64) hb, fdivN,
  bit_or (k := .i64) (Nat.lt_trans (lt32_div _ hx) (by decide)) hb, m32 (Nat.or_lt_two_pow (n := 63) (Nat.lt_trans (lt32_div _ hx) (by decide)) hb), rr_spec (by omega) hx]
theorem R7 {x : Nat} (hx : x < 4294967296) : c_s_l01Right R (x : Int) 7 = some (((rr 7 x : Nat) : Int), ()) := p_right x 7 hx (by decide) (by decide)
theorem T7 {x : Nat} (hx : x < 4294967296) : c_i_turned R (x : Int) 7 = some (((rr 7 x : Nat) : Int), ()) := p_turned x 7 hx (by decide) (by decide)
theorem R18 {x : Nat} (hx : x < 4294967296) : c_s_l01Right R (x : Int) 18 = some (((rr 18 x : Nat) : Int), ()) := p_right x 18 hx (by decide) (by decide)
theorem T18 {x : Nat} (hx : x < 4294967296) : c_i_turned R (x : Int) 18 = some (((rr 18 x : Nat) : Int), ()) := p_turned x 18 hx (by decide) (by decide)
theorem R17 {x : Nat} (hx : x < 4294967296) : c_s_l01Right R (x : Int) 17 = some (((rr 17 x : Nat) : Int), ()) := p_right x 17 hx (by decide) (by decide)
theorem T17 {x : Nat} (hx : x < 4294967296) : c_i_turned R (x : Int) 17 = some (((rr 17 x : Nat) : Int), ()) := p_turned x 17 hx (by decide) (by decide)
theorem R19 {x : Nat} (hx : x < 4294967296) : c_s_l01Right R (x : Int) 19 = some (((rr 19 x : Nat) : Int), ()) := p_right x 19 hx (by decide) (by decide)
theorem T19 {x : Nat} (hx : x < 4294967296) : c_i_turned R (x : Int) 19 = some (((rr 19 x : Nat) : Int), ()) := p_turned x 19 hx (by decide) (by decide)
theorem R6 {x : Nat} (hx : x < 4294967296) : c_s_l01Right R (x : Int) 6 = some (((rr 6 x : Nat) : Int), ()) := p_right x 6 hx (by decide) (by decide)
theorem T6 {x : Nat} (hx : x < 4294967296) : c_i_turned R (x : Int) 6 = some (((rr 6 x : Nat) : Int), ()) := p_turned x 6 hx (by decide) (by decide)
theorem R11 {x : Nat} (hx : x < 4294967296) : c_s_l01Right R (x : Int) 11 = some (((rr 11 x : Nat) : Int), ()) := p_right x 11 hx (by decide) (by decide)
theorem T11 {x : Nat} (hx : x < 4294967296) : c_i_turned R (x : Int) 11 = some (((rr 11 x : Nat) : Int), ()) := p_turned x 11 hx (by decide) (by decide)
theorem R25 {x : Nat} (hx : x < 4294967296) : c_s_l01Right R (x : Int) 25 = some (((rr 25 x : Nat) : Int), ()) := p_right x 25 hx (by decide) (by decide)
theorem T25 {x : Nat} (hx : x < 4294967296) : c_i_turned R (x : Int) 25 = some (((rr 25 x : Nat) : Int), ()) := p_turned x 25 hx (by decide) (by decide)
theorem R2 {x : Nat} (hx : x < 4294967296) : c_s_l01Right R (x : Int) 2 = some (((rr 2 x : Nat) : Int), ()) := p_right x 2 hx (by decide) (by decide)
theorem T2 {x : Nat} (hx : x < 4294967296) : c_i_turned R (x : Int) 2 = some (((rr 2 x : Nat) : Int), ()) := p_turned x 2 hx (by decide) (by decide)
theorem R13 {x : Nat} (hx : x < 4294967296) : c_s_l01Right R (x : Int) 13 = some (((rr 13 x : Nat) : Int), ()) := p_right x 13 hx (by decide) (by decide)
theorem T13 {x : Nat} (hx : x < 4294967296) : c_i_turned R (x : Int) 13 = some (((rr 13 x : Nat) : Int), ()) := p_turned x 13 hx (by decide) (by decide)
theorem R22 {x : Nat} (hx : x < 4294967296) : c_s_l01Right R (x : Int) 22 = some (((rr 22 x : Nat) : Int), ()) := p_right x 22 hx (by decide) (by decide)
theorem T22 {x : Nat} (hx : x < 4294967296) : c_i_turned R (x : Int) 22 = some (((rr 22 x : Nat) : Int), ()) := p_turned x 22 hx (by decide) (by decide)
theorem byteC {k : IntKind} (hk : 256 ≤ kmax k) (b : UInt8) : IntKind.wrap k ((b.toNat : Nat) : Int) = ((b.toNat : Nat) : Int) := wrapN (Nat.lt_of_lt_of_le (UInt8.toNat_lt _) hk)
theorem or32 {k : IntKind} (hk : 4294967296 ≤ kmax k) {a b : Nat} (ha : a < 4294967296) (hb : b < 4294967296) : bitI .or k (a : Int) (b : Int) = ((a ||| b : Nat) : Int) := bit_or (Nat.lt_of_lt_of_le ha hk) (Nat.lt_of_lt_of_le hb hk)
theorem xor32 {k : IntKind} (hk : 4294967296 ≤ kmax k) {a b : Nat} (ha : a < 4294967296) (hb : b < 4294967296) : bitI .xor k (a : Int) (b : Int) = ((a ^^^ b : Nat) : Int) := bit_xor (Nat.lt_of_lt_of_le ha hk) (Nat.lt_of_lt_of_le hb hk)
theorem and32 {k : IntKind} (hk : 4294967296 ≤ kmax k) {a b : Nat} (ha : a < 4294967296) (hb : b < 4294967296) : bitI .and k (a : Int) (b : Int) = ((a &&& b : Nat) : Int) := bit_and (Nat.lt_of_lt_of_le ha hk) (Nat.lt_of_lt_of_le hb hk)
theorem wordBE (k : IntKind) (hk : 4294967296 ≤ kmax k) (h32 : 32 ≤ k.bits) (t : List UInt8) (i : Nat) :
  bitI .or k (bitI .or k (bitI .or k (IntKind.wrap k (IntKind.wrap k (((t.getD i 0).toNat : Nat) : Int) * ((2 : Int) ^ Min.min (Int.toNat 24) k.bits)))
   (IntKind.wrap k (IntKind.wrap k (((t.getD (i + 1) 0).toNat : Nat) : Int) * ((2 : Int) ^ Min.min (Int.toNat 16) k.bits))))
   (IntKind.wrap k (IntKind.wrap k (((t.getD (i + 2) 0).toNat : Nat) : Int) * ((2 : Int) ^ Min.min (Int.toNat 8) k.bits))))
   (IntKind.wrap k (((t.getD (i + 3) 0).toNat : Nat) : Int)) = ((wBE t i : Nat) : Int) := by
 have h0 := bt_lt t i; have h1 := bt_lt t (i + 1); have h2 := bt_lt t (i + 2); have h3 := bt_lt t (i + 3)
 have m24 : Min.min (Int.toNat 24) k.bits = 24 := Nat.min_eq_left (by show 24 ≤ _; omega)
 have m16 : Min.min (Int.toNat 16) k.bits = 16 := Nat.min_eq_left (by show 16 ≤ _; omega)
 have m8 : Min.min (Int.toNat 8) k.bits = 8 := Nat.min_eq_left (by show 8 ≤ _; omega)
 have hk8 : 256 ≤ kmax k := Nat.le_trans (by decide) hk
 unfold bt at h0 h1 h2 h3
 rw [m24, m16, m8, byteC hk8, byteC hk8, byteC hk8, byteC hk8, mulpC (by omega), mulpC (by omega), mulpC (by omega), or32 hk (by omega) (by omega), or32 hk (lt32_or (by omega) (by omega)) (by omega), or32 hk (lt32_or (lt32_or (by omega) (by omega)) (by omega)) (by omega)]
 rfl
theorem plusC {i : Nat} (c : Nat) (h : i + c < 9223372036854775808) : IntKind.wrap .i64 ((i : Int) + (c : Int)) = ((i + c : Nat) : Int) := sumC h
theorem p_Word (t : List UInt8) (i : Nat) (h : i + 3 < t.length) (hi : i < 1099511627776) : c_s_l01Word R t (i : Int) = some (((wBE t i : Nat) : Int), ()) := by
 have hq : c_s_l01Word R t (i : Int) = _ := call (q_s_l01Word R L t (i : Int))
 have e1 : IntKind.wrap .i64 ((i : Int) + 1) = ((i + 1 : Nat) : Int) := plusC 1 (by omega)
 have e2 : IntKind.wrap .i64 ((i : Int) + 2) = ((i + 2 : Nat) : Int) := plusC 2 (by omega)
 have e3 : IntKind.wrap .i64 ((i : Int) + 3) = ((i + 3 : Nat) : Int) := plusC 3 (by omega)
 rw [hq, e1, e2, e3]
 simp only [nn, tn, blt_t (show i < t.length by omega), blt_t (show i + 1 < t.length by omega), blt_t (show i + 2 < t.length by omega), blt_t h, cond_true]
 rw [wordBE .i64 (by decide) (by decide)]
end Go.Rf.S

end
section
namespace Go.Rf.S
set_option maxRecDepth 100000
theorem g0C (k : IntKind) (hk : 4294967296 ≤ kmax k) (h32 : 32 ≤ k.bits) {x : Nat} (h : x < 4294967296) :
  bitI .xor k (bitI .xor k ((rr 7 x : Nat) : Int) ((rr 18 x : Nat) : Int)) (Int.fdiv (x : Int) ((2 : Int) ^ Min.min (Int.toNat 3) k.bits)) = ((g0 x : Nat) : Int) := by
 rw [show Min.min (Int.toNat 3) k.bits = 3 from Nat.min_eq_left (by show 3 ≤ _; omega), fdivN, xor32 hk (rr_lt h) (rr_lt h), xor32 hk (lt32_xor (rr_lt h) (rr_lt h)) (lt32_div _ h)]
 rfl
theorem g1C (k : IntKind) (hk : 4294967296 ≤ kmax k) (h32 : 32 ≤ k.bits) {x : Nat} (h : x < 4294967296) :
  bitI .xor k (bitI .xor k ((rr 17 x : Nat) : Int) ((rr 19 x : Nat) : Int)) (Int.fdiv (x : Int) ((2 : Int) ^ Min.min (Int.toNat 10) k.bits)) = ((g1 x : Nat) : Int) := by
 rw [show Min.min (Int.toNat 10) k.bits = 10 from Nat.min_eq_left (by show 10 ≤ _; omega), fdivN, xor32 hk (rr_lt h) (rr_lt h), xor32 hk (lt32_xor (rr_lt h) (rr_lt h)) (lt32_div _ h)]
 rfl
theorem S1C (k : IntKind) (hk : 4294967296 ≤ kmax k) {x : Nat} (h : x < 4294967296) :
  bitI .xor k (bitI .xor k ((rr 6 x : Nat) : Int) ((rr 11 x : Nat) : Int)) ((rr 25 x : Nat) : Int) = ((S1 x : Nat) : Int) := by
 rw [xor32 hk (rr_lt h) (rr_lt h), xor32 hk (lt32_xor (rr_lt h) (rr_lt h)) (rr_lt h)]
 rfl
theorem S0C (k : IntKind) (hk : 4294967296 ≤ kmax k) {x : Nat} (h : x < 4294967296) :
  bitI .xor k (bitI .xor k ((rr 2 x : Nat) : Int) ((rr 13 x : Nat) : Int)) ((rr 22 x : Nat) : Int) = ((S0 x : Nat) : Int) := by
 rw [xor32 hk (rr_lt h) (rr_lt h), xor32 hk (lt32_xor (rr_lt h) (rr_lt h)) (rr_lt h)]
 rfl
theorem chC (k : IntKind) (hk : 4294967296 ≤ kmax k) {e f g : Nat} (he : e < 4294967296) (hf : f < 4294967296) (hg : g < 4294967296) :
  bitI .xor k (bitI .and k (e : Int) (f : Int)) (bitI .and k (bitI .xor k 4294967295 (e : Int)) (g : Int)) = ((ch e f g : Nat) : Int) := by
 rw [show (4294967295 : Int) = ((4294967295 : Nat) : Int) from rfl, and32 hk he hf, xor32 hk (by decide) he, and32 hk (lt32_xor (by decide) he) hg, xor32 hk (lt32_and he) (lt32_and (lt32_xor (by decide) he))]
 rfl
theorem mjC (k : IntKind) (hk : 4294967296 ≤ kmax k) {e f g : Nat} (he : e < 4294967296) (hf : f < 4294967296) (hg : g < 4294967296) :
  bitI .xor k (bitI .xor k (bitI .and k (e : Int) (f : Int)) (bitI .and k (e : Int) (g : Int))) (bitI .and k (f : Int) (g : Int)) = ((mj e f g : Nat) : Int) := by
 rw [and32 hk he hf, and32 hk he hg, and32 hk hf hg, xor32 hk (lt32_and he) (lt32_and he), xor32 hk (lt32_xor (lt32_and he) (lt32_and he)) (lt32_and hf)]
 rfl
def Wd (n : Nat) (w : List Nat) : Prop := w.length = n ∧ Bd 4294967296 w
theorem Wd.g {n : Nat} {w : List Nat} (h : Wd n w) (i : Nat) : w.getD i 0 < 4294967296 := h.2.get (by decide) i
theorem Wd.s {n : Nat} {w : List Nat} (h : Wd n w) {i a : Nat} (ha : a < 4294967296) : Wd n (w.set i a) := ⟨by rw [List.length_set]; exact h.1, h.2.set ha⟩
theorem Wd.rep (n : Nat) : Wd n (List.replicate n 0) := ⟨List.length_replicate, Bd.rep (by decide)⟩
theorem stA_W {t : List UInt8} {i : Nat} {w : List Nat} (h : Wd 64 w) : Wd 64 (stA t i w) := h.s (wBE_lt _ _)
theorem stB_W {i : Nat} {w : List Nat} (h : Wd 64 w) : Wd 64 (stB i w) := h.s (lt32_mod _)
theorem stC_W {k w v : List Nat} {i : Nat} (h : Wd 8 v) : Wd 8 (stC k w i v) := ⟨rfl, fun x hx => by
 simp only [stC, List.mem_cons, List.not_mem_nil, or_false] at hx
 rcases hx with rfl | rfl | rfl | rfl | rfl | rfl | rfl | rfl
 ·exact lt32_mod _
 ·exact h.g 0
 ·exact h.g 1
 ·exact h.g 2
 ·exact lt32_mod _
 ·exact h.g 4
 ·exact h.g 5
 ·exact h.g 6⟩
theorem stD_W {v : List Nat} {i : Nat} {w : List Nat} {n : Nat} (h : Wd n w) : Wd n (stD v i w) := h.s (lt32_mod _)
def kT : List Nat := [1116352408, 1899447441, 3049323471, 3921009573, 961987163, 1508970993, 2453635748, 2870763221, 3624381080, 310598401, 607225278, 1426881987, 1925078388, 2162078206, 2614888103, 3248222580, 3835390401, 4022224774, 264347078, 604807628, 770255983, 1249150122, 1555081692, 1996064986, 2554220882, 2821834349, 2952996808, 3210313671, 3336571891, 3584528711, 113926993, 338241895, 666307205, 773529912, 1294757372, 1396182291, 1695183700, 1986661051, 2177026350, 2456956037, 2730485921, 2820302411, 3259730800, 3345764771, 3516065817, 3600352804, 4094571909, 275423344, 430227734, 506948616, 659060556, 883997877, 958139571, 1322822218, 1537002063, 1747873779, 1955562222, 2024104815, 2227730452, 2361852424, 2428436474, 2756734187, 3204031479, 3329325298]
def hT : List Nat := [1779033703, 3144134277, 1013904242, 2773480762, 1359893119, 2600822924, 528734635, 1541459225]
theorem hT_W : Wd 8 hT := ⟨rfl, by intro x hx; revert x; decide⟩
theorem kT_W : Wd 64 kT := ⟨rfl, by intro x hx; revert x; decide⟩
theorem p_Table : c_s_l01Table R = some (cl kT, ()) := call (q_s_l01Table R L)
theorem p_constants : c_i_constants R = some (cl kT, ()) := call (q_i_constants R L)
theorem p_Start : c_s_l01Start R = some (cl hT, ()) := call (q_s_l01Start R L)
theorem spec_A (t : List UInt8) (ht : 64 ≤ t.length) (v2 v4 : List Int) :
  lp_s_l01Block_0 R L t v2 v4 (cl (List.replicate 64 0)) 0 = lp_s_l01Block_1 R L v2 v4 (cl (loopN (stA t) 16 0 (List.replicate 64 0))) 16 ∧ Wd 64 (loopN (stA t) 16 0 (List.replicate 64 0)) :=
 gen_for0 (fun (w : List Nat) i => lp_s_l01Block_0 R L t v2 v4 (cl w) i) (stA t) (fun _ w => Wd 64 w) 16 (fun w => lp_s_l01Block_1 R L v2 v4 (cl w) 16)
  (fun w hw => by
   have hq : lp_s_l01Block_0 R L t v2 v4 (cl w) (16 : Nat) = _ := round (by kernel_rfl) (q_s_l01Block_0 R L t v2 v4 (cl w) (16 : Nat))
   show lp_s_l01Block_0 R L t v2 v4 (cl w) (16 : Nat) = _
   rw [hq]; rfl)
  (fun w i hi hw => by
   have hq : lp_s_l01Block_0 R L t v2 v4 (cl w) (i : Nat) = _ := round (by kernel_rfl) (q_s_l01Block_0 R L t v2 v4 (cl w) (i : Nat))
   refine ⟨?_, stA_W hw⟩
   show lp_s_l01Block_0 R L t v2 v4 (cl w) (i : Nat) = _
   have e4 : IntKind.wrap .i64 ((4 : Int) * (i : Int)) = ((4 * i : Nat) : Int) := by rw [wrap_id (by omega) (by omega)]; omega
   rw [hq, show decide ((i : Int) < 16) = true from decide_eq_true (by omega), e4, p_Word t (4 * i) (by omega) (by omega), wrap_succ (by omega)]
   simp only [nn, tn, cond_true, Option.bind_some]
   rw [blt_t (show i < 64 by omega), cl_set]
   rfl)
  (List.replicate 64 0) (Wd.rep 64)
theorem spec_B (v2 v4 : List Int) (w0 : List Nat) (h0 : Wd 64 w0) :
  lp_s_l01Block_1 R L v2 v4 (cl w0) 16 = lp_s_l01Block_2 R L v2 v4 (cl (loopN stB 48 0 w0)) (cl kT) v2 0 ∧ Wd 64 (loopN stB 48 0 w0) := by
 have h : lp_s_l01Block_1 R L v2 v4 (cl w0) (0 + 16) = lp_s_l01Block_2 R L v2 v4 (cl (loopN stB 48 0 w0)) (cl kT) v2 0 ∧ Wd 64 (loopN stB 48 0 w0) := gen_for0 (fun (w : List Nat) i => lp_s_l01Block_1 R L v2 v4 (cl w) (i + 16)) stB (fun _ w => Wd 64 w) 48 (fun w => lp_s_l01Block_2 R L v2 v4 (cl w) (cl kT) v2 0)
  (fun w hw => by
   have hq : lp_s_l01Block_1 R L v2 v4 (cl w) (64 : Nat) = _ := round (by kernel_rfl) (q_s_l01Block_1 R L v2 v4 (cl w) (64 : Nat))
   show lp_s_l01Block_1 R L v2 v4 (cl w) (64 : Nat) = _
   rw [hq, show decide (((64 : Nat) : Int) < 64) = false from by decide, p_Table]; rfl)
  (fun w i hi hw => by
   have hq : lp_s_l01Block_1 R L v2 v4 (cl w) ((i + 16 : Nat) : Int) = _ := round (by kernel_rfl) (q_s_l01Block_1 R L v2 v4 (cl w) ((i + 16 : Nat) : Int))
   refine ⟨?_, stB_W hw⟩
   show lp_s_l01Block_1 R L v2 v4 (cl w) ((i : Int) + 16) = lp_s_l01Block_1 R L v2 v4 (cl (stB i w)) (((i + 1 : Nat) : Int) + 16)
   rw [show (i : Int) + 16 = ((i + 16 : Nat) : Int) by omega, show ((i + 1 : Nat) : Int) + 16 = ((i + 16 + 1 : Nat) : Int) by omega]
   have e15 : IntKind.wrap .i64 (((i + 16 : Nat) : Int) - 15) = ((i + 1 : Nat) : Int) := subC (c := 15) (by omega) (by omega)
   have e2 : IntKind.wrap .i64 (((i + 16 : Nat) : Int) - 2) = ((i + 14 : Nat) : Int) := subC (c := 2) (by omega) (by omega)
   have e16 : IntKind.wrap .i64 (((i + 16 : Nat) : Int) - 16) = ((i : Nat) : Int) := subC (c := 16) (by omega) (by omega)
   have e7 : IntKind.wrap .i64 (((i + 16 : Nat) : Int) - 7) = ((i + 9 : Nat) : Int) := subC (c := 7) (by omega) (by omega)
   have a1 := hw.g (i + 1); have a14 := hw.g (i + 14); have a0 := hw.g i; have a9 := hw.g (i + 9)
   have b1 := g0_lt a1; have b2 := g1_lt a14
   rw [hq, show decide (((i + 16 : Nat) : Int) < 64) = true from decide_eq_true (by omega), e15, e2, e16, e7, wrap_succ (by omega)]
   simp only [nn, tn, cond_true, blt_t (show i + 1 < 64 by omega), blt_t (show i + 14 < 64 by omega), blt_t (show i < 64 by omega), blt_t (show i + 9 < 64 by omega), blt_t (show i + 16 < 64 by omega), cl_getD]
   rw [R7 a1, R18 a1, R17 a14, R19 a14]
   simp only [Option.bind_some]
   rw [g0C .i64 (by decide) (by decide) a1, g1C .i64 (by decide) (by decide) a14, sumC (by simp only [kmax]; omega), sumC (by simp only [kmax]; omega), sumC (by simp only [kmax]; omega), m32 (by omega), cl_set]
   rfl)
  w0 h0
 rw [Int.zero_add] at h
 exact h
theorem spec_C (v2 v4 : List Int) (w v0 : List Nat) (hw : Wd 64 w) (h0 : Wd 8 v0) :
  lp_s_l01Block_2 R L v2 v4 (cl w) (cl kT) (cl v0) 0 = lp_s_l01Block_3 R L v2 v4 (cl (loopN (stC kT w) 64 0 v0)) 0 ∧ Wd 8 (loopN (stC kT w) 64 0 v0) :=
 gen_for0 (fun (v : List Nat) i => lp_s_l01Block_2 R L v2 v4 (cl w) (cl kT) (cl v) i) (stC kT w) (fun _ v => Wd 8 v) 64 (fun v => lp_s_l01Block_3 R L v2 v4 (cl v) 0)
  (fun v hv => by
   have hq : lp_s_l01Block_2 R L v2 v4 (cl w) (cl kT) (cl v) (64 : Nat) = _ := round (by kernel_rfl) (q_s_l01Block_2 R L v2 v4 (cl w) (cl kT) (cl v) (64 : Nat))
   show lp_s_l01Block_2 R L v2 v4 (cl w) (cl kT) (cl v) (64 : Nat) = _
   rw [hq]; rfl)
  (fun v i hi hv => by
   have hq : lp_s_l01Block_2 R L v2 v4 (cl w) (cl kT) (cl v) (i : Nat) = _ := round (by kernel_rfl) (q_s_l01Block_2 R L v2 v4 (cl w) (cl kT) (cl v) (i : Nat))
   refine ⟨?_, stC_W hv⟩
   show lp_s_l01Block_2 R L v2 v4 (cl w) (cl kT) (cl v) (i : Nat) = _
   have a0 := hv.g 0; have a1 := hv.g 1; have a2 := hv.g 2; have a3 := hv.g 3; have a4 := hv.g 4; have a5 := hv.g 5; have a6 := hv.g 6; have a7 := hv.g 7
   have ak := kT_W.g i; have aw := hw.g i
   have b1 := S1_lt a4; have b0 := S0_lt a0; have bc := ch_lt (f := v.getD 5 0) (g := v.getD 6 0) a4; have bm := mj_lt (c := v.getD 2 0) a0 a1
   rw [hq, show decide ((i : Int) < 64) = true from decide_eq_true (by omega), wrap_succ (by omega)]
   simp only [nn, tn, cond_true, blt_t (show i < 64 by omega), cl_getD, show Int.toNat 0 = 0 from rfl, show Int.toNat 1 = 1 from rfl, show Int.toNat 2 = 2 from rfl, show Int.toNat 3 = 3 from rfl, show Int.toNat 4 = 4 from rfl, show Int.toNat 5 = 5 from rfl, show Int.toNat 6 = 6 from rfl, show Int.toNat 7 = 7 from rfl]
   rw [R6 a4, R11 a4, R25 a4, R2 a0, R13 a0, R22 a0]
   simp only [Option.bind_some]
   rw [S1C .i64 (by decide) a4, S0C .i64 (by decide) a0, chC .i64 (by decide) a4 a5 a6, mjC .i64 (by decide) a0 a1 a2]
   rw [sumC (a := v.getD 7 0) (by simp only [kmax]; omega), sumC (b := ch _ _ _) (by simp only [kmax]; omega), sumC (b := kT.getD i 0) (by simp only [kmax]; omega), sumC (b := w.getD i 0) (by simp only [kmax]; omega), sumC (b := S0 _) (by simp only [kmax]; omega), sumC (b := mj _ _ _) (by simp only [kmax]; omega), sumC (a := v.getD 3 0) (by simp only [kmax]; omega), m32 (by omega), m32 (by omega)]
   rfl)
  v0 h0
theorem spec_D (v4 : List Int) (v h0 : List Nat) (hv : Wd 8 v) (hh : Wd 8 h0) :
  lp_s_l01Block_3 R L (cl h0) v4 (cl v) 0 = some (cl (loopN (stD v) 8 0 h0), ()) ∧ Wd 8 (loopN (stD v) 8 0 h0) :=
 gen_for0 (fun (h : List Nat) i => lp_s_l01Block_3 R L (cl h) v4 (cl v) i) (stD v) (fun _ h => Wd 8 h) 8 (fun h => some (cl h, ()))
  (fun h _ => by
   have hq : lp_s_l01Block_3 R L (cl h) v4 (cl v) (8 : Nat) = _ := round (by kernel_rfl) (q_s_l01Block_3 R L (cl h) v4 (cl v) (8 : Nat))
   show lp_s_l01Block_3 R L (cl h) v4 (cl v) (8 : Nat) = _
   rw [hq]; rfl)
  (fun h i hi hh => by
   have hq : lp_s_l01Block_3 R L (cl h) v4 (cl v) (i : Nat) = _ := round (by kernel_rfl) (q_s_l01Block_3 R L (cl h) v4 (cl v) (i : Nat))
   refine ⟨?_, stD_W hh⟩
   show lp_s_l01Block_3 R L (cl h) v4 (cl v) (i : Nat) = _
   have a := hh.g i; have b := hv.g i
   rw [hq, show decide ((i : Int) < 8) = true from decide_eq_true (by omega), wrap_succ (by omega)]
   simp only [nn, tn, cond_true, blt_t (show i < 8 from hi), cl_getD]
   rw [sumC (by simp only [kmax]; omega), m32 (by omega), cl_set]
   rfl)
  h0 hh
theorem p_specBlock (h : List Nat) (t : List UInt8) (hh : Wd 8 h) (ht : 64 ≤ t.length) : c_s_l01Block R (cl h) t = some (cl (shaB kT h t), ()) ∧ Wd 8 (shaB kT h t) := by
 have hq : c_s_l01Block R (cl h) t = _ := call (q_s_l01Block R L (cl h) t)
 obtain ⟨a1, a2⟩ := spec_A t ht (cl h) (List.replicate 8 0)
 obtain ⟨b1, b2⟩ := spec_B (cl h) (List.replicate 8 0) _ a2
 obtain ⟨c1, c2⟩ := spec_C (cl h) (List.replicate 8 0) _ h b2 hh
 obtain ⟨d1, d2⟩ := spec_D (List.replicate 8 0) _ h c2 hh
 exact ⟨hq.trans (a1.trans (b1.trans (c1.trans d1))), d2⟩
end Go.Rf.S

end
section
namespace Go.Rf.S
set_option maxRecDepth 100000
abbrev HS : Type := List Int × (List UInt8 × (Int × Unit))
theorem impl_A (v0 : HS) (t : List UInt8) (ht : 64 ≤ t.length) (v2 : List Int) :
  lp_pimpl_Hash_block_0 R L v0 t v2 (cl (List.replicate 64 0)) 0 = lp_pimpl_Hash_block_1 R L v0 v2 (cl (loopN (stA t) 16 0 (List.replicate 64 0))) 16 ∧ Wd 64 (loopN (stA t) 16 0 (List.replicate 64 0)) :=
 gen_for0 (fun (w : List Nat) i => lp_pimpl_Hash_block_0 R L v0 t v2 (cl w) i) (stA t) (fun _ w => Wd 64 w) 16 (fun w => lp_pimpl_Hash_block_1 R L v0 v2 (cl w) 16)
  (fun w hw => by
   have hq : lp_pimpl_Hash_block_0 R L v0 t v2 (cl w) (16 : Nat) = _ := round (by kernel_rfl) (q_pimpl_Hash_block_0 R L v0 t v2 (cl w) (16 : Nat))
   show lp_pimpl_Hash_block_0 R L v0 t v2 (cl w) (16 : Nat) = _
   rw [hq]; rfl)
  (fun w i hi hw => by
   have hq : lp_pimpl_Hash_block_0 R L v0 t v2 (cl w) (i : Nat) = _ := round (by kernel_rfl) (q_pimpl_Hash_block_0 R L v0 t v2 (cl w) (i : Nat))
   refine ⟨?_, stA_W hw⟩
   show lp_pimpl_Hash_block_0 R L v0 t v2 (cl w) (i : Nat) = _
   have e4 : IntKind.wrap .i64 ((4 : Int) * (i : Int)) = ((4 * i : Nat) : Int) := by rw [wrap_id (by omega) (by omega)]; omega
   have e1 : IntKind.wrap .i64 (((4 * i : Nat) : Int) + 1) = ((4 * i + 1 : Nat) : Int) := plusC 1 (by omega)
   have e2 : IntKind.wrap .i64 (((4 * i : Nat) : Int) + 2) = ((4 * i + 2 : Nat) : Int) := plusC 2 (by omega)
   have e3 : IntKind.wrap .i64 (((4 * i : Nat) : Int) + 3) = ((4 * i + 3 : Nat) : Int) := plusC 3 (by omega)
   rw [hq, show decide ((i : Int) < 16) = true from decide_eq_true (by omega), e4, e1, e2, e3, wrap_succ (by omega)]
   simp only [nn, tn, cond_true, blt_t (show 4 * i < t.length by omega), blt_t (show 4 * i + 1 < t.length by omega), blt_t (show 4 * i + 2 < t.length by omega), blt_t (show 4 * i + 3 < t.length by omega)]
   rw [wordBE .u32 (by decide) (by decide), blt_t (show i < 64 by omega), cl_set]
   rfl)
  (List.replicate 64 0) (Wd.rep 64)
theorem stB_mod (a b c d : Nat) : (((a + b) % 4294967296 + c) % 4294967296 + d) % 4294967296 = (a + b + c + d) % 4294967296 := by simp only [Nat.mod_add_mod]
theorem impl_B (v0 : HS) (v2 : List Int) (w0 : List Nat) (h0 : Wd 64 w0) :
  lp_pimpl_Hash_block_1 R L v0 v2 (cl w0) 16 = lp_pimpl_Hash_block_2 R L v0 v2 (cl (loopN stB 48 0 w0)) (List.replicate 8 0) v0.1 0 ∧ Wd 64 (loopN stB 48 0 w0) := by
 have h : lp_pimpl_Hash_block_1 R L v0 v2 (cl w0) (0 + 16) = lp_pimpl_Hash_block_2 R L v0 v2 (cl (loopN stB 48 0 w0)) (List.replicate 8 0) v0.1 0 ∧ Wd 64 (loopN stB 48 0 w0) :=
  gen_for0 (fun (w : List Nat) i => lp_pimpl_Hash_block_1 R L v0 v2 (cl w) (i + 16)) stB (fun _ w => Wd 64 w) 48 (fun w => lp_pimpl_Hash_block_2 R L v0 v2 (cl w) (List.replicate 8 0) v0.1 0)
  (fun w hw => by
   have hq : lp_pimpl_Hash_block_1 R L v0 v2 (cl w) (64 : Nat) = _ := round (by kernel_rfl) (q_pimpl_Hash_block_1 R L v0 v2 (cl w) (64 : Nat))
   show lp_pimpl_Hash_block_1 R L v0 v2 (cl w) (64 : Nat) = _
   rw [hq, show decide (((64 : Nat) : Int) < 64) = false from by decide]; rfl)
  (fun w i hi hw => by
   have hq : lp_pimpl_Hash_block_1 R L v0 v2 (cl w) ((i + 16 : Nat) : Int) = _ := round (by kernel_rfl) (q_pimpl_Hash_block_1 R L v0 v2 (cl w) ((i + 16 : Nat) : Int))
   refine ⟨?_, stB_W hw⟩
   show lp_pimpl_Hash_block_1 R L v0 v2 (cl w) ((i : Int) + 16) = lp_pimpl_Hash_block_1 R L v0 v2 (cl (stB i w)) (((i + 1 : Nat) : Int) + 16)
   rw [show (i : Int) + 16 = ((i + 16 : Nat) : Int) by omega, show ((i + 1 : Nat) : Int) + 16 = ((i + 16 + 1 : Nat) : Int) by omega]
   have e15 : IntKind.wrap .i64 (((i + 16 : Nat) : Int) - 15) = ((i + 1 : Nat) : Int) := subC (c := 15) (by omega) (by omega)
   have e2 : IntKind.wrap .i64 (((i + 16 : Nat) : Int) - 2) = ((i + 14 : Nat) : Int) := subC (c := 2) (by omega) (by omega)
   have e16 : IntKind.wrap .i64 (((i + 16 : Nat) : Int) - 16) = ((i : Nat) : Int) := subC (c := 16) (by omega) (by omega)
   have e7 : IntKind.wrap .i64 (((i + 16 : Nat) : Int) - 7) = ((i + 9 : Nat) : Int) := subC (c := 7) (by omega) (by omega)
   have a1 := hw.g (i + 1); have a14 := hw.g (i + 14); have a0 := hw.g i; have a9 := hw.g (i + 9)
   rw [hq, show decide (((i + 16 : Nat) : Int) < 64) = true from decide_eq_true (by omega), e15, e2, e16, e7, wrap_succ (by omega)]
   simp only [nn, tn, cond_true, blt_t (show i + 1 < 64 by omega), blt_t (show i + 14 < 64 by omega), blt_t (show i < 64 by omega), blt_t (show i + 9 < 64 by omega), blt_t (show i + 16 < 64 by omega), cl_getD]
   rw [T7 a1, T18 a1, T17 a14, T19 a14]
   simp only [Option.bind_some]
   rw [g0C .u32 (by decide) (by decide) a1, g1C .u32 (by decide) (by decide) a14, sumU, sumU, sumU, stB_mod, cl_set]
   rfl)
  w0 h0
 rw [Int.zero_add] at h
 exact h
theorem list8 {x : List Nat} (h : x.length = 8) : x = [x.getD 0 0, x.getD 1 0, x.getD 2 0, x.getD 3 0, x.getD 4 0, x.getD 5 0, x.getD 6 0, x.getD 7 0] := by
 match x, h with
 | [a, b, c, d, e, f, g, i], _ => rfl
theorem impl_E (v0 : HS) (v2 v6 : List Int) (h : List Nat) (hh : Wd 8 h) :
  lp_pimpl_Hash_block_2 R L v0 v2 v6 (List.replicate 8 0) (cl h) 0 = lp_pimpl_Hash_block_3 R L v0 v2 v6 (cl h) 0 := by
 have := (gen_for0 (fun (w : List Nat) i => lp_pimpl_Hash_block_2 R L v0 v2 v6 (cl w) (cl h) i) (fun i w => w.set i (h.getD i 0)) (fun _ w => True) 8 (fun w => lp_pimpl_Hash_block_3 R L v0 v2 v6 (cl w) 0)
  (fun w hw => by
   have hq : lp_pimpl_Hash_block_2 R L v0 v2 v6 (cl w) (cl h) (8 : Nat) = _ := round (by kernel_rfl) (q_pimpl_Hash_block_2 R L v0 v2 v6 (cl w) (cl h) (8 : Nat))
   show lp_pimpl_Hash_block_2 R L v0 v2 v6 (cl w) (cl h) (8 : Nat) = _
   rw [hq]; rfl)
  (fun w i hi hw => by
   have hq : lp_pimpl_Hash_block_2 R L v0 v2 v6 (cl w) (cl h) (i : Nat) = _ := round (by kernel_rfl) (q_pimpl_Hash_block_2 R L v0 v2 v6 (cl w) (cl h) (i : Nat))
   refine ⟨?_, trivial⟩
   show lp_pimpl_Hash_block_2 R L v0 v2 v6 (cl w) (cl h) (i : Nat) = _
   rw [hq, show decide ((i : Int) < 8) = true from decide_eq_true (by omega), wrap_succ (by omega)]
   simp only [nn, tn, cond_true, blt_t (show i < 8 from hi), cl_getD]
   rw [wrapN (k := .u32) (hh.g i), cl_set])
  (List.replicate 8 0) trivial).1
 refine this.trans ?_
 rw [list8 hh.1]
 rfl
theorem stC_mod (h s c k w a m : Nat) : (((((h + s) % 4294967296 + c) % 4294967296 + k) % 4294967296 + w) % 4294967296 + (a + m) % 4294967296) % 4294967296 = (h + s + c + k + w + a + m) % 4294967296 := by
 simp only [Nat.mod_add_mod, Nat.add_mod_mod, Nat.add_assoc]
theorem stC_mod2 (d h s c k w : Nat) : (d + ((((h + s) % 4294967296 + c) % 4294967296 + k) % 4294967296 + w) % 4294967296) % 4294967296 = (d + (h + s + c + k + w)) % 4294967296 := by
 simp only [Nat.mod_add_mod, Nat.add_mod_mod]
theorem impl_C (v0 : HS) (w v00 : List Nat) (hw : Wd 64 w) (h0 : Wd 8 v00) :
  lp_pimpl_Hash_block_3 R L v0 (cl kT) (cl w) (cl v00) 0 = lp_pimpl_Hash_block_4 R L v0 (cl (loopN (stC kT w) 64 0 v00)) 0 ∧ Wd 8 (loopN (stC kT w) 64 0 v00) :=
 gen_for0 (fun (v : List Nat) i => lp_pimpl_Hash_block_3 R L v0 (cl kT) (cl w) (cl v) i) (stC kT w) (fun _ v => Wd 8 v) 64 (fun v => lp_pimpl_Hash_block_4 R L v0 (cl v) 0)
  (fun v hv => by
   have hq : lp_pimpl_Hash_block_3 R L v0 (cl kT) (cl w) (cl v) (64 : Nat) = _ := round (by kernel_rfl) (q_pimpl_Hash_block_3 R L v0 (cl kT) (cl w) (cl v) (64 : Nat))
   show lp_pimpl_Hash_block_3 R L v0 (cl kT) (cl w) (cl v) (64 : Nat) = _
   rw [hq]; rfl)
  (fun v i hi hv => by
   have hq : lp_pimpl_Hash_block_3 R L v0 (cl kT) (cl w) (cl v) (i : Nat) = _ := round (by kernel_rfl) (q_pimpl_Hash_block_3 R L v0 (cl kT) (cl w) (cl v) (i : Nat))
   refine ⟨?_, stC_W hv⟩
   show lp_pimpl_Hash_block_3 R L v0 (cl kT) (cl w) (cl v) (i : Nat) = _
   have a0 := hv.g 0; have a1 := hv.g 1; have a2 := hv.g 2; have a3 := hv.g 3; have a4 := hv.g 4; have a5 := hv.g 5; have a6 := hv.g 6; have a7 := hv.g 7
   rw [hq, show decide ((i : Int) < 64) = true from decide_eq_true (by omega), wrap_succ (by omega), show ((2 : Int) ^ IntKind.bits .u32 - 1) = 4294967295 from by decide]
   simp only [nn, tn, cond_true, blt_t (show i < 64 by omega), cl_getD, show Int.toNat 0 = 0 from rfl, show Int.toNat 1 = 1 from rfl, show Int.toNat 2 = 2 from rfl, show Int.toNat 3 = 3 from rfl, show Int.toNat 4 = 4 from rfl, show Int.toNat 5 = 5 from rfl, show Int.toNat 6 = 6 from rfl, show Int.toNat 7 = 7 from rfl]
   rw [T6 a4, T11 a4, T25 a4, T2 a0, T13 a0, T22 a0]
   simp only [Option.bind_some]
   rw [S1C .u32 (by decide) a4, S0C .u32 (by decide) a0, chC .u32 (by decide) a4 a5 a6, mjC .u32 (by decide) a0 a1 a2]
   simp only [sumU]
   rw [stC_mod, stC_mod2]
   rfl)
  v00 h0
theorem impl_D (rest : List UInt8 × (Int × Unit)) (v h0 : List Nat) (hv : Wd 8 v) (hh : Wd 8 h0) :
  lp_pimpl_Hash_block_4 R L (cl h0, rest) (cl v) 0 = some ((cl (loopN (stD v) 8 0 h0), rest), ()) ∧ Wd 8 (loopN (stD v) 8 0 h0) :=
 gen_for0 (fun (h : List Nat) i => lp_pimpl_Hash_block_4 R L (cl h, rest) (cl v) i) (stD v) (fun _ h => Wd 8 h) 8 (fun h => some ((cl h, rest), ()))
  (fun h _ => by
   have hq : lp_pimpl_Hash_block_4 R L (cl h, rest) (cl v) (8 : Nat) = _ := round (by kernel_rfl) (q_pimpl_Hash_block_4 R L (cl h, rest) (cl v) (8 : Nat))
   show lp_pimpl_Hash_block_4 R L (cl h, rest) (cl v) (8 : Nat) = _
   rw [hq]; rfl)
  (fun h i hi hh => by
   have hq : lp_pimpl_Hash_block_4 R L (cl h, rest) (cl v) (i : Nat) = _ := round (by kernel_rfl) (q_pimpl_Hash_block_4 R L (cl h, rest) (cl v) (i : Nat))
   refine ⟨?_, stD_W hh⟩
   show lp_pimpl_Hash_block_4 R L (cl h, rest) (cl v) (i : Nat) = _
   have a := hh.g i; have b := hv.g i
   rw [hq, show decide ((i : Int) < 8) = true from decide_eq_true (by omega), wrap_succ (by omega)]
   simp only [nn, tn, cond_true, blt_t (show i < 8 from hi), cl_getD]
   rw [wrapN (k := .u32) a, sumU, wrapN_i64 (by omega), cl_set]
   rfl)
  h0 hh
theorem take_getD (t : List UInt8) {i n : Nat} (h : i < n) : (t.take n).getD i 0 = t.getD i 0 := by
 rw [List.getD_eq_getElem?_getD, List.getD_eq_getElem?_getD, List.getElem?_take, if_pos h]
theorem loopN_congr {α : Type} {f g : Nat → α → α} : ∀ (n i : Nat) (a : α), (∀ j b, i ≤ j → j < i + n → f j b = g j b) → loopN f n i a = loopN g n i a
 | 0, _, _, _ => rfl
 | n + 1, i, a, h => by
  show loopN f n (i + 1) (f i a) = loopN g n (i + 1) (g i a)
  rw [h i a (Nat.le_refl _) (by omega), loopN_congr n (i + 1) _ (fun j b h1 h2 => h j b (by omega) (by omega))]
theorem shaB_take (k h : List Nat) (t : List UInt8) : shaB k h (t.take 64) = shaB k h t := by
 have e : loopN (stA (t.take 64)) 16 0 (List.replicate 64 0) = loopN (stA t) 16 0 (List.replicate 64 0) := loopN_congr 16 0 _ fun j b h1 h2 => by
  unfold stA wBE bt
  rw [take_getD t (by omega), take_getD t (by omega), take_getD t (by omega), take_getD t (by omega)]
 unfold shaB shaW
 rw [e]
theorem p_block (h : List Nat) (rest : List UInt8 × (Int × Unit)) (t : List UInt8) (hh : Wd 8 h) (ht : 64 ≤ t.length) :
  c_pimpl_Hash_block R (cl h, rest) t (cl kT) = some ((cl (shaB kT h t), rest), ()) := by
 have hq : c_pimpl_Hash_block R (cl h, rest) t (cl kT) = _ := call (q_pimpl_Hash_block R L (cl h, rest) t (cl kT))
 obtain ⟨a1, a2⟩ := impl_A (cl h, rest) t ht (cl kT)
 obtain ⟨b1, b2⟩ := impl_B (cl h, rest) (cl kT) _ a2
 obtain ⟨c1, c2⟩ := impl_C (cl h, rest) _ h b2 hh
 obtain ⟨d1, d2⟩ := impl_D rest _ h c2 hh
 exact hq.trans (a1.trans (b1.trans ((impl_E _ _ _ h hh).trans (c1.trans d1))))
end Go.Rf.S

end
