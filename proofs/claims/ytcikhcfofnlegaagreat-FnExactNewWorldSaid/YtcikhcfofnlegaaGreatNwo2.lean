/- What the program computes, in plain words: part 6. No condition. -/
import Derived.Test.YtcikhcfofnlegaaGreatProg
import Derived.KernelRfl
import Derived.Test.YtcikhcfofnlegaaGreatRfC
import Derived.Test.YtcikhcfofnlegaaGreatRfD
import Derived.Test.YtcikhcfofnlegaaGreatNwo1
set_option linter.unusedVariables false
set_option linter.unusedSimpArgs false
section
open Go Go.Rf
set_option maxRecDepth 100000
set_option linter.unusedVariables false
namespace Go.Rf.S
def mvD (l : List (Nat × Nat)) (d : List (Nat × List Nat)) : List (Nat × Nat) := l ++ d.flatMap fun x => x.2.map fun s => (4000000 + x.1, s)
abbrev t0 : Ty := (.sl (.int .i64))
abbrev t1 : Ty := (.pair (.int .i64) (.pair (.int .i64) (.pair (.int .i64) (.pair (.int .i64) (.pair .str (.pair .str (.pair .str .unit)))))))
abbrev t2 : Ty := (.pair (.int .i64) (.pair .str .unit))
abbrev t3 : Ty := (.pair (.sl .str) (.pair (.sl t2) .unit))
abbrev t4 : Ty := (.pair .str (.pair t1 (.pair t3 (.pair .bool (.pair .bool .unit)))))
abbrev t5 : Ty := (.pair (.int .i64) (.pair (.int .i64) .unit))
abbrev t6 : Ty := (.pair (.int .i64) (.pair (.int .i64) (.pair (.int .i64) .unit)))
abbrev t7 : Ty := (.pair (.sl t6) .unit)
abbrev t8 : Ty := (.sl (.sl t7))
abbrev t9 : Ty := (.pair (.int .i64) (.pair t0 .unit))
abbrev t10 : Ty := (.pair t4 (.pair t3 (.pair (.sl t5) (.pair t8 (.pair (.sl t9) (.pair .bool .unit))))))
abbrev t11 : Ty := (.pair t10 .unit)
abbrev t12 : Ty := (.pair t10 (.pair (.int .i64) .unit))
abbrev t13 : Ty := (.pair .bool .unit)
abbrev t14 : Ty := (.pair t0 .unit)
abbrev t15 : Ty := (.pair .str .unit)
abbrev t16 : Ty := (.sl (.sl t6))
abbrev t17 : Ty := (.pair t0 (.pair (.sl t6) (.pair t16 .unit)))
abbrev t18 : Ty := (.pair t0 (.pair t17 .unit))
abbrev t19 : Ty := (.sl (.int .u8))
abbrev t20 : Ty := (.pair t19 .unit)
abbrev t21 : Ty := (.arr 8 (.int .i64))
abbrev t22 : Ty := (.pair t21 .unit)
abbrev t23 : Ty := (.pair t21 (.pair .str (.pair (.int .i64) .unit)))
abbrev t24 : Ty := (.pair t23 .unit)
abbrev t25 : Ty := (.pair (.int .i64) .unit)
abbrev t26 : Ty := (.arr 64 (.int .i64))
abbrev t27 : Ty := (.pair t26 .unit)
abbrev t28 : Ty := (.arr 64 (.int .u32))
abbrev t29 : Ty := (.pair t28 .unit)
abbrev t30 : Ty := (.pair (.int .u32) .unit)
abbrev t31 : Ty := (.pair (.ptr t23) .unit)
abbrev t32 : Ty := (.pair (.int .u32) (.pair (.int .u32) (.pair (.int .u32) (.pair (.int .u32) .unit))))
abbrev t33 : Ty := (.arr 4 (.int .i64))
abbrev t34 : Ty := (.pair t33 .unit)
abbrev t35 : Ty := (.arr 16 (.int .i64))
abbrev t36 : Ty := (.pair t35 .unit)
abbrev t37 : Ty := (.pair t17 .unit)
abbrev t38 : Ty := (.pair t17 (.pair (.int .i64) .unit))
abbrev t39 : Ty := (.pair t18 (.pair (.int .i64) .unit))
abbrev t40 : Ty := (.arr 5 (.int .i64))
abbrev t41 : Ty := (.pair t40 .unit)
abbrev t42 : Ty := (.pair (.sl .str) .unit)
abbrev t43 : Ty := (.pair t3 .unit)
abbrev t44 : Ty := (.pair t4 .unit)
abbrev t45 : Ty := (.pair (.sl t7) .unit)
abbrev t46 : Ty := (.arr 5 (.int .u64))
abbrev t47 : Ty := (.pair t46 .unit)
abbrev t48 : Ty := (.sl (.sl .str))
abbrev t49 : Ty := (.pair t48 .unit)
abbrev t50 : Ty := (.pair t4 (.pair (.int .i64) .unit))
abbrev t51 : Ty := (.pair (.sl t2) .unit)
abbrev t52 : Ty := (.pair (.int .i64) (.pair (.sl .str) .unit))
abbrev t53 : Ty := (.pair (.int .i64) (.pair (.sl t2) .unit))
abbrev t54 : Ty := (.pair (.int .i64) (.pair t3 .unit))
abbrev t55 : Ty := (.pair (.int .i64) (.pair t4 .unit))
abbrev t56 : Ty := (.pair (.int .i64) (.pair (.sl t5) .unit))
abbrev t57 : Ty := (.pair (.int .i64) (.pair (.sl t6) .unit))
abbrev t58 : Ty := (.pair (.int .i64) (.pair (.sl t7) .unit))
abbrev t59 : Ty := (.pair (.int .i64) (.pair t8 .unit))
abbrev t60 : Ty := (.pair (.int .i64) (.pair (.sl t9) .unit))
abbrev t61 : Ty := (.pair (.int .i64) (.pair t10 .unit))
abbrev d62 : Type := (Int × (Int × (Int × (Int × (List UInt8 × (List UInt8 × (List UInt8 × Unit)))))))
abbrev d63 : Type := (Int × (List UInt8 × Unit))
abbrev d64 : Type := (List (List UInt8) × (List d63 × Unit))
abbrev d65 : Type := (List UInt8 × (d62 × (d64 × (Bool × (Bool × Unit)))))
abbrev d66 : Type := (Int × (Int × Unit))
abbrev d67 : Type := (Int × (Int × (Int × Unit)))
abbrev d68 : Type := (List d67 × Unit)
abbrev d69 : Type := (Int × (List Int × Unit))
abbrev d70 : Type := (d65 × (d64 × (List d66 × (List (List d68) × (List d69 × (Bool × Unit))))))
abbrev d71 : Type := (d70 × Unit)
abbrev d72 : Type := (d70 × (Int × Unit))
abbrev d73 : Type := (Bool × Unit)
abbrev d74 : Type := (List Int × Unit)
abbrev d75 : Type := (List UInt8 × Unit)
abbrev d76 : Type := (List Int × (List d67 × (List (List d67) × Unit)))
abbrev d77 : Type := (List Int × (d76 × Unit))
abbrev d78 : Type := (List Int × (List UInt8 × (Int × Unit)))
abbrev d79 : Type := (d78 × Unit)
abbrev d80 : Type := (Int × Unit)
abbrev d81 : Type := (Int × (Int × (Int × (Int × Unit))))
abbrev d82 : Type := (d76 × Unit)
abbrev d83 : Type := (d76 × (Int × Unit))
abbrev d84 : Type := (d77 × (Int × Unit))
abbrev d85 : Type := (List (List UInt8) × Unit)
abbrev d86 : Type := (d64 × Unit)
abbrev d87 : Type := (d65 × Unit)
abbrev d88 : Type := (List d68 × Unit)
abbrev d89 : Type := (List (List (List UInt8)) × Unit)
abbrev d90 : Type := (d65 × (Int × Unit))
abbrev d91 : Type := (List d63 × Unit)
abbrev d92 : Type := (Int × (List (List UInt8) × Unit))
abbrev d93 : Type := (Int × (List d63 × Unit))
abbrev d94 : Type := (Int × (d64 × Unit))
abbrev d95 : Type := (Int × (d65 × Unit))
abbrev d96 : Type := (Int × (List d66 × Unit))
abbrev d97 : Type := (Int × (List d67 × Unit))
abbrev d98 : Type := (Int × (List d68 × Unit))
abbrev d99 : Type := (Int × (List (List d68) × Unit))
abbrev d100 : Type := (Int × (List d69 × Unit))
abbrev d101 : Type := (Int × (d70 × Unit))
abbrev t102 : Ty := (.arr 8 (.int .u32))
abbrev t103 : Ty := (.arr 2 (.int .i64))
abbrev t104 : Ty := (.arr 2 t103)
abbrev t105 : Ty := (.arr 16 (.int .u32))
noncomputable def cfgs : List (Nat × FCfg) := [
(46, ⟨[.ro .str, .ro t0], 1, t11, (.pr (.pr .sh (.pr .sh (.pr (.own .sh) (.pr (.own (.own .sh)) (.pr (.own (.pr .sh (.pr (.own .sh) .sh))) .sh))))) .sh), [0, 1, 4, 5], [(2, 7)]⟩),
(45, ⟨[.ro t10], 1, t11, (.pr (.pr (.pr .sh (.pr .sh (.pr (.pr (.own .sh) (.pr (.own .sh) .sh)) .sh))) (.pr (.pr (.own .sh) (.pr (.own .sh) .sh)) (.pr (.own .sh) .sh))) .sh), [0, 1, 2, 3, 4, 5, 6, 25, 44], mvD [(16, 1), (1, 4), (2, 4), (3, 5), (4, 1), (8, 7), (8, 8), (8, 9), (10, 1), (14, 15), (14, 16), (14, 17), (14, 18)] [(24, [0, 5, 6, 25, 44]), (42, [0, 3, 4, 25, 44])]⟩),
(12, ⟨[.ro .str, .ro t0], 2, t12, (.pr (.pr (.pr .sh (.pr .sh (.pr (.pr (.own .sh) (.pr (.own .sh) .sh)) .sh))) (.pr (.pr (.own .sh) (.pr (.own .sh) .sh)) (.pr (.own .sh) (.pr (.own (.own (.pr (.own .sh) .sh))) (.pr (.own (.pr .sh (.pr (.own .sh) .sh))) .sh))))) .sh), [0, 1, 4, 5, 6, 7, 15], [(4, 5), (4, 6), (3, 2), (3, 3), (1, 7), (1, 8), (4, 4), (3, 0)]⟩),
(3, ⟨[.ro .str, .ro t0], 1, t13, .sh, [0, 1, 4, 5, 6, 7, 8, 9, 10, 11, 12, 13, 14, 17, 20, 44, 49, 65, 73, 76, 92, 97, 100], [(2, 0), (4, 0), (9, 0), (11, 0), (15, 0), (21, 0), (23, 0), (26, 0), (30, 0), (33, 0), (32, 0)]⟩),
(210, ⟨[.ro t0], 1, t14, (.pr (.own .sh) .sh), [900000, 0, 2, 4], [(3, 3), (2, 0)]⟩),
(275, ⟨[.ro t0], 1, t15, .sh, [], []⟩),
(211, ⟨[.mv t0 (.own .sh), .ro (.int .i64)], 1, t15, .sh, [0, 1, 4], [(1, 7)]⟩),
(256, ⟨[.ro (.sl t6)], 1, t14, (.pr (.own .sh) .sh), [0, 2, 3, 5, 9, 10, 11, 12], mvD [(7, 1)] [(22, [0, 2, 5, 12])]⟩),
(188, ⟨[.ro t18, .ro (.sl t9)], 1, t15, .sh, [0, 1, 2, 4, 5, 7, 26, 27, 28, 29], mvD [(9, 2)] [(30, [0, 1, 2, 4, 7, 29])]⟩),
(189, ⟨[.ro (.sl t6)], 1, t15, .sh, [0, 2], [(1, 3)]⟩),
(263, ⟨[.mv t19 (.own .sh), .ro (.int .i64)], 1, t20, (.pr (.own .sh) .sh), [0, 1, 4], [(1, 14)]⟩),
(197, ⟨[.ro t0], 1, t15, .sh, [0, 2, 3, 4, 9], mvD [(6, 2)] [(15, [2, 9])]⟩),
(266, ⟨[.mv t0 (.own .sh), .ro (.int .i64)], 1, t15, .sh, [0, 1, 4, 8], mvD [(3, 2)] [(5, [4, 8])]⟩),
(246, ⟨[.ro t18, .ro (.sl t9)], 1, t15, .sh, [0, 1, 2, 4, 5, 6, 7, 25, 64], mvD [(14, 2)] [(18, [0, 4, 7, 25, 64]), (50, [0, 2, 4, 6, 25, 64])]⟩),
(247, ⟨[.ro (.sl t6)], 1, t15, .sh, [0, 2, 3, 4, 11], mvD [(6, 2)] [(15, [2, 11])]⟩),
(305, ⟨[], 1, t22, .sh, [0], [(1, 1)]⟩),
(250, ⟨[], 1, t24, .sh, [0], [(1, 2)]⟩),
(341, ⟨[.ro .str, .ro (.int .i64)], 1, t25, .sh, [0, 1, 4], [(1, 25)]⟩),
(342, ⟨[.ro (.int .i64), .ro (.int .i64)], 1, t25, .sh, [0, 1, 4], [(1, 9)]⟩),
(343, ⟨[], 1, t27, .sh, [0], [(1, 1)]⟩),
(304, ⟨[.ro t21, .ro .str], 1, t22, .sh, [0, 1, 2, 4, 5, 6, 7, 8, 9, 10, 11, 12, 13, 14, 15, 16, 17, 18, 21, 31, 87, 180], mvD [(27, 1)] [(15, [0, 7, 8, 9, 10, 11, 12, 13, 14, 15, 16, 17, 18, 21, 31, 87, 180]), (50, [0, 1, 6, 8, 9, 10, 11, 12, 13, 14, 15, 16, 17, 18, 21, 31, 87, 180]), (156, [0, 1, 6, 7, 8, 9, 13, 14, 15, 16, 17, 18, 21, 31, 87, 180]), (78, [0, 1, 5, 6, 7, 8, 9, 10, 12, 13, 14, 15, 16, 17, 21, 31, 87, 180])]⟩),
(249, ⟨[.ro t23, .ro .str], 1, t24, .sh, [0, 1, 2, 4, 19], mvD [(6, 1)] [(15, [0, 1, 19])]⟩),
(248, ⟨[.ro t23], 1, t15, .sh, [0, 1, 2, 3, 4, 5, 6, 7, 8, 19, 24, 41, 45], mvD [(18, 2)] [(9, [0, 2, 5, 6, 7, 8, 19, 24, 41, 45]), (24, [0, 2, 6, 7, 8, 19, 24, 41, 45]), (93, [0, 2, 3, 4, 5, 8, 19, 24, 41, 45]), (51, [0, 2, 3, 4, 5, 19, 24, 41, 45])]⟩),
(181, ⟨[.ro .str], 1, t15, .sh, [0, 2], [(1, 4)]⟩),
(257, ⟨[], 1, t24, .sh, [0], [(1, 2)]⟩),
(309, ⟨[], 1, t29, .sh, [0], [(1, 1)]⟩),
(367, ⟨[.ro (.int .u32), .ro (.int .i64)], 1, t30, .sh, [0, 1, 4, 5], [(2, 8)]⟩),
(344, ⟨[.ro (.int .u32), .ro (.int .i64)], 1, t30, .sh, [0, 1, 4], [(1, 4)]⟩),
(310, ⟨[.io (.ptr t23) (.own .sh) (.own .sh) 0 [], .ro .str, .ro (.ptr t28)], 0, t31, (.pr (.own .sh) .sh), [0, 1, 2, 6, 7, 8, 9, 10, 11, 12, 13, 14, 15, 16, 17, 18, 19, 20, 21, 22, 23, 24, 25, 26, 61, 104, 105, 106, 114, 115, 194, 195, 196], mvD [] [(18, [7, 8, 9, 10, 11, 12, 13, 14, 15, 16, 17, 18, 19, 20, 21, 22, 23, 24, 26, 61, 104, 105, 106, 114, 115, 194, 195, 196]), (38, [1, 7, 9, 10, 11, 12, 13, 14, 15, 16, 17, 18, 19, 20, 21, 22, 23, 24, 25, 26, 61, 104, 105, 106, 114, 115, 194, 195, 196]), (62, [1, 7, 8, 9, 10, 12, 13, 14, 15, 16, 17, 18, 19, 20, 21, 22, 23, 24, 25, 26, 61, 106, 114, 115, 194, 195, 196]), (154, [1, 7, 8, 9, 10, 12, 13, 14, 15, 16, 17, 18, 19, 20, 21, 22, 23, 24, 25, 26, 61, 104, 105, 106, 115, 194, 195, 196]), (114, [1, 2, 6, 7, 8, 9, 10, 11, 12, 13, 14, 15, 16, 17, 18, 19, 20, 21, 22, 23, 24, 25, 26, 61, 104, 105, 106, 114, 115, 196])]⟩),
(258, ⟨[.ro t23, .ro .str], 1, t24, .sh, [0, 1, 2, 4, 5, 19], mvD [(8, 1)] [(18, [0, 19])]⟩),
(311, ⟨[.ro .str, .ro (.int .i64)], 1, t15, .sh, [], []⟩),
(259, ⟨[.ro t23], 1, t15, .sh, [0, 1, 2, 3, 4, 5, 6, 8, 20, 35, 36, 37], mvD [(13, 2)] [(18, [0, 2, 6, 8, 20, 35, 36, 37]), (46, [0, 1, 2, 3, 4, 5, 8, 20, 37])]⟩),
(190, ⟨[.ro .str], 1, t15, .sh, [0, 2], [(1, 4)]⟩),
(139, ⟨[.ro (.int .i64), .ro (.int .i64)], 1, t15, .sh, [0, 1, 4, 5, 6, 7, 8, 9], mvD [(7, 2)] [(22, [1, 4, 6, 9])]⟩),
(332, ⟨[.ro .str], 1, t30, .sh, [0, 2], [(1, 18)]⟩),
(354, ⟨[.ro (.int .u32), .ro (.int .u32), .ro (.int .u32), .ro (.int .u32)], 4, t32, .sh, [0, 1, 2, 3, 8, 9, 10, 11, 13, 16, 17, 18], mvD [(9, 4), (9, 5), (9, 6), (9, 7)] [(42, [8, 9, 10, 11, 13, 18])]⟩),
(322, ⟨[.ro .str, .ro .str, .ro (.int .i64)], 1, t15, .sh, [0, 1, 2, 6, 7, 8, 9, 10, 11, 12, 13, 14, 15, 16, 17, 25, 26, 41, 42, 43, 44, 46, 47, 95, 96], mvD [(28, 1)] [(35, [0, 1, 2, 6, 10, 11, 12, 13, 14, 15, 16, 17, 26, 41, 42, 43, 44, 46, 47, 95, 96]), (198, [0, 1, 2, 6, 7, 10, 11, 12, 13, 14, 15, 16, 17, 25, 26, 42, 43, 44, 46, 47, 95, 96]), (153, [0, 1, 2, 6, 7, 10, 11, 12, 13, 14, 15, 16, 17, 25, 26, 42, 44, 46, 47, 95, 96]), (90, [0, 1, 2, 6, 7, 10, 12, 13, 14, 15, 16, 17, 25, 26, 42, 44, 47, 95, 96]), (106, [0, 1, 2, 6, 7, 10, 11, 12, 13, 14, 15, 17, 25, 26, 41, 42, 43, 44, 46, 47, 96])]⟩),
(361, ⟨[.ro .str, .ro (.int .i64)], 1, t25, .sh, [0, 1, 4], [(1, 25)]⟩),
(382, ⟨[.ro (.int .i64), .ro (.int .i64)], 1, t25, .sh, [0, 1, 4], [(1, 9)]⟩),
(381, ⟨[.ro (.int .i64), .ro (.int .i64), .ro (.int .i64), .ro (.int .i64)], 1, t34, .sh, [0, 1, 2, 3, 8], [(9, 5)]⟩),
(372, ⟨[.ro t35, .ro (.int .i64), .ro (.int .i64), .ro (.int .i64), .ro (.int .i64)], 1, t36, .sh, [0, 1, 2, 3, 4, 5, 10, 11], [(6, 1)]⟩),
(349, ⟨[.ro .str, .ro .str, .ro (.int .i64)], 1, t15, .sh, [0, 1, 2, 6, 7, 8, 9, 10, 11, 12, 13, 14, 15, 16, 19, 28, 41, 53, 57, 70, 90], mvD [(32, 2)] [(15, [6, 9, 10, 11, 12, 13, 14, 15, 16, 19, 28, 41, 53, 57, 70, 90]), (27, [6, 8, 10, 11, 12, 13, 14, 15, 16, 19, 28, 41, 53, 57, 70, 90]), (42, [0, 2, 6, 8, 9, 11, 12, 13, 14, 15, 16, 19, 28, 41, 53, 57, 70, 90]), (225, [0, 1, 2, 6, 8, 9, 10, 13, 14, 15, 16, 19, 28, 41, 53, 57, 70, 90]), (66, [0, 1, 2, 6, 8, 9, 10, 14, 15, 16, 19, 28, 41, 53, 57, 70, 90]), (78, [0, 1, 2, 6, 8, 9, 10, 13, 15, 16, 19, 28, 41, 53, 57, 70, 90]), (93, [0, 1, 2, 6, 8, 9, 10, 12, 13, 14, 19, 28, 41, 53, 57, 70, 90])]⟩),
(321, ⟨[.ro .str, .ro .str], 1, t15, .sh, [0, 1, 4, 5, 6, 10, 11, 12], mvD [(7, 2)] [(22, [0, 4, 6, 12])]⟩),
(313, ⟨[.ro .str, .ro .str, .ro (.int .i64), .ro .str], 1, t15, .sh, [0, 1, 2, 3, 8, 9, 10, 11, 16, 21], mvD [(9, 2)] [(35, [8, 16, 21])]⟩),
(11, ⟨[.ro t0], 1, t14, (.pr (.own .sh) .sh), [0, 2, 3, 4, 11], [(1, 2), (6, 1)]⟩),
(102, ⟨[.ro (.int .i64), .ro (.int .i64), .ro (.int .i64)], 1, t13, .sh, [0, 1, 2, 6], [(1, 8)]⟩),
(44, ⟨[.ro t0], 1, t13, .sh, [0, 2, 3, 7, 15], mvD [(6, 0), (5, 0)] [(18, [2, 7, 15])]⟩),
(278, ⟨[.ro t0], 1, t37, (.pr (.pr (.own .sh) (.pr (.own .sh) (.pr (.own (.own .sh)) .sh))) .sh), [0, 2], [(1, 6)]⟩),
(245, ⟨[.ro t0], 2, t38, (.pr (.pr (.own .sh) (.pr (.own .sh) (.pr (.own .sh) .sh))) .sh), [0, 2, 3, 6, 10, 14], [(2, 1), (2, 2), (4, 1), (4, 2), (7, 2), (7, 3), (6, 1), (6, 2)]⟩),
(179, ⟨[.ro t0], 2, t39, (.pr (.pr (.own .sh) .sh) .sh), [0, 2, 3, 4, 5, 8, 16], [(2, 1), (2, 2), (6, 3), (6, 4), (5, 2), (5, 3)]⟩),
(312, ⟨[.ro (.int .i64)], 1, t15, .sh, [0, 2, 3, 4, 7], mvD [(6, 2)] [(15, [2, 7])]⟩),
(264, ⟨[.ro (.int .i64), .ro (.int .i64), .ro (.int .i64)], 1, t15, .sh, [0, 1, 2, 6], [(1, 12)]⟩),
(351, ⟨[.ro .str], 1, t15, .sh, [0, 2, 6], mvD [(3, 1)] [(5, [2, 6])]⟩),
(374, ⟨[.ro .str], 1, t15, .sh, [0, 2, 3, 4, 5, 10, 20], mvD [(10, 2)] [(15, [0, 2, 5, 10, 20]), (27, [0, 2, 4, 10, 20])]⟩),
(373, ⟨[.ro .str], 1, t41, .sh, [0, 2, 3, 4, 5, 6, 9, 36], mvD [(10, 1)] [(49, [5, 6, 9, 36])]⟩),
(377, ⟨[.ro t40], 1, t41, .sh, [0, 1, 2, 3, 4, 6, 10], mvD [(11, 1)] [(63, [0, 4, 6, 10]), (30, [0, 6, 10])]⟩),
(375, ⟨[.ro t40, .ro t40], 1, t41, .sh, [0, 1, 2, 3, 4, 5, 6, 7, 8, 11, 15, 28], mvD [(12, 2)] [(72, [0, 1, 7, 8, 11, 15, 28]), (57, [0, 1, 8, 11, 15, 28])]⟩),
(376, ⟨[.ro t40], 1, t41, .sh, [0, 1, 2, 3, 4, 11, 32], mvD [(9, 1), (11, 1)] [(26, [0, 11, 32])]⟩),
(350, ⟨[.ro .str, .ro .str], 1, t15, .sh, [0, 1, 4, 5, 6, 7, 8, 9, 10, 11, 12, 13, 14, 15, 24, 38, 44, 63, 77], mvD [(28, 2)] [(110, [4, 8, 9, 10, 11, 12, 13, 14, 15, 24, 38, 44, 63, 77]), (17, [4, 9, 10, 11, 12, 13, 14, 15, 24, 38, 44, 63, 77]), (39, [4, 8, 11, 12, 13, 14, 15, 24, 38, 44, 63, 77]), (216, [1, 4, 5, 7, 8, 9, 10, 14, 15, 24, 38, 44, 63, 77])]⟩),
(314, ⟨[.ro .str, .ro .str, .ro .str, .ro .str], 1, t15, .sh, [0, 1, 2, 3, 8, 9], [(2, 15)]⟩),
(265, ⟨[.ro .str, .ro .str, .ro .str, .ro .str], 1, t15, .sh, [0, 1, 2, 3, 8, 9], [(2, 7)]⟩),
(198, ⟨[.ro .str, .ro (.int .i64), .ro (.int .i64), .ro (.int .i64), .ro .str], 1, t15, .sh, [0, 1, 2, 3, 4, 10, 11], [(2, 4)]⟩),
(180, ⟨[.ro .str, .ro (.int .i64), .ro (.int .i64), .ro t18, .ro (.sl t9)], 1, t42, (.pr (.own .sh) .sh), [0, 1, 2, 3, 4, 8, 10, 11, 12, 23], mvD [(6, 1)] [(15, [3, 4, 10, 23])]⟩),
(306, ⟨[.ro (.int .i64), .ro .str], 1, t15, .sh, [0, 1, 4], [(1, 7)]⟩),
(251, ⟨[.ro (.sl .str)], 1, t42, (.pr (.own .sh) .sh), [0, 2, 3, 4, 9], mvD [(6, 1)] [(15, [2, 9])]⟩),
(307, ⟨[.ro .str, .ro .str], 1, t15, .sh, [0, 1, 4], [(1, 5)]⟩),
(252, ⟨[.ro (.sl .str)], 1, t42, (.pr (.own .sh) .sh), [0, 2, 3, 4, 10], mvD [(6, 1)] [(15, [2, 10])]⟩),
(182, ⟨[.ro (.sl .str)], 1, t15, .sh, [0, 2, 3, 8], mvD [(4, 3)] [(7, [0, 2, 8])]⟩),
(184, ⟨[], 1, t43, (.pr (.pr (.own .sh) (.pr (.own .sh) .sh)) .sh), [0], [(1, 3)]⟩),
(201, ⟨[.ro t3, .ro (.int .i64), .ro .str], 1, t43, (.pr (.pr .sh (.pr (.own .sh) .sh)) .sh), [0, 1, 2, 3, 6], [(2, 1)]⟩),
(183, ⟨[.ro t3, .ro (.int .i64), .ro (.sl .str)], 1, t43, .sh, [0, 1, 2, 3, 6, 7, 11], mvD [(5, 1)] [(12, [0, 11])]⟩),
(130, ⟨[.ro t3], 1, t43, (.pr (.pr (.own .sh) (.pr (.own .sh) .sh)) .sh), [0, 1, 2, 3, 4, 15], mvD [(6, 1)] [(15, [0, 15])]⟩),
(105, ⟨[.ro .str, .ro t0], 1, t44, (.pr (.pr .sh (.pr .sh (.pr (.pr (.own .sh) (.pr (.own .sh) .sh)) .sh))) .sh), [0, 1, 4, 5, 7, 8], [(4, 11)]⟩),
(103, ⟨[.ro t3], 1, t43, (.pr (.pr (.own .sh) (.pr (.own .sh) .sh)) .sh), [0, 1, 2], [(1, 9)]⟩),
(65, ⟨[.ro t4], 1, t44, (.pr (.pr .sh (.pr .sh (.pr (.pr (.own .sh) (.pr (.own .sh) .sh)) .sh))) .sh), [0, 1, 2], [(2, 1)]⟩),
(104, ⟨[.ro (.sl t7)], 1, t45, (.pr (.own (.pr (.own .sh) .sh)) .sh), [0, 2, 3, 4, 9], mvD [(6, 1)] [(15, [2, 9])]⟩),
(10, ⟨[.ro .str, .ro t0], 2, t12, (.pr (.pr (.pr .sh (.pr .sh (.pr (.pr (.own .sh) (.pr (.own .sh) .sh)) .sh))) (.pr (.pr (.own .sh) (.pr (.own .sh) .sh)) (.pr (.own .sh) .sh))) .sh), [0, 1, 4, 5, 13, 22, 26], [(2, 1), (2, 2), (4, 1), (4, 2), (7, 4), (7, 5), (6, 1), (6, 2)]⟩),
(254, ⟨[.ro .str, .ro (.ptr .fn)], 1, t13, .sh, [0, 1, 3], [(1, 4)]⟩),
(308, ⟨[.ro (.sl .str), .ro .fn], 1, t25, .sh, [0, 1, 4, 5, 7, 8, 9, 16], [(7, 0), (5, 1)]⟩),
(253, ⟨[.ro (.sl .str), .ro .fn], 1, t13, .sh, [0, 1, 4], [(1, 4)]⟩),
(185, ⟨[.ro (.sl .str), .ro .fn], 1, t13, .sh, [0, 1, 3, 4], [(1, 4)]⟩),
(186, ⟨[.ro .str], 1, t13, .sh, [0, 2], [(1, 3)]⟩),
(106, ⟨[.ro (.sl .str)], 1, t13, .sh, [0, 2], [(1, 2)]⟩),
(268, ⟨[.ro (.int .i64), .ro (.ptr .fn)], 1, t13, .sh, [0, 1, 3], [(1, 4)]⟩),
(315, ⟨[.ro t0, .ro .fn], 1, t25, .sh, [0, 1, 4, 5, 7, 8, 9, 16], [(7, 0), (5, 1)]⟩),
(267, ⟨[.ro t0, .ro .fn], 1, t13, .sh, [0, 1, 4], [(1, 4)]⟩),
(204, ⟨[.ro t0, .ro .fn], 1, t13, .sh, [0, 1, 3, 4], [(1, 4)]⟩),
(149, ⟨[.ro (.int .i64), .ro (.int .i64), .ro (.int .i64)], 1, t13, .sh, [0, 1, 2, 6], [(1, 8)]⟩),
(205, ⟨[.ro (.int .i64)], 1, t13, .sh, [0, 2], [(1, 2)]⟩),
(255, ⟨[.ro t0], 1, t25, .sh, [0, 2, 3, 7, 11], [(7, 0), (2, 0), (4, 0), (6, 0)]⟩),
(187, ⟨[.ro t0], 2, t38, (.pr (.pr (.own .sh) (.pr (.own .sh) (.pr (.own .sh) .sh))) .sh), [0, 2, 3, 4, 8], [(4, 4), (4, 5), (3, 2), (3, 3)]⟩),
(107, ⟨[.ro t0], 2, t39, (.pr (.pr (.own .sh) .sh) .sh), [0, 2, 3, 4, 5, 12], [(4, 3), (4, 4), (3, 2), (3, 3)]⟩),
(108, ⟨[], 1, t43, (.pr (.pr (.own .sh) (.pr (.own .sh) .sh)) .sh), [0], [(1, 2)]⟩),
(209, ⟨[.ro (.int .i64), .ro (.int .i64), .ro (.int .i64)], 1, t15, .sh, [0, 1, 2, 6], [(1, 10)]⟩),
(273, ⟨[.ro .str, .ro .str, .ro (.int .i64), .ro .str], 1, t15, .sh, [], []⟩),
(325, ⟨[.ro .str], 1, t15, .sh, [0, 2], [(1, 8)]⟩),
(356, ⟨[.ro .str], 1, t15, .sh, [0, 2, 3, 4, 5, 10, 20], mvD [(10, 2)] [(15, [0, 2, 5, 10, 20]), (27, [0, 2, 4, 10, 20])]⟩),
(355, ⟨[.ro .str], 1, t47, .sh, [0, 2, 3, 4, 5, 6, 7, 9, 10, 11, 12, 16, 17, 27], mvD [(13, 1)] [(85, [0, 4, 5, 6, 7, 12, 16, 17, 27]), (57, [0, 6, 7, 12, 17, 27])]⟩),
(379, ⟨[.ro t46], 1, t47, .sh, [0, 1, 2, 3, 4, 5, 6, 7, 8], mvD [(13, 1)] [(88, [0, 3, 4, 6, 7, 8]), (51, [0, 4, 6, 8])]⟩),
(357, ⟨[.ro t46, .ro t46], 1, t47, .sh, [0, 1, 2, 3, 4, 5, 6, 7], mvD [(6, 2)] [(18, [0, 1, 5, 7])]⟩),
(358, ⟨[.ro t46, .ro t46], 1, t47, .sh, [0, 1, 2, 3, 4, 5, 6, 7, 8, 9, 10, 11, 12, 15, 16, 17, 23], mvD [(13, 2)] [(85, [0, 1, 2, 6, 7, 8, 9, 12, 15, 16, 17, 23]), (57, [0, 1, 2, 8, 9, 12, 17, 23])]⟩),
(359, ⟨[.ro t46], 1, t47, .sh, [0, 1, 2, 3, 4, 5, 10, 19, 26, 28, 29], mvD [(8, 1), (14, 1)] [(35, [0, 5, 10, 19, 26, 28, 29]), (50, [0, 4, 5, 10, 19, 26, 29])]⟩),
(360, ⟨[.ro t46, .ro .str], 1, t15, .sh, [0, 1, 2, 4, 5, 6, 7, 8, 9, 10, 13, 14, 15, 17, 18], mvD [(17, 2)] [(143, [0, 4, 7, 8, 9, 10, 15, 17, 18]), (55, [0, 4, 9, 10, 15, 18])]⟩),
(324, ⟨[.ro .str, .ro .str], 1, t15, .sh, [0, 1, 4, 5, 6, 7, 14], mvD [(7, 5)] [(18, [4, 14])]⟩),
(274, ⟨[.ro .str, .ro .str, .ro .str, .ro .str], 1, t15, .sh, [0, 1, 2, 3, 8], [(1, 18)]⟩),
(208, ⟨[.ro .str, .ro .str, .ro .str, .ro .str], 1, t15, .sh, [0, 1, 2, 3, 8, 9], [(2, 7)]⟩),
(140, ⟨[.ro .str, .ro (.int .i64), .ro (.int .i64), .ro (.int .i64), .ro .str], 1, t15, .sh, [0, 1, 2, 3, 4, 10], [(1, 7)]⟩),
(109, ⟨[.ro .str, .ro (.int .i64), .ro t18, .ro (.sl t9), .ro (.int .i64)], 1, t42, (.pr (.own .sh) .sh), [0, 1, 2, 3, 4, 7, 10, 11, 12, 13, 14, 27, 28, 29, 30], mvD [(8, 1)] [(26, [1, 2, 3, 7, 10, 13, 14, 30])]⟩),
(110, ⟨[], 1, t15, .sh, [0], [(1, 1)]⟩),
(260, ⟨[.ro (.int .i64), .ro .str], 1, t15, .sh, [0, 1, 4], [(1, 7)]⟩),
(261, ⟨[.ro .str, .ro .str], 1, t15, .sh, [0, 1, 4], [(1, 5)]⟩),
(191, ⟨[.ro (.sl .str)], 1, t49, (.pr (.own .sh) .sh), [0, 2, 3, 4, 5, 6, 7, 8, 9, 10, 11, 12, 27, 31], mvD [(16, 1)] [(22, [0, 2, 4, 5, 6, 7, 8, 12, 27, 31]), (100, [0, 2, 4, 5, 7, 8, 9, 10, 11, 12, 27, 31]), (39, [0, 2, 4, 5, 9, 10, 11, 12, 27, 31])]⟩),
(111, ⟨[.ro (.sl .str)], 1, t15, .sh, [0, 2], [(1, 6)]⟩),
(47, ⟨[.ro .str, .ro t0], 2, t50, (.pr (.pr .sh (.pr .sh (.pr (.pr (.own .sh) (.pr (.own .sh) .sh)) .sh))) .sh), [0, 1, 4, 5, 6, 7, 8, 9, 10, 21, 32], [(2, 1), (2, 2), (4, 1), (4, 2), (7, 2), (7, 3), (12, 1), (12, 2)]⟩),
(112, ⟨[.ro (.sl .str)], 1, t42, (.pr (.own .sh) .sh), [900000, 0, 2, 4], [(3, 3), (2, 0)]⟩),
(113, ⟨[.ro (.sl t2)], 1, t51, (.pr (.own .sh) .sh), [900000, 0, 2, 4], [(3, 3), (2, 0)]⟩),
(48, ⟨[.ro t3], 1, t43, (.pr (.pr (.own .sh) (.pr (.own .sh) .sh)) .sh), [0, 1, 2], [(1, 7)]⟩),
(73, ⟨[.ro t1, .ro t1], 1, t13, .sh, [0, 1, 2, 3, 4, 9, 14, 19, 24, 29, 34, 39], [(2, 0), (4, 0), (6, 0), (8, 0), (10, 0), (12, 0), (15, 0), (14, 0)]⟩),
(114, ⟨[.ro (.sl .str), .ro (.sl .str)], 1, t13, .sh, [0, 1, 4, 5, 10, 14, 25], [(2, 0), (8, 0), (7, 0)]⟩),
(192, ⟨[.ro t2, .ro t2], 1, t13, .sh, [0, 1, 2, 3, 4, 9, 14], [(2, 0), (5, 0), (4, 0)]⟩),
(115, ⟨[.ro (.sl t2), .ro (.sl t2)], 1, t13, .sh, [0, 1, 4, 5, 10, 14, 26], [(2, 0), (8, 0), (7, 0)]⟩),
(49, ⟨[.ro t3, .ro t3], 1, t13, .sh, [0, 1, 2, 3, 4, 10, 16], [(2, 0), (5, 0), (4, 0)]⟩),
(26, ⟨[.ro t4, .ro t4], 1, t13, .sh, [0, 1, 2, 3, 4, 9, 15, 21, 26, 31], [(2, 0), (4, 0), (6, 0), (8, 0), (11, 0), (10, 0)]⟩),
(116, ⟨[.ro t5, .ro t5], 1, t13, .sh, [0, 1, 2, 3, 4, 9, 14], [(2, 0), (5, 0), (4, 0)]⟩),
(50, ⟨[.ro (.sl t5), .ro (.sl t5)], 1, t13, .sh, [0, 1, 4, 5, 10, 14, 26], [(2, 0), (8, 0), (7, 0)]⟩),
(212, ⟨[.ro t6, .ro t6], 1, t13, .sh, [0, 1, 2, 3, 4, 9, 14, 19], [(2, 0), (4, 0), (7, 0), (6, 0)]⟩),
(146, ⟨[.ro (.sl t6), .ro (.sl t6)], 1, t13, .sh, [0, 1, 4, 5, 10, 14, 26], [(2, 0), (8, 0), (7, 0)]⟩),
(74, ⟨[.ro t7, .ro t7], 1, t13, .sh, [0, 1, 2, 3, 4, 10], [(3, 0), (2, 0)]⟩),
(27, ⟨[.ro (.sl t7), .ro (.sl t7)], 1, t13, .sh, [0, 1, 4, 5, 10, 14, 26], [(2, 0), (8, 0), (7, 0)]⟩),
(51, ⟨[.ro t8, .ro t8], 1, t13, .sh, [0, 1, 4, 5, 10, 14, 26], [(2, 0), (8, 0), (7, 0)]⟩),
(14, ⟨[.ro t0, .ro t0], 1, t13, .sh, [0, 1, 4, 5, 10, 14, 25], [(2, 0), (8, 0), (7, 0)]⟩),
(88, ⟨[.ro t9, .ro t9], 1, t13, .sh, [0, 1, 2, 3, 4, 9, 15], [(2, 0), (5, 0), (4, 0)]⟩),
(37, ⟨[.ro (.sl t9), .ro (.sl t9)], 1, t13, .sh, [0, 1, 4, 5, 10, 14, 26], [(2, 0), (8, 0), (7, 0)]⟩),
(13, ⟨[.ro t10, .ro t10], 1, t13, .sh, [0, 1, 2, 3, 4, 10, 16, 22, 28, 34, 39], [(2, 0), (4, 0), (6, 0), (8, 0), (10, 0), (13, 0), (12, 0)]⟩),
(15, ⟨[.io t0 (.own .sh) (.own .sh) 0 [], .ro (.int .i64)], 1, t9, (.pr .sh (.pr (.own .sh) .sh)), [0, 1, 4, 5, 9], [(6, 1)]⟩),
(193, ⟨[.ro (.int .i64)], 1, t15, .sh, [0, 2, 3, 5, 7], [(2, 0), (7, 2)]⟩),
(117, ⟨[.io (.sl .str) (.own .sh) (.own .sh) 0 [], .ro (.int .i64)], 1, t52, (.pr .sh (.pr (.own .sh) .sh)), [0, 1, 4, 5, 9], [(6, 1)]⟩),
(118, ⟨[.io (.sl t2) (.own .sh) (.own .sh) 0 [], .ro (.int .i64)], 1, t53, (.pr .sh (.pr (.own .sh) .sh)), [0, 1, 4, 5, 9], [(8, 1)]⟩),
(52, ⟨[.io t3 (.pr (.own .sh) (.pr (.own .sh) .sh)) (.pr (.own .sh) (.pr (.own .sh) .sh)) 2 [.der], .ro (.int .i64)], 1, t54, (.pr .sh (.pr (.pr (.own .sh) (.pr (.own .sh) .sh)) .sh)), [0, 1, 2, 4], [(3, 1)]⟩),
(28, ⟨[.io t4 (.pr .sh (.pr .sh (.pr (.pr (.own .sh) (.pr (.own .sh) .sh)) .sh))) (.pr .sh (.pr .sh (.pr (.pr (.own .sh) (.pr (.own .sh) .sh)) .sh))) 2 [.der], .ro (.int .i64)], 1, t55, (.pr .sh (.pr (.pr .sh (.pr .sh (.pr (.pr (.own .sh) (.pr (.own .sh) .sh)) .sh))) .sh)), [0, 1, 2, 4], [(2, 1)]⟩),
(53, ⟨[.io (.sl t5) (.own .sh) (.own .sh) 0 [], .ro (.int .i64)], 1, t56, (.pr .sh (.pr (.own .sh) .sh)), [0, 1, 4, 5, 9], [(8, 1)]⟩),
(75, ⟨[.io (.sl t6) (.own .sh) (.own .sh) 0 [], .ro (.int .i64)], 1, t57, (.pr .sh (.pr (.own .sh) .sh)), [0, 1, 4, 5, 9], [(10, 1)]⟩),
(29, ⟨[.io (.sl t7) (.own (.pr (.own .sh) .sh)) (.own (.pr (.own .sh) .sh)) 0 [], .ro (.int .i64)], 1, t58, (.pr .sh (.pr (.own (.pr (.own .sh) .sh)) .sh)), [0, 1, 4, 5, 9], [(5, 1)]⟩),
(54, ⟨[.io t8 (.own (.own (.pr (.own .sh) .sh))) (.own (.own (.pr (.own .sh) .sh))) 0 [], .ro (.int .i64)], 1, t59, (.pr .sh (.pr (.own (.own (.pr (.own .sh) .sh))) .sh)), [0, 1, 4, 5, 9], [(5, 1)]⟩),
(38, ⟨[.io (.sl t9) (.own (.pr .sh (.pr (.own .sh) .sh))) (.own (.pr .sh (.pr (.own .sh) .sh))) 0 [], .ro (.int .i64)], 1, t60, (.pr .sh (.pr (.own (.pr .sh (.pr (.own .sh) .sh))) .sh)), [0, 1, 4, 5, 9], [(7, 1)]⟩),
(16, ⟨[.io t10 (.pr (.pr .sh (.pr .sh (.pr (.pr (.own .sh) (.pr (.own .sh) .sh)) .sh))) (.pr (.pr (.own .sh) (.pr (.own .sh) .sh)) (.pr (.own .sh) (.pr (.own (.own (.pr (.own .sh) .sh))) (.pr (.own (.pr .sh (.pr (.own .sh) .sh))) .sh))))) (.pr (.pr .sh (.pr .sh (.pr (.pr (.own .sh) (.pr (.own .sh) .sh)) .sh))) (.pr (.pr (.own .sh) (.pr (.own .sh) .sh)) (.pr (.own .sh) (.pr (.own (.own (.pr (.own .sh) .sh))) (.pr (.own (.pr .sh (.pr (.own .sh) .sh))) .sh))))) 2 [.der], .ro (.int .i64)], 1, t61, (.pr .sh (.pr (.pr (.pr .sh (.pr .sh (.pr (.pr (.own .sh) (.pr (.own .sh) .sh)) .sh))) (.pr (.pr (.own .sh) (.pr (.own .sh) .sh)) (.pr (.own .sh) (.pr (.own (.own (.pr (.own .sh) .sh))) (.pr (.own (.pr .sh (.pr (.own .sh) .sh))) .sh))))) .sh)), [0, 1, 2, 4], [(6, 1)]⟩),
(119, ⟨[.ro (.sl .str), .ro (.int .i64)], 1, t25, .sh, [0, 1, 4, 5, 9, 18], [(7, 1), (5, 0)]⟩),
(120, ⟨[.ro (.sl t2), .ro (.int .i64)], 1, t25, .sh, [0, 1, 4, 5, 9, 18, 28], [(10, 1), (5, 0), (8, 0)]⟩),
(55, ⟨[.ro t3, .ro (.int .i64)], 1, t25, .sh, [0, 1, 2, 4, 10, 16], [(3, 0), (7, 1), (6, 0)]⟩),
(30, ⟨[.ro t4, .ro (.int .i64)], 1, t25, .sh, [0, 1, 2, 4, 10], [(4, 1), (3, 0)]⟩),
(56, ⟨[.ro (.sl t5), .ro (.int .i64)], 1, t25, .sh, [0, 1, 4, 5, 9, 18, 27], [(10, 1), (5, 0), (8, 0)]⟩),
(194, ⟨[.ro (.sl t6), .ro (.int .i64)], 1, t25, .sh, [0, 1, 4, 5, 9, 18, 27, 36], [(13, 1), (5, 0), (8, 0), (11, 0)]⟩),
(121, ⟨[.ro (.sl t7), .ro (.int .i64)], 1, t25, .sh, [0, 1, 4, 5, 9, 20], [(7, 1), (6, 0)]⟩),
(57, ⟨[.ro t8, .ro (.int .i64)], 1, t25, .sh, [0, 1, 4, 5, 9, 19], [(7, 1), (6, 0)]⟩),
(89, ⟨[.ro t0, .ro (.int .i64)], 1, t25, .sh, [0, 1, 4, 5, 9, 17], [(7, 1), (5, 0)]⟩),
(39, ⟨[.ro (.sl t9), .ro (.int .i64)], 1, t25, .sh, [0, 1, 4, 5, 9, 18, 29], [(10, 1), (5, 0), (9, 0)]⟩),
(17, ⟨[.ro t10, .ro (.int .i64)], 1, t25, .sh, [0, 1, 2, 4, 10, 16, 22, 28, 34], [(3, 0), (6, 0), (9, 0), (12, 0), (16, 1), (15, 0)]⟩)]
noncomputable def EE : Env := ⟨Go.Proofs.Tryz.prog, lookC cfgs⟩
variable (R : Run EE) (L : Loops)
noncomputable def c_spec_l14New (x0 : List UInt8) (x1 : List Int) : Option d71 := R 46 [⟨.str, x0⟩, ⟨t0, x1⟩]
noncomputable def c_spec_l14Own (x0 : d70) : Option d71 := R 45 [⟨t10, x0⟩]
noncomputable def c_impl_NewWorld (x0 : List UInt8) (x1 : List Int) : Option d72 := R 12 [⟨.str, x0⟩, ⟨t0, x1⟩]
noncomputable def c_laws_FnExactNewWorld (x0 : List UInt8) (x1 : List Int) : Option d73 := R 3 [⟨.str, x0⟩, ⟨t0, x1⟩]
noncomputable def c_slices_Clone___int_int_ (x0 : List Int) : Option d74 := R 210 [⟨t0, x0⟩]
noncomputable def c_impl_intsText (x0 : List Int) : Option d75 := R 275 [⟨t0, x0⟩]
noncomputable def c_impl_textOf (x0 : List Int) (x1 : Int) : Option d75 := R 211 [⟨t0, x0⟩, ⟨(.int .i64), x1⟩]
noncomputable def c_impl_blocksInts (x0 : List d67) : Option d74 := R 256 [⟨(.sl t6), x0⟩]
noncomputable def c_impl_stateText (x0 : d77) (x1 : List d69) : Option d75 := R 188 [⟨t18, x0⟩, ⟨(.sl t9), x1⟩]
noncomputable def c_impl_bucketText (x0 : List d67) : Option d75 := R 189 [⟨(.sl t6), x0⟩]
noncomputable def c_spec_l02Bytes (x0 : List Int) (x1 : Int) : Option d74 := R 263 [⟨t19, x0⟩, ⟨(.int .i64), x1⟩]
noncomputable def c_spec_l06Ints (x0 : List Int) : Option d75 := R 197 [⟨t0, x0⟩]
noncomputable def c_spec_l12Fill (x0 : List Int) (x1 : Int) : Option d75 := R 266 [⟨t0, x0⟩, ⟨(.int .i64), x1⟩]
noncomputable def c_spec_l12State (x0 : d77) (x1 : List d69) : Option d75 := R 246 [⟨t18, x0⟩, ⟨(.sl t9), x1⟩]
noncomputable def c_spec_l12Bucket (x0 : List d67) : Option d75 := R 247 [⟨(.sl t6), x0⟩]
noncomputable def c_spec_l01Start : Option d74 := R 305 []
noncomputable def c_spec_NewHash : Option d79 := R 250 []
noncomputable def c_spec_l01Word (x0 : List UInt8) (x1 : Int) : Option d80 := R 341 [⟨.str, x0⟩, ⟨(.int .i64), x1⟩]
noncomputable def c_spec_l01Right (x0 x1 : Int) : Option d80 := R 342 [⟨(.int .i64), x0⟩, ⟨(.int .i64), x1⟩]
noncomputable def c_spec_l01Table : Option d74 := R 343 []
noncomputable def c_spec_l01Block (x0 : List Int) (x1 : List UInt8) : Option d74 := R 304 [⟨t21, x0⟩, ⟨.str, x1⟩]
noncomputable def c_spec_l01More (x0 : d78) (x1 : List UInt8) : Option d79 := R 249 [⟨t23, x0⟩, ⟨.str, x1⟩]
noncomputable def c_spec_l01Sum (x0 : d78) : Option d75 := R 248 [⟨t23, x0⟩]
noncomputable def c_spec_l01Of (x0 : List UInt8) : Option d75 := R 181 [⟨.str, x0⟩]
noncomputable def c_impl_NewHash : Option d79 := R 257 []
noncomputable def c_impl_constants : Option d74 := R 309 []
noncomputable def c_math_bits_RotateLeft32 (x0 x1 : Int) : Option d80 := R 367 [⟨(.int .u32), x0⟩, ⟨(.int .i64), x1⟩]
noncomputable def c_impl_turned (x0 x1 : Int) : Option d80 := R 344 [⟨(.int .u32), x0⟩, ⟨(.int .i64), x1⟩]
noncomputable def c_pimpl_Hash_block (x0 : d78) (x1 : List UInt8) (x2 : List Int) : Option d79 := R 310 [⟨(.ptr t23), x0⟩, ⟨.str, x1⟩, ⟨(.ptr t28), x2⟩]
noncomputable def c_impl_Hash_more (x0 : d78) (x1 : List UInt8) : Option d79 := R 258 [⟨t23, x0⟩, ⟨.str, x1⟩]
noncomputable def c_strings_Repeat (x0 : List UInt8) (x1 : Int) : Option d75 := R 311 [⟨.str, x0⟩, ⟨(.int .i64), x1⟩]
noncomputable def c_impl_Hash_sum (x0 : d78) : Option d75 := R 259 [⟨t23, x0⟩]
noncomputable def c_impl_digest (x0 : List UInt8) : Option d75 := R 190 [⟨.str, x0⟩]
noncomputable def c_impl_little (x0 x1 : Int) : Option d75 := R 139 [⟨(.int .i64), x0⟩, ⟨(.int .i64), x1⟩]
noncomputable def c_impl_littleWord (x0 : List UInt8) : Option d80 := R 332 [⟨.str, x0⟩]
noncomputable def c_impl_quarter (x0 x1 x2 x3 : Int) : Option d81 := R 354 [⟨(.int .u32), x0⟩, ⟨(.int .u32), x1⟩, ⟨(.int .u32), x2⟩, ⟨(.int .u32), x3⟩]
noncomputable def c_impl_stream (x0 x1 : List UInt8) (x2 : Int) : Option d75 := R 322 [⟨.str, x0⟩, ⟨.str, x1⟩, ⟨(.int .i64), x2⟩]
noncomputable def c_spec_l02Word (x0 : List UInt8) (x1 : Int) : Option d80 := R 361 [⟨.str, x0⟩, ⟨(.int .i64), x1⟩]
noncomputable def c_spec_l02Left (x0 x1 : Int) : Option d80 := R 382 [⟨(.int .i64), x0⟩, ⟨(.int .i64), x1⟩]
noncomputable def c_spec_l02Quarter (x0 x1 x2 x3 : Int) : Option d74 := R 381 [⟨(.int .i64), x0⟩, ⟨(.int .i64), x1⟩, ⟨(.int .i64), x2⟩, ⟨(.int .i64), x3⟩]
noncomputable def c_spec_l02Round (x0 : List Int) (x1 x2 x3 x4 : Int) : Option d74 := R 372 [⟨t35, x0⟩, ⟨(.int .i64), x1⟩, ⟨(.int .i64), x2⟩, ⟨(.int .i64), x3⟩, ⟨(.int .i64), x4⟩]
noncomputable def c_spec_l02Block (x0 x1 : List UInt8) (x2 : Int) : Option d75 := R 349 [⟨.str, x0⟩, ⟨.str, x1⟩, ⟨(.int .i64), x2⟩]
noncomputable def c_impl_xor (x0 x1 : List UInt8) : Option d75 := R 321 [⟨.str, x0⟩, ⟨.str, x1⟩]
noncomputable def c_spec_l02Xor (x0 x1 : List UInt8) (x2 : Int) (x3 : List UInt8) : Option d75 := R 313 [⟨.str, x0⟩, ⟨.str, x1⟩, ⟨(.int .i64), x2⟩, ⟨.str, x3⟩]
noncomputable def c_laws_toIntS (x0 : List Int) : Option d74 := R 11 [⟨t0, x0⟩]
noncomputable def c_spec_l01In (x0 x1 x2 : Int) : Option d73 := R 102 [⟨(.int .i64), x0⟩, ⟨(.int .i64), x1⟩, ⟨(.int .i64), x2⟩]
noncomputable def c_spec_l08Leaves (x0 : List Int) : Option d73 := R 44 [⟨t0, x0⟩]
noncomputable def c_spec_l08New (x0 : List Int) : Option d82 := R 278 [⟨t0, x0⟩]
noncomputable def c_spec_NewOram (x0 : List Int) : Option d83 := R 245 [⟨t0, x0⟩]
noncomputable def c_spec_NewEnc (x0 : List Int) : Option d84 := R 179 [⟨t0, x0⟩]
noncomputable def c_spec_l04Eight (x0 : Int) : Option d75 := R 312 [⟨(.int .i64), x0⟩]
noncomputable def c_spec_l06Nonce (x0 x1 x2 : Int) : Option d75 := R 264 [⟨(.int .i64), x0⟩, ⟨(.int .i64), x1⟩, ⟨(.int .i64), x2⟩]
noncomputable def c_spec_l04Pad (x0 : List UInt8) : Option d75 := R 351 [⟨.str, x0⟩]
noncomputable def c_spec_l03Clamp (x0 : List UInt8) : Option d75 := R 374 [⟨.str, x0⟩]
noncomputable def c_spec_l03Parts (x0 : List UInt8) : Option d74 := R 373 [⟨.str, x0⟩]
noncomputable def c_spec_l03Carry (x0 : List Int) : Option d74 := R 377 [⟨t40, x0⟩]
noncomputable def c_spec_l03Times (x0 x1 : List Int) : Option d74 := R 375 [⟨t40, x0⟩, ⟨t40, x1⟩]
noncomputable def c_spec_l03Less (x0 : List Int) : Option d74 := R 376 [⟨t40, x0⟩]
noncomputable def c_spec_l03Tag (x0 x1 : List UInt8) : Option d75 := R 350 [⟨.str, x0⟩, ⟨.str, x1⟩]
noncomputable def c_spec_l04Tag (x0 x1 x2 x3 : List UInt8) : Option d75 := R 314 [⟨.str, x0⟩, ⟨.str, x1⟩, ⟨.str, x2⟩, ⟨.str, x3⟩]
noncomputable def c_spec_l04Seal (x0 x1 x2 x3 : List UInt8) : Option d75 := R 265 [⟨.str, x0⟩, ⟨.str, x1⟩, ⟨.str, x2⟩, ⟨.str, x3⟩]
noncomputable def c_spec_l06Seal (x0 : List UInt8) (x1 x2 x3 : Int) (x4 : List UInt8) : Option d75 := R 198 [⟨.str, x0⟩, ⟨(.int .i64), x1⟩, ⟨(.int .i64), x2⟩, ⟨(.int .i64), x3⟩, ⟨.str, x4⟩]
noncomputable def c_spec_l13Side (x0 : List UInt8) (x1 x2 : Int) (x3 : d77) (x4 : List d69) : Option d85 := R 180 [⟨.str, x0⟩, ⟨(.int .i64), x1⟩, ⟨(.int .i64), x2⟩, ⟨t18, x3⟩, ⟨(.sl t9), x4⟩]
noncomputable def c_spec_l07Leaf (x0 : Int) (x1 : List UInt8) : Option d75 := R 306 [⟨(.int .i64), x0⟩, ⟨.str, x1⟩]
noncomputable def c_spec_l07Leaves (x0 : List (List UInt8)) : Option d85 := R 251 [⟨(.sl .str), x0⟩]
noncomputable def c_spec_l07Join (x0 x1 : List UInt8) : Option d75 := R 307 [⟨.str, x0⟩, ⟨.str, x1⟩]
noncomputable def c_spec_l07Level (x0 : List (List UInt8)) : Option d85 := R 252 [⟨(.sl .str), x0⟩]
noncomputable def c_spec_l07Root (x0 : List (List UInt8)) : Option d75 := R 182 [⟨(.sl .str), x0⟩]
noncomputable def c_spec_NewDevice : Option d86 := R 184 []
noncomputable def c_spec_l05Write (x0 : d64) (x1 : Int) (x2 : List UInt8) : Option d86 := R 201 [⟨t3, x0⟩, ⟨(.int .i64), x1⟩, ⟨.str, x2⟩]
noncomputable def c_spec_l13Lay (x0 : d64) (x1 : Int) (x2 : List (List UInt8)) : Option d86 := R 183 [⟨t3, x0⟩, ⟨(.int .i64), x1⟩, ⟨(.sl .str), x2⟩]
noncomputable def c_spec_l05Sync (x0 : d64) : Option d86 := R 130 [⟨t3, x0⟩]
noncomputable def c_spec_l13Init (x0 : List UInt8) (x1 : List Int) : Option d87 := R 105 [⟨.str, x0⟩, ⟨t0, x1⟩]
noncomputable def c_spec_l05Own (x0 : d64) : Option d86 := R 103 [⟨t3, x0⟩]
noncomputable def c_spec_l13Own (x0 : d65) : Option d87 := R 65 [⟨t4, x0⟩]
noncomputable def c_spec_l09Own (x0 : List d68) : Option d88 := R 104 [⟨(.sl t7), x0⟩]
noncomputable def c_spec_NewWorld (x0 : List UInt8) (x1 : List Int) : Option d72 := R 10 [⟨.str, x0⟩, ⟨t0, x1⟩]
noncomputable def c_impl_areAll_string__1 (x0 : List UInt8) (x1 : FnVal) : Option d73 := R 254 [⟨.str, x0⟩, ⟨(.ptr .fn), x1⟩]
noncomputable def c_slices_IndexFunc___string_string_ (x0 : List (List UInt8)) (x1 : FnVal) : Option d80 := R 308 [⟨(.sl .str), x0⟩, ⟨.fn, x1⟩]
noncomputable def c_slices_ContainsFunc___string_string_ (x0 : List (List UInt8)) (x1 : FnVal) : Option d73 := R 253 [⟨(.sl .str), x0⟩, ⟨.fn, x1⟩]
noncomputable def c_impl_areAll_string_ (x0 : List (List UInt8)) (x1 : FnVal) : Option d73 := R 185 [⟨(.sl .str), x0⟩, ⟨.fn, x1⟩]
noncomputable def c_impl_areShort_1 (x0 : List UInt8) : Option d73 := R 186 [⟨.str, x0⟩]
noncomputable def c_impl_areShort (x0 : List (List UInt8)) : Option d73 := R 106 [⟨(.sl .str), x0⟩]
noncomputable def c_impl_areAll_int__1 (x0 : Int) (x1 : FnVal) : Option d73 := R 268 [⟨(.int .i64), x0⟩, ⟨(.ptr .fn), x1⟩]
noncomputable def c_slices_IndexFunc___int_int_ (x0 : List Int) (x1 : FnVal) : Option d80 := R 315 [⟨t0, x0⟩, ⟨.fn, x1⟩]
noncomputable def c_slices_ContainsFunc___int_int_ (x0 : List Int) (x1 : FnVal) : Option d73 := R 267 [⟨t0, x0⟩, ⟨.fn, x1⟩]
noncomputable def c_impl_areAll_int_ (x0 : List Int) (x1 : FnVal) : Option d73 := R 204 [⟨t0, x0⟩, ⟨.fn, x1⟩]
noncomputable def c_impl_within (x0 x1 x2 : Int) : Option d73 := R 149 [⟨(.int .i64), x0⟩, ⟨(.int .i64), x1⟩, ⟨(.int .i64), x2⟩]
noncomputable def c_impl_isLeaf (x0 : Int) : Option d73 := R 205 [⟨(.int .i64), x0⟩]
noncomputable def c_impl_leavesOf (x0 : List Int) : Option d80 := R 255 [⟨t0, x0⟩]
noncomputable def c_impl_NewOram (x0 : List Int) : Option d83 := R 187 [⟨t0, x0⟩]
noncomputable def c_impl_NewEnc (x0 : List Int) : Option d84 := R 107 [⟨t0, x0⟩]
noncomputable def c_impl_NewDevice : Option d86 := R 108 []
noncomputable def c_impl_nonceOf (x0 x1 x2 : Int) : Option d75 := R 209 [⟨(.int .i64), x0⟩, ⟨(.int .i64), x1⟩, ⟨(.int .i64), x2⟩]
noncomputable def c_impl_chaXor (x0 x1 : List UInt8) (x2 : Int) (x3 : List UInt8) : Option d75 := R 273 [⟨.str, x0⟩, ⟨.str, x1⟩, ⟨(.int .i64), x2⟩, ⟨.str, x3⟩]
noncomputable def c_impl_padded (x0 : List UInt8) : Option d75 := R 325 [⟨.str, x0⟩]
noncomputable def c_impl_clamped (x0 : List UInt8) : Option d75 := R 356 [⟨.str, x0⟩]
noncomputable def c_impl_limbsOf (x0 : List UInt8) : Option d74 := R 355 [⟨.str, x0⟩]
noncomputable def c_impl_limbs_carried (x0 : List Int) : Option d74 := R 379 [⟨t46, x0⟩]
noncomputable def c_impl_limbs_plus (x0 x1 : List Int) : Option d74 := R 357 [⟨t46, x0⟩, ⟨t46, x1⟩]
noncomputable def c_impl_limbs_times (x0 x1 : List Int) : Option d74 := R 358 [⟨t46, x0⟩, ⟨t46, x1⟩]
noncomputable def c_impl_limbs_reduced (x0 : List Int) : Option d74 := R 359 [⟨t46, x0⟩]
noncomputable def c_impl_limbs_bytes (x0 : List Int) (x1 : List UInt8) : Option d75 := R 360 [⟨t46, x0⟩, ⟨.str, x1⟩]
noncomputable def c_impl_tag (x0 x1 : List UInt8) : Option d75 := R 324 [⟨.str, x0⟩, ⟨.str, x1⟩]
noncomputable def c_impl_boxTag (x0 x1 x2 x3 : List UInt8) : Option d75 := R 274 [⟨.str, x0⟩, ⟨.str, x1⟩, ⟨.str, x2⟩, ⟨.str, x3⟩]
noncomputable def c_impl_seal (x0 x1 x2 x3 : List UInt8) : Option d75 := R 208 [⟨.str, x0⟩, ⟨.str, x1⟩, ⟨.str, x2⟩, ⟨.str, x3⟩]
noncomputable def c_impl_sealed (x0 : List UInt8) (x1 x2 x3 : Int) (x4 : List UInt8) : Option d75 := R 140 [⟨.str, x0⟩, ⟨(.int .i64), x1⟩, ⟨(.int .i64), x2⟩, ⟨(.int .i64), x3⟩, ⟨.str, x4⟩]
noncomputable def c_impl_sideSectors (x0 : List UInt8) (x1 : Int) (x2 : d77) (x3 : List d69) (x4 : Int) : Option d85 := R 109 [⟨.str, x0⟩, ⟨(.int .i64), x1⟩, ⟨t18, x2⟩, ⟨(.sl t9), x3⟩, ⟨(.int .i64), x4⟩]
noncomputable def c_impl_firstTip : Option d75 := R 110 []
noncomputable def c_impl_leafDigest (x0 : Int) (x1 : List UInt8) : Option d75 := R 260 [⟨(.int .i64), x0⟩, ⟨.str, x1⟩]
noncomputable def c_impl_join (x0 x1 : List UInt8) : Option d75 := R 261 [⟨.str, x0⟩, ⟨.str, x1⟩]
noncomputable def c_impl_tree (x0 : List (List UInt8)) : Option d89 := R 191 [⟨(.sl .str), x0⟩]
noncomputable def c_impl_root (x0 : List (List UInt8)) : Option d75 := R 111 [⟨(.sl .str), x0⟩]
noncomputable def c_impl_Init (x0 : List UInt8) (x1 : List Int) : Option d90 := R 47 [⟨.str, x0⟩, ⟨t0, x1⟩]
noncomputable def c_slices_Clone___string_string_ (x0 : List (List UInt8)) : Option d85 := R 112 [⟨(.sl .str), x0⟩]
noncomputable def c_slices_Clone___impl_Io_impl_Io_ (x0 : List d63) : Option d91 := R 113 [⟨(.sl t2), x0⟩]
noncomputable def c_impl_Device_own (x0 : d64) : Option d86 := R 48 [⟨t3, x0⟩]
noncomputable def c_laws_eqRegister (x0 x1 : d62) : Option d73 := R 73 [⟨t1, x0⟩, ⟨t1, x1⟩]
noncomputable def c_laws_eqStringS (x0 x1 : List (List UInt8)) : Option d73 := R 114 [⟨(.sl .str), x0⟩, ⟨(.sl .str), x1⟩]
noncomputable def c_laws_eqIo (x0 x1 : d63) : Option d73 := R 192 [⟨t2, x0⟩, ⟨t2, x1⟩]
noncomputable def c_laws_eqIoS (x0 x1 : List d63) : Option d73 := R 115 [⟨(.sl t2), x0⟩, ⟨(.sl t2), x1⟩]
noncomputable def c_laws_eqDevice (x0 x1 : d64) : Option d73 := R 49 [⟨t3, x0⟩, ⟨t3, x1⟩]
noncomputable def c_laws_eqStore (x0 x1 : d65) : Option d73 := R 26 [⟨t4, x0⟩, ⟨t4, x1⟩]
noncomputable def c_laws_eqEntry (x0 x1 : d66) : Option d73 := R 116 [⟨t5, x0⟩, ⟨t5, x1⟩]
noncomputable def c_laws_eqEntryS (x0 x1 : List d66) : Option d73 := R 50 [⟨(.sl t5), x0⟩, ⟨(.sl t5), x1⟩]
noncomputable def c_laws_eqOp (x0 x1 : d67) : Option d73 := R 212 [⟨t6, x0⟩, ⟨t6, x1⟩]
noncomputable def c_laws_eqOpS (x0 x1 : List d67) : Option d73 := R 146 [⟨(.sl t6), x0⟩, ⟨(.sl t6), x1⟩]
noncomputable def c_laws_eqTxn (x0 x1 : d68) : Option d73 := R 74 [⟨t7, x0⟩, ⟨t7, x1⟩]
noncomputable def c_laws_eqTxnS (x0 x1 : List d68) : Option d73 := R 27 [⟨(.sl t7), x0⟩, ⟨(.sl t7), x1⟩]
noncomputable def c_laws_eqTxnSS (x0 x1 : List (List d68)) : Option d73 := R 51 [⟨t8, x0⟩, ⟨t8, x1⟩]
noncomputable def c_laws_eqIntS (x0 x1 : List Int) : Option d73 := R 14 [⟨t0, x0⟩, ⟨t0, x1⟩]
noncomputable def c_laws_eqResult (x0 x1 : d69) : Option d73 := R 88 [⟨t9, x0⟩, ⟨t9, x1⟩]
noncomputable def c_laws_eqResultS (x0 x1 : List d69) : Option d73 := R 37 [⟨(.sl t9), x0⟩, ⟨(.sl t9), x1⟩]
noncomputable def c_laws_eqWorld (x0 x1 : d70) : Option d73 := R 13 [⟨t10, x0⟩, ⟨t10, x1⟩]
noncomputable def c_laws_markIntS (x0 : List Int) (x1 : Int) : Option d69 := R 15 [⟨t0, x0⟩, ⟨(.int .i64), x1⟩]
noncomputable def c_laws_markText (x0 : Int) : Option d75 := R 193 [⟨(.int .i64), x0⟩]
noncomputable def c_laws_markStringS (x0 : List (List UInt8)) (x1 : Int) : Option d92 := R 117 [⟨(.sl .str), x0⟩, ⟨(.int .i64), x1⟩]
noncomputable def c_laws_markIoS (x0 : List d63) (x1 : Int) : Option d93 := R 118 [⟨(.sl t2), x0⟩, ⟨(.int .i64), x1⟩]
noncomputable def c_laws_markDevice (x0 : d64) (x1 : Int) : Option d94 := R 52 [⟨t3, x0⟩, ⟨(.int .i64), x1⟩]
noncomputable def c_laws_markStore (x0 : d65) (x1 : Int) : Option d95 := R 28 [⟨t4, x0⟩, ⟨(.int .i64), x1⟩]
noncomputable def c_laws_markEntryS (x0 : List d66) (x1 : Int) : Option d96 := R 53 [⟨(.sl t5), x0⟩, ⟨(.int .i64), x1⟩]
noncomputable def c_laws_markOpS (x0 : List d67) (x1 : Int) : Option d97 := R 75 [⟨(.sl t6), x0⟩, ⟨(.int .i64), x1⟩]
noncomputable def c_laws_markTxnS (x0 : List d68) (x1 : Int) : Option d98 := R 29 [⟨(.sl t7), x0⟩, ⟨(.int .i64), x1⟩]
noncomputable def c_laws_markTxnSS (x0 : List (List d68)) (x1 : Int) : Option d99 := R 54 [⟨t8, x0⟩, ⟨(.int .i64), x1⟩]
noncomputable def c_laws_markResultS (x0 : List d69) (x1 : Int) : Option d100 := R 38 [⟨(.sl t9), x0⟩, ⟨(.int .i64), x1⟩]
noncomputable def c_laws_markWorld (x0 : d70) (x1 : Int) : Option d101 := R 16 [⟨t10, x0⟩, ⟨(.int .i64), x1⟩]
noncomputable def c_laws_heldStringS (x0 : List (List UInt8)) (x1 : Int) : Option d80 := R 119 [⟨(.sl .str), x0⟩, ⟨(.int .i64), x1⟩]
noncomputable def c_laws_heldIoS (x0 : List d63) (x1 : Int) : Option d80 := R 120 [⟨(.sl t2), x0⟩, ⟨(.int .i64), x1⟩]
noncomputable def c_laws_heldDevice (x0 : d64) (x1 : Int) : Option d80 := R 55 [⟨t3, x0⟩, ⟨(.int .i64), x1⟩]
noncomputable def c_laws_heldStore (x0 : d65) (x1 : Int) : Option d80 := R 30 [⟨t4, x0⟩, ⟨(.int .i64), x1⟩]
noncomputable def c_laws_heldEntryS (x0 : List d66) (x1 : Int) : Option d80 := R 56 [⟨(.sl t5), x0⟩, ⟨(.int .i64), x1⟩]
noncomputable def c_laws_heldOpS (x0 : List d67) (x1 : Int) : Option d80 := R 194 [⟨(.sl t6), x0⟩, ⟨(.int .i64), x1⟩]
noncomputable def c_laws_heldTxnS (x0 : List d68) (x1 : Int) : Option d80 := R 121 [⟨(.sl t7), x0⟩, ⟨(.int .i64), x1⟩]
noncomputable def c_laws_heldTxnSS (x0 : List (List d68)) (x1 : Int) : Option d80 := R 57 [⟨t8, x0⟩, ⟨(.int .i64), x1⟩]
noncomputable def c_laws_heldIntS (x0 : List Int) (x1 : Int) : Option d80 := R 89 [⟨t0, x0⟩, ⟨(.int .i64), x1⟩]
noncomputable def c_laws_heldResultS (x0 : List d69) (x1 : Int) : Option d80 := R 39 [⟨(.sl t9), x0⟩, ⟨(.int .i64), x1⟩]
noncomputable def c_laws_heldWorld (x0 : d70) (x1 : Int) : Option d80 := R 17 [⟨t10, x0⟩, ⟨(.int .i64), x1⟩]
noncomputable def lp_spec_l14Own_0 (v1 v2 : d70) (v3 : List (List d68)) (v4 : Int) (p : List Nat := [1, 1, 1, 1, 1, 0, 1, 0]) : Option d71 := from_ EE R L 45 Go.Proofs.Tryz.f45 p (mk 68 [(1, .dat ⟨(.ptr t10), v1, (.own (.pr (.pr .sh (.pr .sh (.pr (.pr (.own .sh) (.pr (.own .sh) .sh)) .sh))) (.pr (.pr (.own .sh) (.pr (.own .sh) .sh)) (.pr (.own .sh) .sh))))⟩), (2, .dat ⟨(.ptr t10), v2, (.own (.pr (.pr .sh (.pr .sh (.pr (.pr (.own .sh) (.pr (.own .sh) .sh)) .sh))) (.pr (.pr (.own .sh) (.pr (.own .sh) .sh)) (.pr (.own .sh) (.pr (.own .sh) (.pr (.own .sh) .sh))))))⟩), (3, .dat ⟨t8, v3, (.own (.own .sh))⟩), (4, .dat ⟨(.int .i64), v4, .sh⟩)])
noncomputable def lp_spec_l14Own_1 (v1 v2 : d70) (v5 : List d69) (v6 : Int) (p : List Nat := [1, 1, 1, 1, 1, 1, 1, 1, 0, 1, 0]) : Option d71 := from_ EE R L 45 Go.Proofs.Tryz.f45 p (mk 68 [(1, .dat ⟨(.ptr t10), v1, (.own (.pr (.pr .sh (.pr .sh (.pr (.pr (.own .sh) (.pr (.own .sh) .sh)) .sh))) (.pr (.pr (.own .sh) (.pr (.own .sh) .sh)) (.pr (.own .sh) .sh))))⟩), (2, .dat ⟨(.ptr t10), v2, (.own (.pr (.pr .sh (.pr .sh (.pr (.pr (.own .sh) (.pr (.own .sh) .sh)) .sh))) (.pr (.pr (.own .sh) (.pr (.own .sh) .sh)) (.pr (.own .sh) (.pr (.own .sh) (.pr (.own .sh) .sh))))))⟩), (5, .dat ⟨(.sl t9), v5, (.own (.pr .sh (.pr (.own .sh) .sh)))⟩), (6, .dat ⟨(.int .i64), v6, .sh⟩)])
noncomputable def lp_impl_blocksInts_0 (v3 : List Int) (v9 : List d67) (v10 v11 : Int) (p : List Nat := [1, 1, 0, 1, 0]) : Option d74 := from_ EE R L 256 Go.Proofs.Tryz.f256 p (mk 26 [(3, .dat ⟨t0, v3, (.own .sh)⟩), (9, .dat ⟨(.sl t6), v9, .sh⟩), (10, .dat ⟨(.int .i64), v10, .sh⟩), (11, .dat ⟨(.int .i64), v11, .sh⟩)])
noncomputable def lp_impl_stateText_0 (v5 : List Int) (v26 : List d69) (v27 v28 : Int) (p : List Nat := [1, 1, 1, 1, 0, 1, 0]) : Option d75 := from_ EE R L 188 Go.Proofs.Tryz.f188 p (mk 46 [(5, .dat ⟨t0, v5, (.own .sh)⟩), (26, .dat ⟨(.sl t9), v26, .sh⟩), (27, .dat ⟨(.int .i64), v27, .sh⟩), (28, .dat ⟨(.int .i64), v28, .sh⟩)])
noncomputable def lp_spec_l06Ints_0 (v0 v3 : List Int) (v4 : Int) (p : List Nat := [1, 1, 0, 1, 0]) : Option d75 := from_ EE R L 197 Go.Proofs.Tryz.f197 p (mk 20 [(0, .dat ⟨t0, v0, .sh⟩), (3, .dat ⟨t19, v3, (.own .sh)⟩), (4, .dat ⟨(.int .i64), v4, .sh⟩)])
noncomputable def lp_spec_l12Fill_0 (v0 : List Int) (v1 : Int) (p : List Nat := [1, 0, 0]) : Option d75 := from_ EE R L 266 Go.Proofs.Tryz.f266 p (mk 14 [(0, .dat ⟨t0, v0, (.own .sh)⟩), (1, .dat ⟨(.int .i64), v1, .sh⟩)])
noncomputable def lp_spec_l12State_0 (v1 : List d69) (v2 : d77) (v5 : List Int) (v6 : Int) (p : List Nat := [1, 1, 1, 0, 1, 0]) : Option d75 := from_ EE R L 246 Go.Proofs.Tryz.f246 p (mk 90 [(1, .dat ⟨(.sl t9), v1, .sh⟩), (2, .dat ⟨(.ptr t18), v2, (.own .sh)⟩), (5, .dat ⟨t0, v5, (.own .sh)⟩), (6, .dat ⟨(.int .i64), v6, .sh⟩)])
noncomputable def lp_spec_l12State_1 (v1 : List d69) (v5 : List Int) (v7 : Int) (p : List Nat := [1, 1, 1, 1, 1, 1, 0, 1, 0]) : Option d75 := from_ EE R L 246 Go.Proofs.Tryz.f246 p (mk 90 [(1, .dat ⟨(.sl t9), v1, .sh⟩), (5, .dat ⟨t0, v5, (.own .sh)⟩), (7, .dat ⟨(.int .i64), v7, .sh⟩)])
noncomputable def lp_spec_l12Bucket_0 (v0 : List d67) (v3 : List Int) (v4 : Int) (p : List Nat := [1, 1, 0, 1, 0]) : Option d75 := from_ EE R L 247 Go.Proofs.Tryz.f247 p (mk 34 [(0, .dat ⟨(.sl t6), v0, .sh⟩), (3, .dat ⟨t0, v3, (.own .sh)⟩), (4, .dat ⟨(.int .i64), v4, .sh⟩)])
noncomputable def lp_spec_l01Block_0 (v1 : List UInt8) (v2 v4 v5 : List Int) (v6 : Int) (p : List Nat := [1, 1, 0, 1, 0]) : Option d74 := from_ EE R L 304 Go.Proofs.Tryz.f304 p (mk 194 [(1, .dat ⟨.str, v1, .sh⟩), (2, .dat ⟨(.ptr t21), v2, (.own .sh)⟩), (4, .dat ⟨(.ptr t21), v4, (.own .sh)⟩), (5, .dat ⟨(.ptr t26), v5, (.own .sh)⟩), (6, .dat ⟨(.int .i64), v6, .sh⟩)])
noncomputable def lp_spec_l01Block_1 (v2 v4 v5 : List Int) (v7 : Int) (p : List Nat := [1, 1, 1, 0, 1, 0]) : Option d74 := from_ EE R L 304 Go.Proofs.Tryz.f304 p (mk 194 [(2, .dat ⟨(.ptr t21), v2, (.own .sh)⟩), (4, .dat ⟨(.ptr t21), v4, (.own .sh)⟩), (5, .dat ⟨(.ptr t26), v5, (.own .sh)⟩), (7, .dat ⟨(.int .i64), v7, .sh⟩)])
noncomputable def lp_spec_l01Block_2 (v2 v4 v5 v10 v11 : List Int) (v12 : Int) (p : List Nat := [1, 1, 1, 1, 1, 1, 0, 1, 0]) : Option d74 := from_ EE R L 304 Go.Proofs.Tryz.f304 p (mk 194 [(2, .dat ⟨(.ptr t21), v2, (.own .sh)⟩), (4, .dat ⟨(.ptr t21), v4, (.own .sh)⟩), (5, .dat ⟨(.ptr t26), v5, (.own .sh)⟩), (10, .dat ⟨(.ptr t26), v10, (.own .sh)⟩), (11, .dat ⟨(.ptr t21), v11, (.own .sh)⟩), (12, .dat ⟨(.int .i64), v12, .sh⟩)])
noncomputable def lp_spec_l01Block_3 (v2 v4 v11 : List Int) (v18 : Int) (p : List Nat := [1, 1, 1, 1, 1, 1, 1, 0, 1, 0]) : Option d74 := from_ EE R L 304 Go.Proofs.Tryz.f304 p (mk 194 [(2, .dat ⟨(.ptr t21), v2, (.own .sh)⟩), (4, .dat ⟨(.ptr t21), v4, (.own .sh)⟩), (11, .dat ⟨(.ptr t21), v11, (.own .sh)⟩), (18, .dat ⟨(.int .i64), v18, .sh⟩)])
noncomputable def lp_spec_l01More_0 (v2 v4 : d78) (p : List Nat := [1, 1, 1, 0, 0]) : Option d79 := from_ EE R L 249 Go.Proofs.Tryz.f249 p (mk 31 [(2, .dat ⟨(.ptr t23), v2, (.own .sh)⟩), (4, .dat ⟨(.ptr t23), v4, (.own .sh)⟩)])
noncomputable def lp_spec_l01Sum_0 (v1 : d78) (v3 : Int) (v4 : List Int) (p : List Nat := [1, 1, 1, 0, 0]) : Option d75 := from_ EE R L 248 Go.Proofs.Tryz.f248 p (mk 61 [(1, .dat ⟨(.ptr t23), v1, (.own .sh)⟩), (3, .dat ⟨(.int .i64), v3, .sh⟩), (4, .dat ⟨t19, v4, (.own .sh)⟩)])
noncomputable def lp_spec_l01Sum_1 (v1 : d78) (v3 : Int) (v4 : List Int) (v5 : Int) (p : List Nat := [1, 1, 1, 1, 0, 1, 0]) : Option d75 := from_ EE R L 248 Go.Proofs.Tryz.f248 p (mk 61 [(1, .dat ⟨(.ptr t23), v1, (.own .sh)⟩), (3, .dat ⟨(.int .i64), v3, .sh⟩), (4, .dat ⟨t19, v4, (.own .sh)⟩), (5, .dat ⟨(.int .i64), v5, .sh⟩)])
noncomputable def lp_spec_l01Sum_2 (v1 : d78) (v6 : List Int) (v7 : Int) (p : List Nat := [1, 1, 1, 1, 1, 1, 1, 0, 1, 0]) : Option d75 := from_ EE R L 248 Go.Proofs.Tryz.f248 p (mk 61 [(1, .dat ⟨(.ptr t23), v1, (.own .sh)⟩), (6, .dat ⟨t19, v6, (.own .sh)⟩), (7, .dat ⟨(.int .i64), v7, .sh⟩)])
noncomputable def lp_spec_l01Sum_3 (v1 : d78) (v6 : List Int) (v7 v8 : Int) (p : List Nat := [1, 1, 1, 1, 1, 1, 1, 0, 1, 0, 0, 1, 0, 0, 1, 0]) : Option d75 := from_ EE R L 248 Go.Proofs.Tryz.f248 p (mk 61 [(1, .dat ⟨(.ptr t23), v1, (.own .sh)⟩), (6, .dat ⟨t19, v6, (.own .sh)⟩), (7, .dat ⟨(.int .i64), v7, .sh⟩), (8, .dat ⟨(.int .i64), v8, .sh⟩)])
noncomputable def lp_pimpl_Hash_block_0 (v0 : d78) (v1 : List UInt8) (v2 v6 : List Int) (v25 : Int) (p : List Nat := [1, 0, 1, 0]) : Option d79 := from_ EE R L 310 Go.Proofs.Tryz.f310 p (mk 215 [(0, .dat ⟨(.ptr t23), v0, (.pin 0 (.own .sh))⟩), (1, .dat ⟨.str, v1, .sh⟩), (2, .dat ⟨(.ptr t28), v2, .sh⟩), (6, .dat ⟨(.ptr t28), v6, (.own .sh)⟩), (25, .dat ⟨(.int .i64), v25, .sh⟩)])
noncomputable def lp_pimpl_Hash_block_1 (v0 : d78) (v2 v6 : List Int) (v8 : Int) (p : List Nat := [1, 1, 0, 1, 0]) : Option d79 := from_ EE R L 310 Go.Proofs.Tryz.f310 p (mk 215 [(0, .dat ⟨(.ptr t23), v0, (.pin 0 (.own .sh))⟩), (2, .dat ⟨(.ptr t28), v2, .sh⟩), (6, .dat ⟨(.ptr t28), v6, (.own .sh)⟩), (8, .dat ⟨(.int .i64), v8, .sh⟩)])
noncomputable def lp_pimpl_Hash_block_2 (v0 : d78) (v2 v6 v11 v104 : List Int) (v105 : Int) (p : List Nat := [1, 1, 1, 1, 0, 1, 0]) : Option d79 := from_ EE R L 310 Go.Proofs.Tryz.f310 p (mk 215 [(0, .dat ⟨(.ptr t23), v0, (.pin 0 (.own .sh))⟩), (2, .dat ⟨(.ptr t28), v2, .sh⟩), (6, .dat ⟨(.ptr t28), v6, (.own .sh)⟩), (11, .dat ⟨(.ptr t102), v11, (.own .sh)⟩), (104, .dat ⟨t21, v104, .sh⟩), (105, .dat ⟨(.int .i64), v105, .sh⟩)])
noncomputable def lp_pimpl_Hash_block_3 (v0 : d78) (v2 v6 v11 : List Int) (v114 : Int) (p : List Nat := [1, 1, 1, 1, 1, 0, 1, 0]) : Option d79 := from_ EE R L 310 Go.Proofs.Tryz.f310 p (mk 215 [(0, .dat ⟨(.ptr t23), v0, (.pin 0 (.own .sh))⟩), (2, .dat ⟨(.ptr t28), v2, .sh⟩), (6, .dat ⟨(.ptr t28), v6, (.own .sh)⟩), (11, .dat ⟨(.ptr t102), v11, (.own .sh)⟩), (114, .dat ⟨(.int .i64), v114, .sh⟩)])
noncomputable def lp_pimpl_Hash_block_4 (v0 : d78) (v194 : List Int) (v195 : Int) (p : List Nat := [1, 1, 1, 1, 1, 1, 1, 0]) : Option d79 := from_ EE R L 310 Go.Proofs.Tryz.f310 p (mk 215 [(0, .dat ⟨(.ptr t23), v0, (.pin 0 (.own .sh))⟩), (194, .dat ⟨t102, v194, .sh⟩), (195, .dat ⟨(.int .i64), v195, .sh⟩)])
noncomputable def lp_impl_Hash_more_0 (v1 : List UInt8) (v2 v4 : d78) (v5 : List Int) (p : List Nat := [1, 1, 1, 1, 0, 0]) : Option d79 := from_ EE R L 258 Go.Proofs.Tryz.f258 p (mk 28 [(1, .dat ⟨.str, v1, .sh⟩), (2, .dat ⟨(.ptr t23), v2, (.own .sh)⟩), (4, .dat ⟨(.ptr t23), v4, (.own .sh)⟩), (5, .dat ⟨(.ptr t28), v5, (.own .sh)⟩)])
noncomputable def lp_impl_Hash_sum_0 (v1 : d78) (v3 : Int) (v4 : List UInt8) (v5 : Int) (p : List Nat := [1, 1, 1, 0, 1, 0]) : Option d75 := from_ EE R L 259 Go.Proofs.Tryz.f259 p (mk 56 [(1, .dat ⟨(.ptr t23), v1, (.own .sh)⟩), (3, .dat ⟨(.int .i64), v3, .sh⟩), (4, .dat ⟨.str, v4, .sh⟩), (5, .dat ⟨(.int .i64), v5, .sh⟩)])
noncomputable def lp_impl_Hash_sum_1 (v6 v35 : List Int) (v36 : Int) (p : List Nat := [1, 1, 1, 1, 1, 0, 1, 0]) : Option d75 := from_ EE R L 259 Go.Proofs.Tryz.f259 p (mk 56 [(6, .dat ⟨t19, v6, (.own .sh)⟩), (35, .dat ⟨t21, v35, .sh⟩), (36, .dat ⟨(.int .i64), v36, .sh⟩)])
noncomputable def lp_impl_little_0 (v0 : Int) (v5 : List Int) (v7 v8 : Int) (p : List Nat := [1, 1, 0, 1, 0]) : Option d75 := from_ EE R L 139 Go.Proofs.Tryz.f139 p (mk 22 [(0, .dat ⟨(.int .i64), v0, .sh⟩), (5, .dat ⟨t19, v5, (.own .sh)⟩), (7, .dat ⟨(.int .i64), v7, .sh⟩), (8, .dat ⟨(.int .i64), v8, .sh⟩)])
noncomputable def lp_impl_quarter_0 (v0 v1 v2 v3 : Int) (v16 : List (List Int)) (v17 : Int) (p : List Nat := [1, 0, 1, 0]) : Option d81 := from_ EE R L 354 Go.Proofs.Tryz.f354 p (mk 43 [(0, .dat ⟨(.int .u32), v0, .sh⟩), (1, .dat ⟨(.int .u32), v1, .sh⟩), (2, .dat ⟨(.int .u32), v2, .sh⟩), (3, .dat ⟨(.int .u32), v3, .sh⟩), (16, .dat ⟨t104, v16, .sh⟩), (17, .dat ⟨(.int .i64), v17, .sh⟩)])
noncomputable def lp_impl_stream_0 (v7 : List UInt8) (v8 v9 : List Int) (v25 : Int) (p : List Nat := [1, 1, 1, 0, 1, 0]) : Option d75 := from_ EE R L 322 Go.Proofs.Tryz.f322 p (mk 111 [(7, .dat ⟨.str, v7, .sh⟩), (8, .dat ⟨(.ptr t105), v8, (.own .sh)⟩), (9, .dat ⟨(.ptr t105), v9, (.own .sh)⟩), (25, .dat ⟨(.int .i64), v25, .sh⟩)])
noncomputable def lp_impl_stream_1 (v8 v9 : List Int) (v41 : Int) (p : List Nat := [1, 1, 1, 1, 0, 1, 0]) : Option d75 := from_ EE R L 322 Go.Proofs.Tryz.f322 p (mk 111 [(8, .dat ⟨(.ptr t105), v8, (.own .sh)⟩), (9, .dat ⟨(.ptr t105), v9, (.own .sh)⟩), (41, .dat ⟨(.int .i64), v41, .sh⟩)])
noncomputable def lp_impl_stream_2 (v8 v9 : List Int) (v41 v43 : Int) (p : List Nat := [1, 1, 1, 1, 0, 1, 0, 0, 1, 1, 0, 0, 1, 0]) : Option d75 := from_ EE R L 322 Go.Proofs.Tryz.f322 p (mk 111 [(8, .dat ⟨(.ptr t105), v8, (.own .sh)⟩), (9, .dat ⟨(.ptr t105), v9, (.own .sh)⟩), (41, .dat ⟨(.int .i64), v41, .sh⟩), (43, .dat ⟨(.int .i64), v43, .sh⟩)])
noncomputable def lp_impl_stream_3 (v8 v9 : List Int) (v16 : List UInt8) (v95 : Int) (p : List Nat := [1, 1, 1, 1, 1, 1, 0, 1, 0]) : Option d75 := from_ EE R L 322 Go.Proofs.Tryz.f322 p (mk 111 [(8, .dat ⟨(.ptr t105), v8, (.own .sh)⟩), (9, .dat ⟨(.ptr t105), v9, (.own .sh)⟩), (16, .dat ⟨.str, v16, .sh⟩), (95, .dat ⟨(.int .i64), v95, .sh⟩)])
noncomputable def lp_impl_stream_4 (v8 v9 : List Int) (v11 v41 v43 v46 : Int) (p : List Nat := [1, 1, 1, 1, 0, 1, 0, 0, 1, 1, 0, 0, 1, 0, 0, 1, 1, 0, 0, 1, 1, 0]) : Option d75 := from_ EE R L 322 Go.Proofs.Tryz.f322 p (mk 111 [(8, .dat ⟨(.ptr t105), v8, (.own .sh)⟩), (9, .dat ⟨(.ptr t105), v9, (.own .sh)⟩), (11, .dat ⟨(.int .i64), v11, .sh⟩), (41, .dat ⟨(.int .i64), v41, .sh⟩), (43, .dat ⟨(.int .i64), v43, .sh⟩), (46, .dat ⟨(.int .i64), v46, .sh⟩)])
noncomputable def lp_spec_l02Block_0 (v0 v1 : List UInt8) (v2 : Int) (v7 : List Int) (v8 : Int) (p : List Nat := [1, 1, 0, 1, 0]) : Option d75 := from_ EE R L 349 Go.Proofs.Tryz.f349 p (mk 105 [(0, .dat ⟨.str, v0, .sh⟩), (1, .dat ⟨.str, v1, .sh⟩), (2, .dat ⟨(.int .i64), v2, .sh⟩), (7, .dat ⟨(.ptr t35), v7, (.own .sh)⟩), (8, .dat ⟨(.int .i64), v8, .sh⟩)])
noncomputable def lp_spec_l02Block_1 (v0 v1 : List UInt8) (v2 : Int) (v7 : List Int) (v9 : Int) (p : List Nat := [1, 1, 1, 0, 1, 0]) : Option d75 := from_ EE R L 349 Go.Proofs.Tryz.f349 p (mk 105 [(0, .dat ⟨.str, v0, .sh⟩), (1, .dat ⟨.str, v1, .sh⟩), (2, .dat ⟨(.int .i64), v2, .sh⟩), (7, .dat ⟨(.ptr t35), v7, (.own .sh)⟩), (9, .dat ⟨(.int .i64), v9, .sh⟩)])
noncomputable def lp_spec_l02Block_2 (v1 : List UInt8) (v7 : List Int) (v10 : Int) (p : List Nat := [1, 1, 1, 1, 1, 0, 1, 0]) : Option d75 := from_ EE R L 349 Go.Proofs.Tryz.f349 p (mk 105 [(1, .dat ⟨.str, v1, .sh⟩), (7, .dat ⟨(.ptr t35), v7, (.own .sh)⟩), (10, .dat ⟨(.int .i64), v10, .sh⟩)])
noncomputable def lp_spec_l02Block_3 (v7 v11 : List Int) (v12 : Int) (p : List Nat := [1, 1, 1, 1, 1, 1, 1, 0, 1, 0]) : Option d75 := from_ EE R L 349 Go.Proofs.Tryz.f349 p (mk 105 [(7, .dat ⟨(.ptr t35), v7, (.own .sh)⟩), (11, .dat ⟨(.ptr t35), v11, (.own .sh)⟩), (12, .dat ⟨(.int .i64), v12, .sh⟩)])
noncomputable def lp_spec_l02Block_4 (v7 v11 : List Int) (v12 v13 : Int) (p : List Nat := [1, 1, 1, 1, 1, 1, 1, 0, 1, 0, 0, 1, 0, 0, 0, 1, 0]) : Option d75 := from_ EE R L 349 Go.Proofs.Tryz.f349 p (mk 105 [(7, .dat ⟨(.ptr t35), v7, (.own .sh)⟩), (11, .dat ⟨(.ptr t35), v11, (.own .sh)⟩), (12, .dat ⟨(.int .i64), v12, .sh⟩), (13, .dat ⟨(.int .i64), v13, .sh⟩)])
noncomputable def lp_spec_l02Block_5 (v7 v11 v15 : List Int) (v16 : Int) (p : List Nat := [1, 1, 1, 1, 1, 1, 1, 1, 1, 0, 1, 0]) : Option d75 := from_ EE R L 349 Go.Proofs.Tryz.f349 p (mk 105 [(7, .dat ⟨(.ptr t35), v7, (.own .sh)⟩), (11, .dat ⟨(.ptr t35), v11, (.own .sh)⟩), (15, .dat ⟨t19, v15, (.own .sh)⟩), (16, .dat ⟨(.int .i64), v16, .sh⟩)])
noncomputable def lp_spec_l02Block_6 (v7 v11 : List Int) (v12 v14 : Int) (p : List Nat := [1, 1, 1, 1, 1, 1, 1, 0, 1, 0, 0, 1, 0, 0, 1, 1, 0]) : Option d75 := from_ EE R L 349 Go.Proofs.Tryz.f349 p (mk 105 [(7, .dat ⟨(.ptr t35), v7, (.own .sh)⟩), (11, .dat ⟨(.ptr t35), v11, (.own .sh)⟩), (12, .dat ⟨(.int .i64), v12, .sh⟩), (14, .dat ⟨(.int .i64), v14, .sh⟩)])
noncomputable def lp_impl_xor_0 (v1 : List UInt8) (v5 : List Int) (v10 v11 : Int) (p : List Nat := [1, 1, 0, 1, 0]) : Option d75 := from_ EE R L 321 Go.Proofs.Tryz.f321 p (mk 26 [(1, .dat ⟨.str, v1, .sh⟩), (5, .dat ⟨t19, v5, (.own .sh)⟩), (10, .dat ⟨(.int .i64), v10, .sh⟩), (11, .dat ⟨(.int .i64), v11, .sh⟩)])
noncomputable def lp_spec_l02Xor_0 (v0 v1 : List UInt8) (v2 : Int) (v3 : List UInt8) (v9 : List Int) (v10 : List UInt8) (v11 : Int) (p : List Nat := [1, 1, 1, 0, 1, 0]) : Option d75 := from_ EE R L 313 Go.Proofs.Tryz.f313 p (mk 42 [(0, .dat ⟨.str, v0, .sh⟩), (1, .dat ⟨.str, v1, .sh⟩), (2, .dat ⟨(.int .i64), v2, .sh⟩), (3, .dat ⟨.str, v3, .sh⟩), (9, .dat ⟨t19, v9, (.own .sh)⟩), (10, .dat ⟨.str, v10, .sh⟩), (11, .dat ⟨(.int .i64), v11, .sh⟩)])
noncomputable def lp_laws_toIntS_0 (v0 v2 v3 : List Int) (v4 : Int) (p : List Nat := [1, 1, 0, 1, 0]) : Option d74 := from_ EE R L 11 Go.Proofs.Tryz.f11 p (mk 22 [(0, .dat ⟨t0, v0, .sh⟩), (2, .dat ⟨t0, v2, (.own .sh)⟩), (3, .dat ⟨t0, v3, (.own .sh)⟩), (4, .dat ⟨(.int .i64), v4, .sh⟩)])
noncomputable def lp_spec_l08Leaves_0 (v0 : List Int) (v3 : Int) (p : List Nat := [1, 0, 1, 0]) : Option d73 := from_ EE R L 44 Go.Proofs.Tryz.f44 p (mk 16 [(0, .dat ⟨t0, v0, .sh⟩), (3, .dat ⟨(.int .i64), v3, .sh⟩)])
noncomputable def lp_spec_l04Eight_0 (v0 : Int) (v3 : List Int) (v4 : Int) (p : List Nat := [1, 1, 0, 1, 0]) : Option d75 := from_ EE R L 312 Go.Proofs.Tryz.f312 p (mk 20 [(0, .dat ⟨(.int .i64), v0, .sh⟩), (3, .dat ⟨t19, v3, (.own .sh)⟩), (4, .dat ⟨(.int .i64), v4, .sh⟩)])
noncomputable def lp_spec_l04Pad_0 (v0 : List UInt8) (p : List Nat := [1, 0, 0]) : Option d75 := from_ EE R L 351 Go.Proofs.Tryz.f351 p (mk 10 [(0, .dat ⟨.str, v0, .sh⟩)])
noncomputable def lp_spec_l03Clamp_0 (v3 : List Int) (v4 : Int) (p : List Nat := [1, 1, 0, 1, 0]) : Option d75 := from_ EE R L 374 Go.Proofs.Tryz.f374 p (mk 31 [(3, .dat ⟨t19, v3, (.own .sh)⟩), (4, .dat ⟨(.int .i64), v4, .sh⟩)])
noncomputable def lp_spec_l03Clamp_1 (v3 : List Int) (v5 : Int) (p : List Nat := [1, 1, 1, 0, 1, 0]) : Option d75 := from_ EE R L 374 Go.Proofs.Tryz.f374 p (mk 31 [(3, .dat ⟨t19, v3, (.own .sh)⟩), (5, .dat ⟨(.int .i64), v5, .sh⟩)])
noncomputable def lp_spec_l03Parts_0 (v0 : List UInt8) (v2 v3 : List Int) (v4 : Int) (p : List Nat := [1, 1, 0, 1, 0]) : Option d74 := from_ EE R L 373 Go.Proofs.Tryz.f373 p (mk 50 [(0, .dat ⟨.str, v0, .sh⟩), (2, .dat ⟨(.ptr t40), v2, (.own .sh)⟩), (3, .dat ⟨(.ptr t40), v3, (.own .sh)⟩), (4, .dat ⟨(.int .i64), v4, .sh⟩)])
noncomputable def lp_spec_l03Carry_0 (v1 v2 : List Int) (v3 : Int) (p : List Nat := [1, 0, 1, 0]) : Option d74 := from_ EE R L 377 Go.Proofs.Tryz.f377 p (mk 41 [(1, .dat ⟨(.ptr t40), v1, (.own .sh)⟩), (2, .dat ⟨(.ptr t40), v2, (.own .sh)⟩), (3, .dat ⟨(.int .i64), v3, .sh⟩)])
noncomputable def lp_spec_l03Carry_1 (v1 v2 : List Int) (v3 v4 : Int) (p : List Nat := [1, 0, 1, 0, 0, 1, 0, 0, 0, 1, 0]) : Option d74 := from_ EE R L 377 Go.Proofs.Tryz.f377 p (mk 41 [(1, .dat ⟨(.ptr t40), v1, (.own .sh)⟩), (2, .dat ⟨(.ptr t40), v2, (.own .sh)⟩), (3, .dat ⟨(.int .i64), v3, .sh⟩), (4, .dat ⟨(.int .i64), v4, .sh⟩)])
noncomputable def lp_spec_l03Times_0 (v2 v3 v4 v5 : List Int) (v6 : Int) (p : List Nat := [1, 1, 0, 1, 0]) : Option d74 := from_ EE R L 375 Go.Proofs.Tryz.f375 p (mk 42 [(2, .dat ⟨(.ptr t40), v2, (.own .sh)⟩), (3, .dat ⟨(.ptr t40), v3, (.own .sh)⟩), (4, .dat ⟨(.ptr t40), v4, (.own .sh)⟩), (5, .dat ⟨(.ptr t40), v5, (.own .sh)⟩), (6, .dat ⟨(.int .i64), v6, .sh⟩)])
noncomputable def lp_spec_l03Times_1 (v2 v3 v4 v5 : List Int) (v6 v7 : Int) (p : List Nat := [1, 1, 0, 1, 0, 0, 1, 0, 0, 1, 0]) : Option d74 := from_ EE R L 375 Go.Proofs.Tryz.f375 p (mk 42 [(2, .dat ⟨(.ptr t40), v2, (.own .sh)⟩), (3, .dat ⟨(.ptr t40), v3, (.own .sh)⟩), (4, .dat ⟨(.ptr t40), v4, (.own .sh)⟩), (5, .dat ⟨(.ptr t40), v5, (.own .sh)⟩), (6, .dat ⟨(.int .i64), v6, .sh⟩), (7, .dat ⟨(.int .i64), v7, .sh⟩)])
noncomputable def lp_spec_l03Less_0 (v1 v2 v3 : List Int) (v4 : Int) (p : List Nat := [1, 1, 1, 0, 1, 0]) : Option d74 := from_ EE R L 376 Go.Proofs.Tryz.f376 p (mk 39 [(1, .dat ⟨(.ptr t40), v1, (.own .sh)⟩), (2, .dat ⟨(.ptr t40), v2, (.own .sh)⟩), (3, .dat ⟨(.ptr t40), v3, (.own .sh)⟩), (4, .dat ⟨(.int .i64), v4, .sh⟩)])
noncomputable def lp_spec_l03Tag_0 (v0 v1 : List UInt8) (v5 v6 : List Int) (v7 : Int) (p : List Nat := [1, 1, 1, 0, 1, 0]) : Option d75 := from_ EE R L 350 Go.Proofs.Tryz.f350 p (mk 108 [(0, .dat ⟨.str, v0, .sh⟩), (1, .dat ⟨.str, v1, .sh⟩), (5, .dat ⟨(.ptr t40), v5, (.own .sh)⟩), (6, .dat ⟨(.ptr t40), v6, (.own .sh)⟩), (7, .dat ⟨(.int .i64), v7, .sh⟩)])
noncomputable def lp_spec_l03Tag_1 (v0 v1 : List UInt8) (v5 v6 : List Int) (v7 : Int) (v8 : List UInt8) (p : List Nat := [1, 1, 1, 0, 1, 0, 0, 1, 0, 0, 1, 0, 0]) : Option d75 := from_ EE R L 350 Go.Proofs.Tryz.f350 p (mk 108 [(0, .dat ⟨.str, v0, .sh⟩), (1, .dat ⟨.str, v1, .sh⟩), (5, .dat ⟨(.ptr t40), v5, (.own .sh)⟩), (6, .dat ⟨(.ptr t40), v6, (.own .sh)⟩), (7, .dat ⟨(.int .i64), v7, .sh⟩), (8, .dat ⟨.str, v8, .sh⟩)])
noncomputable def lp_spec_l03Tag_2 (v0 : List UInt8) (v6 v11 : List Int) (v12 v13 : Int) (p : List Nat := [1, 1, 1, 1, 1, 1, 1, 0, 1, 0]) : Option d75 := from_ EE R L 350 Go.Proofs.Tryz.f350 p (mk 108 [(0, .dat ⟨.str, v0, .sh⟩), (6, .dat ⟨(.ptr t40), v6, (.own .sh)⟩), (11, .dat ⟨t19, v11, (.own .sh)⟩), (12, .dat ⟨(.int .i64), v12, .sh⟩), (13, .dat ⟨(.int .i64), v13, .sh⟩)])
noncomputable def lp_spec_l03Tag_3 (v0 v1 : List UInt8) (v5 v6 : List Int) (v7 : Int) (v9 : List Int) (v10 : Int) (p : List Nat := [1, 1, 1, 0, 1, 0, 0, 1, 0, 0, 1, 1, 1, 0, 1, 0]) : Option d75 := from_ EE R L 350 Go.Proofs.Tryz.f350 p (mk 108 [(0, .dat ⟨.str, v0, .sh⟩), (1, .dat ⟨.str, v1, .sh⟩), (5, .dat ⟨(.ptr t40), v5, (.own .sh)⟩), (6, .dat ⟨(.ptr t40), v6, (.own .sh)⟩), (7, .dat ⟨(.int .i64), v7, .sh⟩), (9, .dat ⟨(.ptr t40), v9, (.own .sh)⟩), (10, .dat ⟨(.int .i64), v10, .sh⟩)])
noncomputable def lp_spec_l13Side_0 (v0 : List UInt8) (v1 v2 : Int) (v8 : d77) (v11 : List (List UInt8)) (v12 : Int) (p : List Nat := [1, 1, 0, 1, 0]) : Option d85 := from_ EE R L 180 Go.Proofs.Tryz.f180 p (mk 45 [(0, .dat ⟨.str, v0, .sh⟩), (1, .dat ⟨(.int .i64), v1, .sh⟩), (2, .dat ⟨(.int .i64), v2, .sh⟩), (8, .dat ⟨(.ptr t18), v8, (.own .sh)⟩), (11, .dat ⟨(.sl .str), v11, (.own .sh)⟩), (12, .dat ⟨(.int .i64), v12, .sh⟩)])
noncomputable def lp_spec_l07Leaves_0 (v0 v3 : List (List UInt8)) (v4 : Int) (p : List Nat := [1, 1, 0, 1, 0]) : Option d85 := from_ EE R L 251 Go.Proofs.Tryz.f251 p (mk 22 [(0, .dat ⟨(.sl .str), v0, .sh⟩), (3, .dat ⟨(.sl .str), v3, (.own .sh)⟩), (4, .dat ⟨(.int .i64), v4, .sh⟩)])
noncomputable def lp_spec_l07Level_0 (v0 v3 : List (List UInt8)) (v4 : Int) (p : List Nat := [1, 1, 0, 1, 0]) : Option d85 := from_ EE R L 252 Go.Proofs.Tryz.f252 p (mk 27 [(0, .dat ⟨(.sl .str), v0, .sh⟩), (3, .dat ⟨(.sl .str), v3, (.own .sh)⟩), (4, .dat ⟨(.int .i64), v4, .sh⟩)])
noncomputable def lp_spec_l07Root_0 (v3 : List (List UInt8)) (p : List Nat := [1, 1, 0, 0]) : Option d75 := from_ EE R L 182 Go.Proofs.Tryz.f182 p (mk 14 [(3, .dat ⟨(.sl .str), v3, (.own .sh)⟩)])
noncomputable def lp_spec_l13Lay_0 (v1 : Int) (v2 : List (List UInt8)) (v3 v6 : d64) (v7 : Int) (p : List Nat := [1, 0, 1, 0]) : Option d86 := from_ EE R L 183 Go.Proofs.Tryz.f183 p (mk 25 [(1, .dat ⟨(.int .i64), v1, .sh⟩), (2, .dat ⟨(.sl .str), v2, .sh⟩), (3, .dat ⟨(.ptr t3), v3, (.own .sh)⟩), (6, .dat ⟨(.ptr t3), v6, (.own (.pr (.own .sh) (.pr (.own .sh) .sh)))⟩), (7, .dat ⟨(.int .i64), v7, .sh⟩)])
noncomputable def lp_spec_l13Lay_1 (v1 : Int) (v2 : List (List UInt8)) (v3 v6 : d64) (v7 : Int) (p : List Nat := [1, 0, 1, 0]) : Option d86 := from_ EE R L 183 Go.Proofs.Tryz.f183 p (mk 25 [(1, .dat ⟨(.int .i64), v1, .sh⟩), (2, .dat ⟨(.sl .str), v2, .sh⟩), (3, .dat ⟨(.ptr t3), v3, (.own (.pr .sh (.pr (.own .sh) .sh)))⟩), (6, .dat ⟨(.ptr t3), v6, (.own (.pr (.own .sh) (.pr (.own .sh) .sh)))⟩), (7, .dat ⟨(.int .i64), v7, .sh⟩)])
noncomputable def lp_spec_l05Sync_0 (v1 v2 v3 : d64) (v4 : Int) (p : List Nat := [1, 1, 0, 1, 0]) : Option d86 := from_ EE R L 130 Go.Proofs.Tryz.f130 p (mk 34 [(1, .dat ⟨(.ptr t3), v1, (.own .sh)⟩), (2, .dat ⟨(.ptr t3), v2, (.own (.pr (.own .sh) (.pr (.own .sh) .sh)))⟩), (3, .dat ⟨(.ptr t3), v3, (.own (.pr (.own .sh) (.pr (.own .sh) .sh)))⟩), (4, .dat ⟨(.int .i64), v4, .sh⟩)])
noncomputable def lp_spec_l09Own_0 (v0 v3 : List d68) (v4 : Int) (p : List Nat := [1, 1, 0, 1, 0]) : Option d88 := from_ EE R L 104 Go.Proofs.Tryz.f104 p (mk 24 [(0, .dat ⟨(.sl t7), v0, .sh⟩), (3, .dat ⟨(.sl t7), v3, (.own (.pr (.own .sh) .sh))⟩), (4, .dat ⟨(.int .i64), v4, .sh⟩)])
noncomputable def lp_slices_IndexFunc___string_string__0 (v0 : List (List UInt8)) (v1 : FnVal) (v4 v7 v8 : Int) (p : List Nat := [1, 0, 1, 0]) : Option d80 := from_ EE R L 308 Go.Proofs.Tryz.f308 p (mk 19 [(0, .dat ⟨(.sl .str), v0, .sh⟩), (1, .dat ⟨.fn, v1, .sh⟩), (4, .dat ⟨(.int .i64), v4, .sh⟩), (7, .dat ⟨(.int .i64), v7, .sh⟩), (8, .dat ⟨(.int .i64), v8, .sh⟩)])
noncomputable def lp_slices_IndexFunc___string_string__1 (v0 : List (List UInt8)) (v1 : FnVal) (v4 v5 v7 v8 : Int) (p : List Nat := [1, 0, 1, 0]) : Option d80 := from_ EE R L 308 Go.Proofs.Tryz.f308 p (mk 19 [(0, .dat ⟨(.sl .str), v0, .sh⟩), (1, .dat ⟨.fn, v1, .sh⟩), (4, .dat ⟨(.int .i64), v4, .sh⟩), (5, .dat ⟨(.int .i64), v5, .sh⟩), (7, .dat ⟨(.int .i64), v7, .sh⟩), (8, .dat ⟨(.int .i64), v8, .sh⟩)])
noncomputable def lp_slices_IndexFunc___int_int__0 (v0 : List Int) (v1 : FnVal) (v4 v7 v8 : Int) (p : List Nat := [1, 0, 1, 0]) : Option d80 := from_ EE R L 315 Go.Proofs.Tryz.f315 p (mk 19 [(0, .dat ⟨t0, v0, .sh⟩), (1, .dat ⟨.fn, v1, .sh⟩), (4, .dat ⟨(.int .i64), v4, .sh⟩), (7, .dat ⟨(.int .i64), v7, .sh⟩), (8, .dat ⟨(.int .i64), v8, .sh⟩)])
noncomputable def lp_slices_IndexFunc___int_int__1 (v0 : List Int) (v1 : FnVal) (v4 v5 v7 v8 : Int) (p : List Nat := [1, 0, 1, 0]) : Option d80 := from_ EE R L 315 Go.Proofs.Tryz.f315 p (mk 19 [(0, .dat ⟨t0, v0, .sh⟩), (1, .dat ⟨.fn, v1, .sh⟩), (4, .dat ⟨(.int .i64), v4, .sh⟩), (5, .dat ⟨(.int .i64), v5, .sh⟩), (7, .dat ⟨(.int .i64), v7, .sh⟩), (8, .dat ⟨(.int .i64), v8, .sh⟩)])
noncomputable def lp_impl_clamped_0 (v3 : List Int) (v4 : Int) (p : List Nat := [1, 1, 0, 1, 0]) : Option d75 := from_ EE R L 356 Go.Proofs.Tryz.f356 p (mk 31 [(3, .dat ⟨t19, v3, (.own .sh)⟩), (4, .dat ⟨(.int .i64), v4, .sh⟩)])
noncomputable def lp_impl_clamped_1 (v3 : List Int) (v5 : Int) (p : List Nat := [1, 1, 1, 0, 1, 0]) : Option d75 := from_ EE R L 356 Go.Proofs.Tryz.f356 p (mk 31 [(3, .dat ⟨t19, v3, (.own .sh)⟩), (5, .dat ⟨(.int .i64), v5, .sh⟩)])
noncomputable def lp_impl_limbsOf_0 (v2 v3 v9 : List Int) (v10 v11 : Int) (p : List Nat := [1, 1, 0, 1, 0]) : Option d74 := from_ EE R L 355 Go.Proofs.Tryz.f355 p (mk 40 [(2, .dat ⟨(.ptr t46), v2, (.own .sh)⟩), (3, .dat ⟨(.ptr t46), v3, (.own .sh)⟩), (9, .dat ⟨t19, v9, (.own .sh)⟩), (10, .dat ⟨(.int .i64), v10, .sh⟩), (11, .dat ⟨(.int .i64), v11, .sh⟩)])
noncomputable def lp_impl_limbsOf_1 (v2 v3 : List Int) (v4 v5 : Int) (v9 : List Int) (v10 v11 v16 : Int) (p : List Nat := [1, 1, 0, 1, 0, 0, 1, 1, 0, 0, 1, 1, 0]) : Option d74 := from_ EE R L 355 Go.Proofs.Tryz.f355 p (mk 40 [(2, .dat ⟨(.ptr t46), v2, (.own .sh)⟩), (3, .dat ⟨(.ptr t46), v3, (.own .sh)⟩), (4, .dat ⟨(.int .i64), v4, .sh⟩), (5, .dat ⟨(.int .u8), v5, .sh⟩), (9, .dat ⟨t19, v9, (.own .sh)⟩), (10, .dat ⟨(.int .i64), v10, .sh⟩), (11, .dat ⟨(.int .i64), v11, .sh⟩), (16, .dat ⟨(.int .i64), v16, .sh⟩)])
noncomputable def lp_impl_limbs_carried_0 (v1 v2 : List Int) (v5 : Int) (p : List Nat := [1, 0, 1, 0]) : Option d74 := from_ EE R L 379 Go.Proofs.Tryz.f379 p (mk 34 [(1, .dat ⟨(.ptr t46), v1, (.own .sh)⟩), (2, .dat ⟨(.ptr t46), v2, (.own .sh)⟩), (5, .dat ⟨(.int .i64), v5, .sh⟩)])
noncomputable def lp_impl_limbs_carried_1 (v1 v2 : List Int) (v3 v5 v7 : Int) (p : List Nat := [1, 0, 1, 0, 0, 1, 1, 0, 0, 1, 0, 1, 0]) : Option d74 := from_ EE R L 379 Go.Proofs.Tryz.f379 p (mk 34 [(1, .dat ⟨(.ptr t46), v1, (.own .sh)⟩), (2, .dat ⟨(.ptr t46), v2, (.own .sh)⟩), (3, .dat ⟨(.int .u64), v3, .sh⟩), (5, .dat ⟨(.int .i64), v5, .sh⟩), (7, .dat ⟨(.int .i64), v7, .sh⟩)])
noncomputable def lp_impl_limbs_plus_0 (v2 v3 v4 : List Int) (v6 : Int) (p : List Nat := [1, 0, 1, 0]) : Option d74 := from_ EE R L 357 Go.Proofs.Tryz.f357 p (mk 20 [(2, .dat ⟨(.ptr t46), v2, (.own .sh)⟩), (3, .dat ⟨(.ptr t46), v3, (.own .sh)⟩), (4, .dat ⟨(.ptr t46), v4, (.own .sh)⟩), (6, .dat ⟨(.int .i64), v6, .sh⟩)])
noncomputable def lp_impl_limbs_times_0 (v3 v4 v5 v10 : List Int) (v11 : Int) (p : List Nat := [1, 1, 0, 1, 0]) : Option d74 := from_ EE R L 358 Go.Proofs.Tryz.f358 p (mk 50 [(3, .dat ⟨(.ptr t46), v3, (.own .sh)⟩), (4, .dat ⟨(.ptr t46), v4, (.own .sh)⟩), (5, .dat ⟨(.ptr t46), v5, (.own .sh)⟩), (10, .dat ⟨t46, v10, .sh⟩), (11, .dat ⟨(.int .i64), v11, .sh⟩)])
noncomputable def lp_impl_limbs_times_1 (v3 v4 v5 : List Int) (v6 v7 : Int) (v10 : List Int) (v11 : Int) (v15 : List Int) (v16 : Int) (p : List Nat := [1, 1, 0, 1, 0, 0, 1, 1, 0, 0, 1, 1, 0]) : Option d74 := from_ EE R L 358 Go.Proofs.Tryz.f358 p (mk 50 [(3, .dat ⟨(.ptr t46), v3, (.own .sh)⟩), (4, .dat ⟨(.ptr t46), v4, (.own .sh)⟩), (5, .dat ⟨(.ptr t46), v5, (.own .sh)⟩), (6, .dat ⟨(.int .i64), v6, .sh⟩), (7, .dat ⟨(.int .u64), v7, .sh⟩), (10, .dat ⟨t46, v10, .sh⟩), (11, .dat ⟨(.int .i64), v11, .sh⟩), (15, .dat ⟨t46, v15, .sh⟩), (16, .dat ⟨(.int .i64), v16, .sh⟩)])
noncomputable def lp_impl_limbs_reduced_0 (v1 v2 v3 : List Int) (v4 : Int) (p : List Nat := [1, 1, 1, 0, 1, 0]) : Option d74 := from_ EE R L 359 Go.Proofs.Tryz.f359 p (mk 41 [(1, .dat ⟨(.ptr t46), v1, (.own .sh)⟩), (2, .dat ⟨(.ptr t46), v2, (.own .sh)⟩), (3, .dat ⟨(.ptr t46), v3, (.own .sh)⟩), (4, .dat ⟨(.int .i64), v4, .sh⟩)])
noncomputable def lp_impl_limbs_reduced_1 (v1 v2 v3 : List Int) (v28 : Int) (p : List Nat := [1, 1, 1, 1, 0, 1, 0]) : Option d74 := from_ EE R L 359 Go.Proofs.Tryz.f359 p (mk 41 [(1, .dat ⟨(.ptr t46), v1, (.own .sh)⟩), (2, .dat ⟨(.ptr t46), v2, (.own .sh)⟩), (3, .dat ⟨(.ptr t46), v3, (.own .sh)⟩), (28, .dat ⟨(.int .i64), v28, .sh⟩)])
noncomputable def lp_impl_limbs_bytes_0 (v1 : List UInt8) (v2 v5 : List Int) (v6 v13 v14 : Int) (p : List Nat := [1, 1, 1, 0, 1, 0]) : Option d75 := from_ EE R L 360 Go.Proofs.Tryz.f360 p (mk 56 [(1, .dat ⟨.str, v1, .sh⟩), (2, .dat ⟨(.ptr t46), v2, (.own .sh)⟩), (5, .dat ⟨t19, v5, (.own .sh)⟩), (6, .dat ⟨(.int .i64), v6, .sh⟩), (13, .dat ⟨(.int .i64), v13, .sh⟩), (14, .dat ⟨(.int .i64), v14, .sh⟩)])
noncomputable def lp_impl_limbs_bytes_1 (v1 : List UInt8) (v2 v5 : List Int) (v6 v7 v8 v13 v14 v17 : Int) (p : List Nat := [1, 1, 1, 0, 1, 0, 0, 1, 1, 0, 0, 1, 1, 0, 1, 0]) : Option d75 := from_ EE R L 360 Go.Proofs.Tryz.f360 p (mk 56 [(1, .dat ⟨.str, v1, .sh⟩), (2, .dat ⟨(.ptr t46), v2, (.own .sh)⟩), (5, .dat ⟨t19, v5, (.own .sh)⟩), (6, .dat ⟨(.int .i64), v6, .sh⟩), (7, .dat ⟨(.int .i64), v7, .sh⟩), (8, .dat ⟨(.int .i64), v8, .sh⟩), (13, .dat ⟨(.int .i64), v13, .sh⟩), (14, .dat ⟨(.int .i64), v14, .sh⟩), (17, .dat ⟨(.int .i64), v17, .sh⟩)])
noncomputable def lp_impl_tag_0 (v0 v1 : List UInt8) (v5 v6 : List Int) (v7 : Int) (p : List Nat := [1, 1, 1, 0, 1, 0]) : Option d75 := from_ EE R L 324 Go.Proofs.Tryz.f324 p (mk 36 [(0, .dat ⟨.str, v0, .sh⟩), (1, .dat ⟨.str, v1, .sh⟩), (5, .dat ⟨(.ptr t46), v5, (.own .sh)⟩), (6, .dat ⟨(.ptr t46), v6, (.own .sh)⟩), (7, .dat ⟨(.int .i64), v7, .sh⟩)])
noncomputable def lp_impl_sideSectors_0 (v0 : List UInt8) (v4 v11 : Int) (v12 : List (List UInt8)) (v27 : List (List d67)) (v28 v29 : Int) (p : List Nat := [1, 1, 1, 0, 1, 0]) : Option d85 := from_ EE R L 109 Go.Proofs.Tryz.f109 p (mk 48 [(0, .dat ⟨.str, v0, .sh⟩), (4, .dat ⟨(.int .i64), v4, .sh⟩), (11, .dat ⟨(.int .i64), v11, .sh⟩), (12, .dat ⟨(.sl .str), v12, (.own .sh)⟩), (27, .dat ⟨t16, v27, .sh⟩), (28, .dat ⟨(.int .i64), v28, .sh⟩), (29, .dat ⟨(.int .i64), v29, .sh⟩)])
noncomputable def lp_impl_tree_0 (v3 v9 : List (List UInt8)) (v10 v11 : Int) (p : List Nat := [1, 1, 0, 1, 0]) : Option d89 := from_ EE R L 191 Go.Proofs.Tryz.f191 p (mk 53 [(3, .dat ⟨(.sl .str), v3, (.own .sh)⟩), (9, .dat ⟨(.sl .str), v9, .sh⟩), (10, .dat ⟨(.int .i64), v10, .sh⟩), (11, .dat ⟨(.int .i64), v11, .sh⟩)])
noncomputable def lp_impl_tree_1 (v3 : List (List UInt8)) (v6 : List (List (List UInt8))) (p : List Nat := [1, 1, 1, 1, 0, 0]) : Option d89 := from_ EE R L 191 Go.Proofs.Tryz.f191 p (mk 53 [(3, .dat ⟨(.sl .str), v3, .sh⟩), (6, .dat ⟨t48, v6, (.own .sh)⟩)])
noncomputable def lp_impl_tree_2 (v3 : List (List UInt8)) (v6 : List (List (List UInt8))) (v7 : List (List UInt8)) (v8 : Int) (p : List Nat := [1, 1, 1, 1, 0, 0, 0, 1, 0, 1, 0, 1, 0]) : Option d89 := from_ EE R L 191 Go.Proofs.Tryz.f191 p (mk 53 [(3, .dat ⟨(.sl .str), v3, .sh⟩), (6, .dat ⟨t48, v6, (.own .sh)⟩), (7, .dat ⟨(.sl .str), v7, (.own .sh)⟩), (8, .dat ⟨(.int .i64), v8, .sh⟩)])
noncomputable def lp_laws_eqStringS_0 (v0 v1 : List (List UInt8)) (v4 : Bool) (v5 : Int) (p : List Nat := [1, 1, 0, 1, 0]) : Option d73 := from_ EE R L 114 Go.Proofs.Tryz.f114 p (mk 26 [(0, .dat ⟨(.sl .str), v0, .sh⟩), (1, .dat ⟨(.sl .str), v1, .sh⟩), (4, .dat ⟨.bool, v4, .sh⟩), (5, .dat ⟨(.int .i64), v5, .sh⟩)])
noncomputable def lp_laws_eqIoS_0 (v0 v1 : List d63) (v4 : Bool) (v5 : Int) (p : List Nat := [1, 1, 0, 1, 0]) : Option d73 := from_ EE R L 115 Go.Proofs.Tryz.f115 p (mk 27 [(0, .dat ⟨(.sl t2), v0, .sh⟩), (1, .dat ⟨(.sl t2), v1, .sh⟩), (4, .dat ⟨.bool, v4, .sh⟩), (5, .dat ⟨(.int .i64), v5, .sh⟩)])
noncomputable def lp_laws_eqEntryS_0 (v0 v1 : List d66) (v4 : Bool) (v5 : Int) (p : List Nat := [1, 1, 0, 1, 0]) : Option d73 := from_ EE R L 50 Go.Proofs.Tryz.f50 p (mk 27 [(0, .dat ⟨(.sl t5), v0, .sh⟩), (1, .dat ⟨(.sl t5), v1, .sh⟩), (4, .dat ⟨.bool, v4, .sh⟩), (5, .dat ⟨(.int .i64), v5, .sh⟩)])
noncomputable def lp_laws_eqOpS_0 (v0 v1 : List d67) (v4 : Bool) (v5 : Int) (p : List Nat := [1, 1, 0, 1, 0]) : Option d73 := from_ EE R L 146 Go.Proofs.Tryz.f146 p (mk 27 [(0, .dat ⟨(.sl t6), v0, .sh⟩), (1, .dat ⟨(.sl t6), v1, .sh⟩), (4, .dat ⟨.bool, v4, .sh⟩), (5, .dat ⟨(.int .i64), v5, .sh⟩)])
noncomputable def lp_laws_eqTxnS_0 (v0 v1 : List d68) (v4 : Bool) (v5 : Int) (p : List Nat := [1, 1, 0, 1, 0]) : Option d73 := from_ EE R L 27 Go.Proofs.Tryz.f27 p (mk 27 [(0, .dat ⟨(.sl t7), v0, .sh⟩), (1, .dat ⟨(.sl t7), v1, .sh⟩), (4, .dat ⟨.bool, v4, .sh⟩), (5, .dat ⟨(.int .i64), v5, .sh⟩)])
noncomputable def lp_laws_eqTxnSS_0 (v0 v1 : List (List d68)) (v4 : Bool) (v5 : Int) (p : List Nat := [1, 1, 0, 1, 0]) : Option d73 := from_ EE R L 51 Go.Proofs.Tryz.f51 p (mk 27 [(0, .dat ⟨t8, v0, .sh⟩), (1, .dat ⟨t8, v1, .sh⟩), (4, .dat ⟨.bool, v4, .sh⟩), (5, .dat ⟨(.int .i64), v5, .sh⟩)])
noncomputable def lp_laws_eqIntS_0 (v0 v1 : List Int) (v4 : Bool) (v5 : Int) (p : List Nat := [1, 1, 0, 1, 0]) : Option d73 := from_ EE R L 14 Go.Proofs.Tryz.f14 p (mk 26 [(0, .dat ⟨t0, v0, .sh⟩), (1, .dat ⟨t0, v1, .sh⟩), (4, .dat ⟨.bool, v4, .sh⟩), (5, .dat ⟨(.int .i64), v5, .sh⟩)])
noncomputable def lp_laws_eqResultS_0 (v0 v1 : List d69) (v4 : Bool) (v5 : Int) (p : List Nat := [1, 1, 0, 1, 0]) : Option d73 := from_ EE R L 37 Go.Proofs.Tryz.f37 p (mk 27 [(0, .dat ⟨(.sl t9), v0, .sh⟩), (1, .dat ⟨(.sl t9), v1, .sh⟩), (4, .dat ⟨.bool, v4, .sh⟩), (5, .dat ⟨(.int .i64), v5, .sh⟩)])
noncomputable def lp_laws_markIntS_0 (v0 : List Int) (v1 v4 v5 : Int) (p : List Nat := [1, 0, 1, 0]) : Option d69 := from_ EE R L 15 Go.Proofs.Tryz.f15 p (mk 19 [(0, .dat ⟨t0, v0, (.pin 0 (.own .sh))⟩), (1, .dat ⟨(.int .i64), v1, .sh⟩), (4, .dat ⟨(.int .i64), v4, .sh⟩), (5, .dat ⟨(.int .i64), v5, .sh⟩)])
noncomputable def lp_laws_markText_0 (v0 : Int) (v2 v3 : List UInt8) (p : List Nat := [1, 1, 1, 0, 0]) : Option d75 := from_ EE R L 193 Go.Proofs.Tryz.f193 p (mk 20 [(0, .dat ⟨(.int .i64), v0, .sh⟩), (2, .dat ⟨.str, v2, .sh⟩), (3, .dat ⟨.str, v3, .sh⟩)])
noncomputable def lp_laws_markStringS_0 (v0 : List (List UInt8)) (v1 v4 v5 : Int) (p : List Nat := [1, 0, 1, 0]) : Option d92 := from_ EE R L 117 Go.Proofs.Tryz.f117 p (mk 20 [(0, .dat ⟨(.sl .str), v0, (.pin 0 (.own .sh))⟩), (1, .dat ⟨(.int .i64), v1, .sh⟩), (4, .dat ⟨(.int .i64), v4, .sh⟩), (5, .dat ⟨(.int .i64), v5, .sh⟩)])
noncomputable def lp_laws_markIoS_0 (v0 : List d63) (v1 v4 v5 : Int) (p : List Nat := [1, 0, 1, 0]) : Option d93 := from_ EE R L 118 Go.Proofs.Tryz.f118 p (mk 28 [(0, .dat ⟨(.sl t2), v0, (.pin 0 (.own .sh))⟩), (1, .dat ⟨(.int .i64), v1, .sh⟩), (4, .dat ⟨(.int .i64), v4, .sh⟩), (5, .dat ⟨(.int .i64), v5, .sh⟩)])
noncomputable def lp_laws_markEntryS_0 (v0 : List d66) (v1 v4 v5 : Int) (p : List Nat := [1, 0, 1, 0]) : Option d96 := from_ EE R L 53 Go.Proofs.Tryz.f53 p (mk 27 [(0, .dat ⟨(.sl t5), v0, (.pin 0 (.own .sh))⟩), (1, .dat ⟨(.int .i64), v1, .sh⟩), (4, .dat ⟨(.int .i64), v4, .sh⟩), (5, .dat ⟨(.int .i64), v5, .sh⟩)])
noncomputable def lp_laws_markOpS_0 (v0 : List d67) (v1 v4 v5 : Int) (p : List Nat := [1, 0, 1, 0]) : Option d97 := from_ EE R L 75 Go.Proofs.Tryz.f75 p (mk 34 [(0, .dat ⟨(.sl t6), v0, (.pin 0 (.own .sh))⟩), (1, .dat ⟨(.int .i64), v1, .sh⟩), (4, .dat ⟨(.int .i64), v4, .sh⟩), (5, .dat ⟨(.int .i64), v5, .sh⟩)])
noncomputable def lp_laws_markTxnS_0 (v0 : List d68) (v1 v4 v5 : Int) (p : List Nat := [1, 0, 1, 0]) : Option d98 := from_ EE R L 29 Go.Proofs.Tryz.f29 p (mk 20 [(0, .dat ⟨(.sl t7), v0, (.pin 0 (.own (.pr (.own .sh) .sh)))⟩), (1, .dat ⟨(.int .i64), v1, .sh⟩), (4, .dat ⟨(.int .i64), v4, .sh⟩), (5, .dat ⟨(.int .i64), v5, .sh⟩)])
noncomputable def lp_laws_markTxnSS_0 (v0 : List (List d68)) (v1 v4 v5 : Int) (p : List Nat := [1, 0, 1, 0]) : Option d99 := from_ EE R L 54 Go.Proofs.Tryz.f54 p (mk 19 [(0, .dat ⟨t8, v0, (.pin 0 (.own (.own (.pr (.own .sh) .sh))))⟩), (1, .dat ⟨(.int .i64), v1, .sh⟩), (4, .dat ⟨(.int .i64), v4, .sh⟩), (5, .dat ⟨(.int .i64), v5, .sh⟩)])
noncomputable def lp_laws_markResultS_0 (v0 : List d69) (v1 v4 v5 : Int) (p : List Nat := [1, 0, 1, 0]) : Option d100 := from_ EE R L 38 Go.Proofs.Tryz.f38 p (mk 27 [(0, .dat ⟨(.sl t9), v0, (.pin 0 (.own (.pr .sh (.pr (.own .sh) .sh))))⟩), (1, .dat ⟨(.int .i64), v1, .sh⟩), (4, .dat ⟨(.int .i64), v4, .sh⟩), (5, .dat ⟨(.int .i64), v5, .sh⟩)])
noncomputable def lp_laws_heldStringS_0 (v0 : List (List UInt8)) (v1 v4 v5 : Int) (p : List Nat := [1, 0, 1, 0]) : Option d80 := from_ EE R L 119 Go.Proofs.Tryz.f119 p (mk 22 [(0, .dat ⟨(.sl .str), v0, .sh⟩), (1, .dat ⟨(.int .i64), v1, .sh⟩), (4, .dat ⟨(.int .i64), v4, .sh⟩), (5, .dat ⟨(.int .i64), v5, .sh⟩)])
noncomputable def lp_laws_heldIoS_0 (v0 : List d63) (v1 v4 v5 : Int) (p : List Nat := [1, 0, 1, 0]) : Option d80 := from_ EE R L 120 Go.Proofs.Tryz.f120 p (mk 32 [(0, .dat ⟨(.sl t2), v0, .sh⟩), (1, .dat ⟨(.int .i64), v1, .sh⟩), (4, .dat ⟨(.int .i64), v4, .sh⟩), (5, .dat ⟨(.int .i64), v5, .sh⟩)])
noncomputable def lp_laws_heldEntryS_0 (v0 : List d66) (v1 v4 v5 : Int) (p : List Nat := [1, 0, 1, 0]) : Option d80 := from_ EE R L 56 Go.Proofs.Tryz.f56 p (mk 31 [(0, .dat ⟨(.sl t5), v0, .sh⟩), (1, .dat ⟨(.int .i64), v1, .sh⟩), (4, .dat ⟨(.int .i64), v4, .sh⟩), (5, .dat ⟨(.int .i64), v5, .sh⟩)])
noncomputable def lp_laws_heldOpS_0 (v0 : List d67) (v1 v4 v5 : Int) (p : List Nat := [1, 0, 1, 0]) : Option d80 := from_ EE R L 194 Go.Proofs.Tryz.f194 p (mk 40 [(0, .dat ⟨(.sl t6), v0, .sh⟩), (1, .dat ⟨(.int .i64), v1, .sh⟩), (4, .dat ⟨(.int .i64), v4, .sh⟩), (5, .dat ⟨(.int .i64), v5, .sh⟩)])
noncomputable def lp_laws_heldTxnS_0 (v0 : List d68) (v1 v4 v5 : Int) (p : List Nat := [1, 0, 1, 0]) : Option d80 := from_ EE R L 121 Go.Proofs.Tryz.f121 p (mk 22 [(0, .dat ⟨(.sl t7), v0, .sh⟩), (1, .dat ⟨(.int .i64), v1, .sh⟩), (4, .dat ⟨(.int .i64), v4, .sh⟩), (5, .dat ⟨(.int .i64), v5, .sh⟩)])
noncomputable def lp_laws_heldTxnSS_0 (v0 : List (List d68)) (v1 v4 v5 : Int) (p : List Nat := [1, 0, 1, 0]) : Option d80 := from_ EE R L 57 Go.Proofs.Tryz.f57 p (mk 21 [(0, .dat ⟨t8, v0, .sh⟩), (1, .dat ⟨(.int .i64), v1, .sh⟩), (4, .dat ⟨(.int .i64), v4, .sh⟩), (5, .dat ⟨(.int .i64), v5, .sh⟩)])
noncomputable def lp_laws_heldIntS_0 (v0 : List Int) (v1 v4 v5 : Int) (p : List Nat := [1, 0, 1, 0]) : Option d80 := from_ EE R L 89 Go.Proofs.Tryz.f89 p (mk 21 [(0, .dat ⟨t0, v0, .sh⟩), (1, .dat ⟨(.int .i64), v1, .sh⟩), (4, .dat ⟨(.int .i64), v4, .sh⟩), (5, .dat ⟨(.int .i64), v5, .sh⟩)])
noncomputable def lp_laws_heldResultS_0 (v0 : List d69) (v1 v4 v5 : Int) (p : List Nat := [1, 0, 1, 0]) : Option d80 := from_ EE R L 39 Go.Proofs.Tryz.f39 p (mk 31 [(0, .dat ⟨(.sl t9), v0, .sh⟩), (1, .dat ⟨(.int .i64), v1, .sh⟩), (4, .dat ⟨(.int .i64), v4, .sh⟩), (5, .dat ⟨(.int .i64), v5, .sh⟩)])
theorem q_spec_l14New (x0 : List UInt8) (x1 : List Int) : @Eq _ (c_spec_l14New (bodyK EE R L) x0 x1) ((c_spec_l13Init R x0 x1).bind fun r0 =>
 some ((r0.1, (r0.1.2.2.1, ([], ([], ([], (true, ())))))), ())) := by kernel_rfl
theorem q_spec_l14Own (x0 : d70) : @Eq _ (c_spec_l14Own (bodyK EE R L) x0) ((c_spec_l13Own R x0.1).bind fun r0 =>
 (c_spec_l05Own R x0.2.1).bind fun r1 =>
 cond (lenOK (([] : List d66).length + x0.2.2.1.length))
 (lp_spec_l14Own_0 R L (r0.1, (r1.1, ([] ++ x0.2.2.1, x0.2.2.2))) (([], ((0, (0, (0, (0, ([], ([], ([], ()))))))), (([], ([], ())), (false, (false, ()))))), (([], ([], ())), ([], ([], ([], (false, ())))))) [] 0)
 none) := by kernel_rfl
theorem q_spec_l14Own_0 (v1 v2 : d70) (v3 : List (List d68)) (v4 : Int) : @Eq _ (lp_spec_l14Own_0 R L v1 v2 v3 v4 ([1, 1, 1, 1, 1, 0, 1, 0] ++ [0])) (cond (decide (v4 < (v1.2.2.2.1.length : Int)))
 (cond (nonneg v4)
 (cond (Nat.blt v4.toNat v1.2.2.2.1.length)
 ((c_spec_l09Own R (v1.2.2.2.1.getD v4.toNat [])).bind fun r0 =>
 none)
 none)
 none)
 (lp_spec_l14Own_1 R L (v1.1, (v1.2.1, (v1.2.2.1, (v3, v1.2.2.2.2)))) v2 [] 0)) := by kernel_rfl
theorem q_spec_l14Own_1 (v1 v2 : d70) (v5 : List d69) (v6 : Int) : @Eq _ (lp_spec_l14Own_1 R L v1 v2 v5 v6 ([1, 1, 1, 1, 1, 1, 1, 1, 0, 1, 0] ++ [0])) (cond (decide (v6 < (v1.2.2.2.2.1.length : Int)))
 (cond (nonneg v6)
 (cond (Nat.blt v6.toNat v1.2.2.2.2.1.length)
 (cond (nonneg v6)
 (cond (Nat.blt v6.toNat v1.2.2.2.2.1.length)
 (cond (lenOK (([] : List Int).length + (v1.2.2.2.2.1.getD v6.toNat (0, ([], ()))).2.1.length))
 (cond (lenOK (v5.length + ([((v1.2.2.2.2.1.getD v6.toNat (0, ([], ()))).1, (([] : List Int) ++ (v1.2.2.2.2.1.getD v6.toNat (0, ([], ()))).2.1, ()))]).length))
 (lp_spec_l14Own_1 R L v1 v2 (v5 ++ [((v1.2.2.2.2.1.getD v6.toNat (0, ([], ()))).1, ([] ++ (v1.2.2.2.2.1.getD v6.toNat (0, ([], ()))).2.1, ()))]) (IntKind.wrap .i64 (v6 + 1)))
 none)
 none)
 none)
 none)
 none)
 none)
 (some ((v1.1, (v1.2.1, (v1.2.2.1, (v1.2.2.2.1, (v5, v1.2.2.2.2.2))))), ()))) := by kernel_rfl
theorem q_impl_NewWorld (x0 : List UInt8) (x1 : List Int) : @Eq _ (c_impl_NewWorld (bodyK EE R L) x0 x1) ((c_impl_Init R x0 x1).bind fun r0 =>
 cond (!(eqI r0.2.1 0))
 (some ((([], ((0, (0, (0, (0, ([], ([], ([], ()))))))), (([], ([], ())), (false, (false, ()))))), (([], ([], ())), ([], ([], ([], (false, ())))))), (r0.2.1, ())))
 ((c_impl_Device_own R r0.1.2.2.1).bind fun r1 =>
 some ((r0.1, (r1.1, ([], ([], ([], (true, ())))))), (0, ())))) := by kernel_rfl
theorem q_laws_FnExactNewWorld (x0 : List UInt8) (x1 : List Int) : @Eq _ (c_laws_FnExactNewWorld (bodyK EE R L) x0 x1) (cond (decide (1048576 < (x0.length : Int)))
 (some (true, ()))
 (cond (decide (1048576 < (x1.length : Int)))
 (some (true, ()))
 ((c_laws_toIntS R x1).bind fun r0 =>
 (c_spec_NewWorld R x0 r0.1).bind fun r1 =>
 (c_laws_toIntS R x1).bind fun r2 =>
 (c_impl_NewWorld R x0 r2.1).bind fun r3 =>
 (c_laws_eqWorld R r3.1 r1.1).bind fun r4 =>
 cond (!r4.1)
 (some (false, ()))
 (cond (!(eqI r3.2.1 r1.2.1))
 (some (false, ()))
 ((c_laws_toIntS R x1).bind fun r5 =>
 (c_laws_eqIntS R r2.1 r5.1).bind fun r6 =>
 cond (!r6.1)
 (some (false, ()))
 ((c_laws_markIntS R r2.1 1).bind fun r7 =>
 cond (decide (r7.1 < 0))
 (some (false, ()))
 ((c_laws_eqWorld R r3.1 r1.1).bind fun r8 =>
 cond (!r8.1)
 (some (false, ()))
 (cond (!(eqI r3.2.1 r1.2.1))
 (some (false, ()))
 ((c_laws_markWorld R r3.1 1).bind fun r9 =>
 (c_laws_heldWorld R r9.2.1 1).bind fun r10 =>
 cond (decide (r10.1 < 0))
 (some (false, ()))
 (cond (!(eqI r10.1 r9.1))
 (some (false, ()))
 ((c_laws_toIntS R x1).bind fun r11 =>
 (c_impl_NewWorld R x0 r11.1).bind fun r12 =>
 (c_laws_eqWorld R r12.1 r1.1).bind fun r13 =>
 cond (!r13.1)
 (some (false, ()))
 (cond (!(eqI r12.2.1 r1.2.1))
 (some (false, ()))
 ((c_laws_heldWorld R r9.2.1 1).bind fun r14 =>
 cond (decide (r14.1 < 0))
 (some (false, ()))
 (cond (!(eqI r14.1 r9.1))
 (some (false, ()))
 (some (true, ())))))))))))))))) := by kernel_rfl
theorem q_slices_Clone___int_int_ (x0 : List Int) : @Eq _ (c_slices_Clone___int_int_ (bodyK EE R L) x0) (cond (Nat.beq x0.length 0)
 (agree
 (some ([], ()))
 (cond (lenOK (([] : List Int).length + x0.length))
 (some ([] ++ x0, ()))
 none))
 (cond (lenOK (([] : List Int).length + x0.length))
 (some ([] ++ x0, ()))
 none)) := by kernel_rfl
theorem q_impl_textOf (x0 : List Int) (x1 : Int) : @Eq _ (c_impl_textOf (bodyK EE R L) x0 x1) (cond (nonneg (IntKind.wrap .i64 (x1 - (x0.length : Int))))
 (cond (lenOK (IntKind.wrap .i64 (x1 - (x0.length : Int))).toNat)
 (cond (lenOK (x0.length + (List.replicate (IntKind.wrap .i64 (x1 - (x0.length : Int))).toNat (0 : Int)).length))
 ((c_impl_intsText R (x0 ++ (List.replicate (IntKind.wrap .i64 (x1 - (x0.length : Int))).toNat 0))).bind fun r0 =>
 some (r0.1, ()))
 none)
 none)
 none) := by kernel_rfl
theorem q_impl_blocksInts (x0 : List d67) : @Eq _ (c_impl_blocksInts (bodyK EE R L) x0) (lp_impl_blocksInts_0 R L [(x0.length : Int)] x0 (x0.length : Int) 0) := by kernel_rfl
theorem q_impl_blocksInts_0 (v3 : List Int) (v9 : List d67) (v10 v11 : Int) : @Eq _ (lp_impl_blocksInts_0 R L v3 v9 v10 v11 ([1, 1, 0, 1, 0] ++ [0])) (cond (decide (v11 < v10))
 (cond (nonneg v11)
 (cond (Nat.blt v11.toNat v9.length)
 (cond (lenOK (v3.length + ([(v9.getD v11.toNat (0, (0, (0, ())))).1, (v9.getD v11.toNat (0, (0, (0, ())))).2.1, (v9.getD v11.toNat (0, (0, (0, ())))).2.2.1]).length))
 (lp_impl_blocksInts_0 R L (v3 ++ [(v9.getD v11.toNat (0, (0, (0, ())))).1, (v9.getD v11.toNat (0, (0, (0, ())))).2.1, (v9.getD v11.toNat (0, (0, (0, ())))).2.2.1]) v9 v10 (IntKind.wrap .i64 (v11 + 1)))
 none)
 none)
 none)
 (some (v3, ()))) := by kernel_rfl
theorem q_impl_stateText (x0 : d77) (x1 : List d69) : @Eq _ (c_impl_stateText (bodyK EE R L) x0 x1) ((c_slices_Clone___int_int_ R x0.2.1.1).bind fun r0 =>
 (c_impl_blocksInts R x0.2.1.2.1).bind fun r1 =>
 cond (lenOK (r0.1.length + r1.1.length))
 (cond (lenOK ((r0.1 ++ r1.1).length + x0.1.length))
 (cond (lenOK (((r0.1 ++ r1.1) ++ x0.1).length + ([(x1.length : Int)]).length))
 (lp_impl_stateText_0 R L (((r0.1 ++ r1.1) ++ x0.1) ++ [(x1.length : Int)]) x1 (x1.length : Int) 0)
 none)
 none)
 none) := by kernel_rfl
theorem q_impl_stateText_0 (v5 : List Int) (v26 : List d69) (v27 v28 : Int) : @Eq _ (lp_impl_stateText_0 R L v5 v26 v27 v28 ([1, 1, 1, 1, 0, 1, 0] ++ [0])) (cond (decide (v28 < v27))
 (cond (nonneg v28)
 (cond (Nat.blt v28.toNat v26.length)
 (cond (lenOK (v5.length + ([(v26.getD v28.toNat (0, ([], ()))).1, ((v26.getD v28.toNat (0, ([], ()))).2.1.length : Int)]).length))
 (cond (lenOK ((v5 ++ [(v26.getD v28.toNat (0, ([], ()))).1, ((v26.getD v28.toNat (0, ([], ()))).2.1.length : Int)]).length + (v26.getD v28.toNat (0, ([], ()))).2.1.length))
 (lp_impl_stateText_0 R L ((v5 ++ [(v26.getD v28.toNat (0, ([], ()))).1, ((v26.getD v28.toNat (0, ([], ()))).2.1.length : Int)]) ++ (v26.getD v28.toNat (0, ([], ()))).2.1) v26 v27 (IntKind.wrap .i64 (v28 + 1)))
 none)
 none)
 none)
 none)
 ((c_impl_textOf R v5 140).bind fun r0 =>
 some (r0.1, ()))) := by kernel_rfl
theorem q_impl_bucketText (x0 : List d67) : @Eq _ (c_impl_bucketText (bodyK EE R L) x0) ((c_impl_blocksInts R x0).bind fun r0 =>
 (c_impl_textOf R r0.1 7).bind fun r1 =>
 some (r1.1, ())) := by kernel_rfl
theorem q_spec_l02Bytes (x0 : List Int) (x1 : Int) : @Eq _ (c_spec_l02Bytes (bodyK EE R L) x0 x1) (cond (lenOK (x0.length + ([IntKind.wrap .u8 x1, IntKind.wrap .u8 (Int.fdiv x1 (2 ^ (Min.min (8 : Int).toNat (IntKind.bits .i64)))), IntKind.wrap .u8 (Int.fdiv x1 (2 ^ (Min.min (16 : Int).toNat (IntKind.bits .i64)))), IntKind.wrap .u8 (Int.fdiv x1 (2 ^ (Min.min (24 : Int).toNat (IntKind.bits .i64))))]).length))
 (some (x0 ++ [IntKind.wrap .u8 x1, IntKind.wrap .u8 (Int.fdiv x1 (2 ^ (Min.min (8 : Int).toNat (IntKind.bits .i64)))), IntKind.wrap .u8 (Int.fdiv x1 (2 ^ (Min.min (16 : Int).toNat (IntKind.bits .i64)))), IntKind.wrap .u8 (Int.fdiv x1 (2 ^ (Min.min (24 : Int).toNat (IntKind.bits .i64))))], ()))
 none) := by kernel_rfl
theorem q_spec_l06Ints (x0 : List Int) : @Eq _ (c_spec_l06Ints (bodyK EE R L) x0) (lp_spec_l06Ints_0 R L x0 [] 0) := by kernel_rfl
theorem q_spec_l06Ints_0 (v0 v3 : List Int) (v4 : Int) : @Eq _ (lp_spec_l06Ints_0 R L v0 v3 v4 ([1, 1, 0, 1, 0] ++ [0])) (cond (decide (v4 < (v0.length : Int)))
 (cond (nonneg v4)
 (cond (Nat.blt v4.toNat v0.length)
 ((c_spec_l02Bytes R v3 (v0.getD v4.toNat 0)).bind fun r0 =>
 lp_spec_l06Ints_0 R L v0 r0.1 (IntKind.wrap .i64 (v4 + 1)))
 none)
 none)
 (some (List.map (fun (n : Int) => UInt8.ofNat n.toNat) v3, ()))) := by kernel_rfl
theorem q_spec_l12Fill (x0 : List Int) (x1 : Int) : @Eq _ (c_spec_l12Fill (bodyK EE R L) x0 x1) (lp_spec_l12Fill_0 R L x0 x1) := by kernel_rfl
theorem q_spec_l12Fill_0 (v0 : List Int) (v1 : Int) : @Eq _ (lp_spec_l12Fill_0 R L v0 v1 ([1, 0, 0] ++ [0])) (cond (decide ((v0.length : Int) < v1))
 (cond (lenOK (v0.length + ([(0 : Int)]).length))
 (lp_spec_l12Fill_0 R L (v0 ++ [0]) v1)
 none)
 ((c_spec_l06Ints R v0).bind fun r0 =>
 some (r0.1, ()))) := by kernel_rfl
theorem q_spec_l12State (x0 : d77) (x1 : List d69) : @Eq _ (c_spec_l12State (bodyK EE R L) x0 x1) (cond (lenOK (([] : List Int).length + x0.2.1.1.length))
 (cond (lenOK ((([] : List Int) ++ x0.2.1.1).length + ([(x0.2.1.2.1.length : Int)]).length))
 (lp_spec_l12State_0 R L x1 x0 (([] ++ x0.2.1.1) ++ [(x0.2.1.2.1.length : Int)]) 0)
 none)
 none) := by kernel_rfl
theorem q_spec_l12State_0 (v1 : List d69) (v2 : d77) (v5 : List Int) (v6 : Int) : @Eq _ (lp_spec_l12State_0 R L v1 v2 v5 v6 ([1, 1, 1, 0, 1, 0] ++ [0])) (cond (decide (v6 < (v2.2.1.2.1.length : Int)))
 (cond (nonneg v6)
 (cond (Nat.blt v6.toNat v2.2.1.2.1.length)
 (cond (nonneg v6)
 (cond (Nat.blt v6.toNat v2.2.1.2.1.length)
 (cond (nonneg v6)
 (cond (Nat.blt v6.toNat v2.2.1.2.1.length)
 (cond (lenOK (v5.length + ([(v2.2.1.2.1.getD v6.toNat (0, (0, (0, ())))).1, (v2.2.1.2.1.getD v6.toNat (0, (0, (0, ())))).2.1, (v2.2.1.2.1.getD v6.toNat (0, (0, (0, ())))).2.2.1]).length))
 (lp_spec_l12State_0 R L v1 v2 (v5 ++ [(v2.2.1.2.1.getD v6.toNat (0, (0, (0, ())))).1, (v2.2.1.2.1.getD v6.toNat (0, (0, (0, ())))).2.1, (v2.2.1.2.1.getD v6.toNat (0, (0, (0, ())))).2.2.1]) (IntKind.wrap .i64 (v6 + 1)))
 none)
 none)
 none)
 none)
 none)
 none)
 none)
 (cond (lenOK (v5.length + v2.1.length))
 (cond (lenOK ((v5 ++ v2.1).length + ([(v1.length : Int)]).length))
 (lp_spec_l12State_1 R L v1 ((v5 ++ v2.1) ++ [(v1.length : Int)]) 0)
 none)
 none)) := by kernel_rfl
theorem q_spec_l12State_1 (v1 : List d69) (v5 : List Int) (v7 : Int) : @Eq _ (lp_spec_l12State_1 R L v1 v5 v7 ([1, 1, 1, 1, 1, 1, 0, 1, 0] ++ [0])) (cond (decide (v7 < (v1.length : Int)))
 (cond (nonneg v7)
 (cond (Nat.blt v7.toNat v1.length)
 (cond (nonneg v7)
 (cond (Nat.blt v7.toNat v1.length)
 (cond (lenOK (v5.length + ([(v1.getD v7.toNat (0, ([], ()))).1, ((v1.getD v7.toNat (0, ([], ()))).2.1.length : Int)]).length))
 (cond (nonneg v7)
 (cond (Nat.blt v7.toNat v1.length)
 (cond (lenOK ((v5 ++ [(v1.getD v7.toNat (0, ([], ()))).1, ((v1.getD v7.toNat (0, ([], ()))).2.1.length : Int)]).length + (v1.getD v7.toNat (0, ([], ()))).2.1.length))
 (lp_spec_l12State_1 R L v1 ((v5 ++ [(v1.getD v7.toNat (0, ([], ()))).1, ((v1.getD v7.toNat (0, ([], ()))).2.1.length : Int)]) ++ (v1.getD v7.toNat (0, ([], ()))).2.1) (IntKind.wrap .i64 (v7 + 1)))
 none)
 none)
 none)
 none)
 none)
 none)
 none)
 none)
 ((c_spec_l12Fill R v5 140).bind fun r0 =>
 some (r0.1, ()))) := by kernel_rfl
theorem q_spec_l12Bucket (x0 : List d67) : @Eq _ (c_spec_l12Bucket (bodyK EE R L) x0) (lp_spec_l12Bucket_0 R L x0 [(x0.length : Int)] 0) := by kernel_rfl
theorem q_spec_l12Bucket_0 (v0 : List d67) (v3 : List Int) (v4 : Int) : @Eq _ (lp_spec_l12Bucket_0 R L v0 v3 v4 ([1, 1, 0, 1, 0] ++ [0])) (cond (decide (v4 < (v0.length : Int)))
 (cond (nonneg v4)
 (cond (Nat.blt v4.toNat v0.length)
 (cond (nonneg v4)
 (cond (Nat.blt v4.toNat v0.length)
 (cond (nonneg v4)
 (cond (Nat.blt v4.toNat v0.length)
 (cond (lenOK (v3.length + ([(v0.getD v4.toNat (0, (0, (0, ())))).1, (v0.getD v4.toNat (0, (0, (0, ())))).2.1, (v0.getD v4.toNat (0, (0, (0, ())))).2.2.1]).length))
 (lp_spec_l12Bucket_0 R L v0 (v3 ++ [(v0.getD v4.toNat (0, (0, (0, ())))).1, (v0.getD v4.toNat (0, (0, (0, ())))).2.1, (v0.getD v4.toNat (0, (0, (0, ())))).2.2.1]) (IntKind.wrap .i64 (v4 + 1)))
 none)
 none)
 none)
 none)
 none)
 none)
 none)
 ((c_spec_l12Fill R v3 7).bind fun r0 =>
 some (r0.1, ()))) := by kernel_rfl
theorem q_spec_l01Start : @Eq _ (c_spec_l01Start (bodyK EE R L)) (some ([1779033703, 3144134277, 1013904242, 2773480762, 1359893119, 2600822924, 528734635, 1541459225], ())) := by kernel_rfl
theorem q_spec_NewHash : @Eq _ (c_spec_NewHash (bodyK EE R L)) ((c_spec_l01Start R).bind fun r0 =>
 some ((r0.1, ([], (0, ()))), ())) := by kernel_rfl
theorem q_spec_l01Word (x0 : List UInt8) (x1 : Int) : @Eq _ (c_spec_l01Word (bodyK EE R L) x0 x1) (cond (nonneg x1)
 (cond (Nat.blt x1.toNat x0.length)
 (cond (nonneg (IntKind.wrap .i64 (x1 + 1)))
 (cond (Nat.blt (IntKind.wrap .i64 (x1 + 1)).toNat x0.length)
 (cond (nonneg (IntKind.wrap .i64 (x1 + 2)))
 (cond (Nat.blt (IntKind.wrap .i64 (x1 + 2)).toNat x0.length)
 (cond (nonneg (IntKind.wrap .i64 (x1 + 3)))
 (cond (Nat.blt (IntKind.wrap .i64 (x1 + 3)).toNat x0.length)
 (some (bitI .or .i64 (bitI .or .i64 (bitI .or .i64 (IntKind.wrap .i64 ((IntKind.wrap .i64 (UInt8.toNat (x0.getD x1.toNat 0) : Int)) * (2 ^ (Min.min (24 : Int).toNat (IntKind.bits .i64))))) (IntKind.wrap .i64 ((IntKind.wrap .i64 (UInt8.toNat (x0.getD (IntKind.wrap .i64 (x1 + 1)).toNat 0) : Int)) * (2 ^ (Min.min (16 : Int).toNat (IntKind.bits .i64)))))) (IntKind.wrap .i64 ((IntKind.wrap .i64 (UInt8.toNat (x0.getD (IntKind.wrap .i64 (x1 + 2)).toNat 0) : Int)) * (2 ^ (Min.min (8 : Int).toNat (IntKind.bits .i64)))))) (IntKind.wrap .i64 (UInt8.toNat (x0.getD (IntKind.wrap .i64 (x1 + 3)).toNat 0) : Int)), ()))
 none)
 none)
 none)
 none)
 none)
 none)
 none)
 none) := by kernel_rfl
theorem q_spec_l01Right (x0 x1 : Int) : @Eq _ (c_spec_l01Right (bodyK EE R L) x0 x1) (cond (decide (x1 < 0))
 none
 (cond (decide ((IntKind.wrap .i64 (32 - x1)) < 0))
 none
 (some (bitI .and .i64 (bitI .or .i64 (Int.fdiv x0 (2 ^ (Min.min x1.toNat (IntKind.bits .i64)))) (IntKind.wrap .i64 (x0 * (2 ^ (Min.min (IntKind.wrap .i64 (32 - x1)).toNat (IntKind.bits .i64)))))) 4294967295, ())))) := by kernel_rfl
theorem q_spec_l01Table : @Eq _ (c_spec_l01Table (bodyK EE R L)) (some ([1116352408, 1899447441, 3049323471, 3921009573, 961987163, 1508970993, 2453635748, 2870763221, 3624381080, 310598401, 607225278, 1426881987, 1925078388, 2162078206, 2614888103, 3248222580, 3835390401, 4022224774, 264347078, 604807628, 770255983, 1249150122, 1555081692, 1996064986, 2554220882, 2821834349, 2952996808, 3210313671, 3336571891, 3584528711, 113926993, 338241895, 666307205, 773529912, 1294757372, 1396182291, 1695183700, 1986661051, 2177026350, 2456956037, 2730485921, 2820302411, 3259730800, 3345764771, 3516065817, 3600352804, 4094571909, 275423344, 430227734, 506948616, 659060556, 883997877, 958139571, 1322822218, 1537002063, 1747873779, 1955562222, 2024104815, 2227730452, 2361852424, 2428436474, 2756734187, 3204031479, 3329325298], ())) := by kernel_rfl
theorem q_spec_l01Block (x0 : List Int) (x1 : List UInt8) : @Eq _ (c_spec_l01Block (bodyK EE R L) x0 x1) (lp_spec_l01Block_0 R L x1 x0 (List.replicate 8 0) [0, 0, 0, 0, 0, 0, 0, 0, 0, 0, 0, 0, 0, 0, 0, 0, 0, 0, 0, 0, 0, 0, 0, 0, 0, 0, 0, 0, 0, 0, 0, 0, 0, 0, 0, 0, 0, 0, 0, 0, 0, 0, 0, 0, 0, 0, 0, 0, 0, 0, 0, 0, 0, 0, 0, 0, 0, 0, 0, 0, 0, 0, 0, 0] 0) := by kernel_rfl
theorem q_spec_l01Block_0 (v1 : List UInt8) (v2 v4 v5 : List Int) (v6 : Int) : @Eq _ (lp_spec_l01Block_0 R L v1 v2 v4 v5 v6 ([1, 1, 0, 1, 0] ++ [0])) (cond (decide (v6 < 16))
 ((c_spec_l01Word R v1 (IntKind.wrap .i64 (4 * v6))).bind fun r0 =>
 cond (nonneg v6)
 (cond (Nat.blt v6.toNat 64)
 (lp_spec_l01Block_0 R L v1 v2 v4 (v5.set v6.toNat r0.1) (IntKind.wrap .i64 (v6 + 1)))
 none)
 none)
 (lp_spec_l01Block_1 R L v2 v4 v5 16)) := by kernel_rfl
theorem q_spec_l01Block_1 (v2 v4 v5 : List Int) (v7 : Int) : @Eq _ (lp_spec_l01Block_1 R L v2 v4 v5 v7 ([1, 1, 1, 0, 1, 0] ++ [0])) (cond (decide (v7 < 64))
 (cond (nonneg (IntKind.wrap .i64 (v7 - 15)))
 (cond (Nat.blt (IntKind.wrap .i64 (v7 - 15)).toNat 64)
 ((c_spec_l01Right R (v5.getD (IntKind.wrap .i64 (v7 - 15)).toNat 0) 7).bind fun r0 =>
 cond (nonneg (IntKind.wrap .i64 (v7 - 15)))
 (cond (Nat.blt (IntKind.wrap .i64 (v7 - 15)).toNat 64)
 ((c_spec_l01Right R (v5.getD (IntKind.wrap .i64 (v7 - 15)).toNat 0) 18).bind fun r1 =>
 cond (nonneg (IntKind.wrap .i64 (v7 - 15)))
 (cond (Nat.blt (IntKind.wrap .i64 (v7 - 15)).toNat 64)
 (cond (nonneg (IntKind.wrap .i64 (v7 - 2)))
 (cond (Nat.blt (IntKind.wrap .i64 (v7 - 2)).toNat 64)
 ((c_spec_l01Right R (v5.getD (IntKind.wrap .i64 (v7 - 2)).toNat 0) 17).bind fun r2 =>
 cond (nonneg (IntKind.wrap .i64 (v7 - 2)))
 (cond (Nat.blt (IntKind.wrap .i64 (v7 - 2)).toNat 64)
 ((c_spec_l01Right R (v5.getD (IntKind.wrap .i64 (v7 - 2)).toNat 0) 19).bind fun r3 =>
 cond (nonneg (IntKind.wrap .i64 (v7 - 2)))
 (cond (Nat.blt (IntKind.wrap .i64 (v7 - 2)).toNat 64)
 (cond (nonneg (IntKind.wrap .i64 (v7 - 16)))
 (cond (Nat.blt (IntKind.wrap .i64 (v7 - 16)).toNat 64)
 (cond (nonneg (IntKind.wrap .i64 (v7 - 7)))
 (cond (Nat.blt (IntKind.wrap .i64 (v7 - 7)).toNat 64)
 (cond (nonneg v7)
 (cond (Nat.blt v7.toNat 64)
 (lp_spec_l01Block_1 R L v2 v4 (v5.set v7.toNat (bitI .and .i64 (IntKind.wrap .i64 ((IntKind.wrap .i64 ((IntKind.wrap .i64 ((v5.getD (IntKind.wrap .i64 (v7 - 16)).toNat 0) + (bitI .xor .i64 (bitI .xor .i64 r0.1 r1.1) (Int.fdiv (v5.getD (IntKind.wrap .i64 (v7 - 15)).toNat 0) (2 ^ (Min.min (3 : Int).toNat (IntKind.bits .i64))))))) + (v5.getD (IntKind.wrap .i64 (v7 - 7)).toNat 0))) + (bitI .xor .i64 (bitI .xor .i64 r2.1 r3.1) (Int.fdiv (v5.getD (IntKind.wrap .i64 (v7 - 2)).toNat 0) (2 ^ (Min.min (10 : Int).toNat (IntKind.bits .i64))))))) 4294967295)) (IntKind.wrap .i64 (v7 + 1)))
 none)
 none)
 none)
 none)
 none)
 none)
 none)
 none)
 none)
 none)
 none)
 none)
 none)
 none)
 none)
 none)
 none)
 none)
 ((c_spec_l01Table R).bind fun r0 =>
 lp_spec_l01Block_2 R L v2 v4 v5 r0.1 v2 0)) := by kernel_rfl
theorem q_spec_l01Block_2 (v2 v4 v5 v10 v11 : List Int) (v12 : Int) : @Eq _ (lp_spec_l01Block_2 R L v2 v4 v5 v10 v11 v12 ([1, 1, 1, 1, 1, 1, 0, 1, 0] ++ [0])) (cond (decide (v12 < 64))
 ((c_spec_l01Right R (v11.getD (4 : Int).toNat 0) 6).bind fun r0 =>
 (c_spec_l01Right R (v11.getD (4 : Int).toNat 0) 11).bind fun r1 =>
 (c_spec_l01Right R (v11.getD (4 : Int).toNat 0) 25).bind fun r2 =>
 cond (nonneg v12)
 (cond (Nat.blt v12.toNat 64)
 (cond (nonneg v12)
 (cond (Nat.blt v12.toNat 64)
 ((c_spec_l01Right R (v11.getD (0 : Int).toNat 0) 2).bind fun r3 =>
 (c_spec_l01Right R (v11.getD (0 : Int).toNat 0) 13).bind fun r4 =>
 (c_spec_l01Right R (v11.getD (0 : Int).toNat 0) 22).bind fun r5 =>
 lp_spec_l01Block_2 R L v2 v4 v5 v10 [bitI .and .i64 (IntKind.wrap .i64 ((IntKind.wrap .i64 ((IntKind.wrap .i64 ((IntKind.wrap .i64 ((IntKind.wrap .i64 ((IntKind.wrap .i64 ((v11.getD (7 : Int).toNat 0) + (bitI .xor .i64 (bitI .xor .i64 r0.1 r1.1) r2.1))) + (bitI .xor .i64 (bitI .and .i64 (v11.getD (4 : Int).toNat 0) (v11.getD (5 : Int).toNat 0)) (bitI .and .i64 (bitI .xor .i64 4294967295 (v11.getD (4 : Int).toNat 0)) (v11.getD (6 : Int).toNat 0))))) + (v10.getD v12.toNat 0))) + (v5.getD v12.toNat 0))) + (bitI .xor .i64 (bitI .xor .i64 r3.1 r4.1) r5.1))) + (bitI .xor .i64 (bitI .xor .i64 (bitI .and .i64 (v11.getD (0 : Int).toNat 0) (v11.getD (1 : Int).toNat 0)) (bitI .and .i64 (v11.getD (0 : Int).toNat 0) (v11.getD (2 : Int).toNat 0))) (bitI .and .i64 (v11.getD (1 : Int).toNat 0) (v11.getD (2 : Int).toNat 0))))) 4294967295, v11.getD (0 : Int).toNat 0, v11.getD (1 : Int).toNat 0, v11.getD (2 : Int).toNat 0, bitI .and .i64 (IntKind.wrap .i64 ((v11.getD (3 : Int).toNat 0) + (IntKind.wrap .i64 ((IntKind.wrap .i64 ((IntKind.wrap .i64 ((IntKind.wrap .i64 ((v11.getD (7 : Int).toNat 0) + (bitI .xor .i64 (bitI .xor .i64 r0.1 r1.1) r2.1))) + (bitI .xor .i64 (bitI .and .i64 (v11.getD (4 : Int).toNat 0) (v11.getD (5 : Int).toNat 0)) (bitI .and .i64 (bitI .xor .i64 4294967295 (v11.getD (4 : Int).toNat 0)) (v11.getD (6 : Int).toNat 0))))) + (v10.getD v12.toNat 0))) + (v5.getD v12.toNat 0))))) 4294967295, v11.getD (4 : Int).toNat 0, v11.getD (5 : Int).toNat 0, v11.getD (6 : Int).toNat 0] (IntKind.wrap .i64 (v12 + 1)))
 none)
 none)
 none)
 none)
 (lp_spec_l01Block_3 R L v2 v4 v11 0)) := by kernel_rfl
theorem q_spec_l01Block_3 (v2 v4 v11 : List Int) (v18 : Int) : @Eq _ (lp_spec_l01Block_3 R L v2 v4 v11 v18 ([1, 1, 1, 1, 1, 1, 1, 0, 1, 0] ++ [0])) (cond (decide (v18 < 8))
 (cond (nonneg v18)
 (cond (Nat.blt v18.toNat 8)
 (cond (nonneg v18)
 (cond (Nat.blt v18.toNat 8)
 (cond (nonneg v18)
 (cond (Nat.blt v18.toNat 8)
 (lp_spec_l01Block_3 R L (v2.set v18.toNat (bitI .and .i64 (IntKind.wrap .i64 ((v2.getD v18.toNat 0) + (v11.getD v18.toNat 0))) 4294967295)) v4 v11 (IntKind.wrap .i64 (v18 + 1)))
 none)
 none)
 none)
 none)
 none)
 none)
 (some (v2, ()))) := by kernel_rfl
theorem q_spec_l01More (x0 : d78) (x1 : List UInt8) : @Eq _ (c_spec_l01More (bodyK EE R L) x0 x1) (cond (lenOK (x0.2.1.length + x1.length))
 (lp_spec_l01More_0 R L (x0.1, (x0.2.1 ++ x1, (IntKind.wrap .i64 (x0.2.2.1 + (x1.length : Int)), x0.2.2.2))) (List.replicate 8 0, ([], (0, ()))))
 none) := by kernel_rfl
theorem q_spec_l01More_0 (v2 v4 : d78) : @Eq _ (lp_spec_l01More_0 R L v2 v4 ([1, 1, 1, 0, 0] ++ [0])) (cond (decide (64 ≤ (v2.2.1.length : Int)))
 ((c_spec_l01Block R v2.1 v2.2.1).bind fun r0 =>
 cond (Nat.ble v2.2.1.length v2.2.1.length)
 (cond (Nat.ble (64 : Int).toNat v2.2.1.length)
 (lp_spec_l01More_0 R L (r0.1, (List.drop (64 : Int).toNat (List.take v2.2.1.length v2.2.1), v2.2.2)) v4)
 none)
 none)
 (some (v2, ()))) := by kernel_rfl
theorem q_spec_l01Sum (x0 : d78) : @Eq _ (c_spec_l01Sum (bodyK EE R L) x0) (lp_spec_l01Sum_0 R L x0 (IntKind.wrap .i64 (8 * x0.2.2.1)) [128]) := by kernel_rfl
theorem q_spec_l01Sum_0 (v1 : d78) (v3 : Int) (v4 : List Int) : @Eq _ (lp_spec_l01Sum_0 R L v1 v3 v4 ([1, 1, 1, 0, 0] ++ [0])) (cond (!(eqI (Int.tmod (IntKind.wrap .i64 (v1.2.2.1 + (v4.length : Int))) 64) 56))
 (cond (lenOK (v4.length + ([(0 : Int)]).length))
 (lp_spec_l01Sum_0 R L v1 v3 (v4 ++ [0]))
 none)
 (lp_spec_l01Sum_1 R L v1 v3 v4 7)) := by kernel_rfl
theorem q_spec_l01Sum_1 (v1 : d78) (v3 : Int) (v4 : List Int) (v5 : Int) : @Eq _ (lp_spec_l01Sum_1 R L v1 v3 v4 v5 ([1, 1, 1, 1, 0, 1, 0] ++ [0])) (cond (decide (0 ≤ v5))
 (cond (decide ((IntKind.wrap .i64 (8 * v5)) < 0))
 none
 (cond (lenOK (v4.length + ([IntKind.wrap .u8 (Int.fdiv v3 (2 ^ (Min.min (IntKind.wrap .i64 (8 * v5)).toNat (IntKind.bits .i64))))]).length))
 (lp_spec_l01Sum_1 R L v1 v3 (v4 ++ [IntKind.wrap .u8 (Int.fdiv v3 (2 ^ (Min.min (IntKind.wrap .i64 (8 * v5)).toNat (IntKind.bits .i64))))]) (IntKind.wrap .i64 (v5 - 1)))
 none))
 ((c_spec_l01More R v1 (List.map (fun (n : Int) => UInt8.ofNat n.toNat) v4)).bind fun r0 =>
 lp_spec_l01Sum_2 R L r0.1 [] 0)) := by kernel_rfl
theorem q_spec_l01Sum_2 (v1 : d78) (v6 : List Int) (v7 : Int) : @Eq _ (lp_spec_l01Sum_2 R L v1 v6 v7 ([1, 1, 1, 1, 1, 1, 1, 0, 1, 0] ++ [0])) (cond (decide (v7 < 8))
 (lp_spec_l01Sum_3 R L v1 v6 v7 3)
 (some (List.map (fun (n : Int) => UInt8.ofNat n.toNat) v6, ()))) := by kernel_rfl
theorem q_spec_l01Sum_3 (v1 : d78) (v6 : List Int) (v7 v8 : Int) : @Eq _ (lp_spec_l01Sum_3 R L v1 v6 v7 v8 ([1, 1, 1, 1, 1, 1, 1, 0, 1, 0, 0, 1, 0, 0, 1, 0] ++ [0])) (cond (decide (0 ≤ v8))
 (cond (nonneg v7)
 (cond (Nat.blt v7.toNat 8)
 (cond (decide ((IntKind.wrap .i64 (8 * v8)) < 0))
 none
 (cond (lenOK (v6.length + ([IntKind.wrap .u8 (Int.fdiv (v1.1.getD v7.toNat 0) (2 ^ (Min.min (IntKind.wrap .i64 (8 * v8)).toNat (IntKind.bits .i64))))]).length))
 (lp_spec_l01Sum_3 R L v1 (v6 ++ [IntKind.wrap .u8 (Int.fdiv (v1.1.getD v7.toNat 0) (2 ^ (Min.min (IntKind.wrap .i64 (8 * v8)).toNat (IntKind.bits .i64))))]) v7 (IntKind.wrap .i64 (v8 - 1)))
 none))
 none)
 none)
 (lp_spec_l01Sum_2 R L v1 v6 (IntKind.wrap .i64 (v7 + 1)))) := by kernel_rfl
theorem q_spec_l01Of (x0 : List UInt8) : @Eq _ (c_spec_l01Of (bodyK EE R L) x0) ((c_spec_NewHash R).bind fun r0 =>
 (c_spec_l01More R r0.1 x0).bind fun r1 =>
 (c_spec_l01Sum R r1.1).bind fun r2 =>
 some (r2.1, ())) := by kernel_rfl
theorem q_impl_NewHash : @Eq _ (c_impl_NewHash (bodyK EE R L)) (some (([1779033703, 3144134277, 1013904242, 2773480762, 1359893119, 2600822924, 528734635, 1541459225], ([], (0, ()))), ())) := by kernel_rfl
theorem q_impl_constants : @Eq _ (c_impl_constants (bodyK EE R L)) (some ([1116352408, 1899447441, 3049323471, 3921009573, 961987163, 1508970993, 2453635748, 2870763221, 3624381080, 310598401, 607225278, 1426881987, 1925078388, 2162078206, 2614888103, 3248222580, 3835390401, 4022224774, 264347078, 604807628, 770255983, 1249150122, 1555081692, 1996064986, 2554220882, 2821834349, 2952996808, 3210313671, 3336571891, 3584528711, 113926993, 338241895, 666307205, 773529912, 1294757372, 1396182291, 1695183700, 1986661051, 2177026350, 2456956037, 2730485921, 2820302411, 3259730800, 3345764771, 3516065817, 3600352804, 4094571909, 275423344, 430227734, 506948616, 659060556, 883997877, 958139571, 1322822218, 1537002063, 1747873779, 1955562222, 2024104815, 2227730452, 2361852424, 2428436474, 2756734187, 3204031479, 3329325298], ())) := by kernel_rfl
theorem q_math_bits_RotateLeft32 (x0 x1 : Int) : @Eq _ (c_math_bits_RotateLeft32 (bodyK EE R L) x0 x1) (cond (decide ((IntKind.wrap .u64 (32 - (bitI .and .u64 (IntKind.wrap .u64 x1) 31))) < 0))
 none
 (some (bitI .or .u32 (IntKind.wrap .u32 (x0 * (2 ^ (Min.min (bitI .and .u64 (IntKind.wrap .u64 x1) 31).toNat (IntKind.bits .u32))))) (Int.fdiv x0 (2 ^ (Min.min (IntKind.wrap .u64 (32 - (bitI .and .u64 (IntKind.wrap .u64 x1) 31))).toNat (IntKind.bits .u32)))), ()))) := by kernel_rfl
theorem q_impl_turned (x0 x1 : Int) : @Eq _ (c_impl_turned (bodyK EE R L) x0 x1) ((c_math_bits_RotateLeft32 R x0 (negI .i64 x1)).bind fun r0 =>
 some (r0.1, ())) := by kernel_rfl
theorem q_pimpl_Hash_block (x0 : d78) (x1 : List UInt8) (x2 : List Int) : @Eq _ (c_pimpl_Hash_block (bodyK EE R L) x0 x1 x2) (lp_pimpl_Hash_block_0 R L x0 x1 x2 (List.replicate 64 0) 0) := by kernel_rfl
theorem q_pimpl_Hash_block_0 (v0 : d78) (v1 : List UInt8) (v2 v6 : List Int) (v25 : Int) : @Eq _ (lp_pimpl_Hash_block_0 R L v0 v1 v2 v6 v25 ([1, 0, 1, 0] ++ [0])) (cond (decide (v25 < 16))
 (cond (nonneg (IntKind.wrap .i64 (4 * v25)))
 (cond (Nat.blt (IntKind.wrap .i64 (4 * v25)).toNat v1.length)
 (cond (nonneg (IntKind.wrap .i64 ((IntKind.wrap .i64 (4 * v25)) + 1)))
 (cond (Nat.blt (IntKind.wrap .i64 ((IntKind.wrap .i64 (4 * v25)) + 1)).toNat v1.length)
 (cond (nonneg (IntKind.wrap .i64 ((IntKind.wrap .i64 (4 * v25)) + 2)))
 (cond (Nat.blt (IntKind.wrap .i64 ((IntKind.wrap .i64 (4 * v25)) + 2)).toNat v1.length)
 (cond (nonneg (IntKind.wrap .i64 ((IntKind.wrap .i64 (4 * v25)) + 3)))
 (cond (Nat.blt (IntKind.wrap .i64 ((IntKind.wrap .i64 (4 * v25)) + 3)).toNat v1.length)
 (cond (nonneg v25)
 (cond (Nat.blt v25.toNat 64)
 (lp_pimpl_Hash_block_0 R L v0 v1 v2 (v6.set v25.toNat (bitI .or .u32 (bitI .or .u32 (bitI .or .u32 (IntKind.wrap .u32 ((IntKind.wrap .u32 (UInt8.toNat (v1.getD (IntKind.wrap .i64 (4 * v25)).toNat 0) : Int)) * (2 ^ (Min.min (24 : Int).toNat (IntKind.bits .u32))))) (IntKind.wrap .u32 ((IntKind.wrap .u32 (UInt8.toNat (v1.getD (IntKind.wrap .i64 ((IntKind.wrap .i64 (4 * v25)) + 1)).toNat 0) : Int)) * (2 ^ (Min.min (16 : Int).toNat (IntKind.bits .u32)))))) (IntKind.wrap .u32 ((IntKind.wrap .u32 (UInt8.toNat (v1.getD (IntKind.wrap .i64 ((IntKind.wrap .i64 (4 * v25)) + 2)).toNat 0) : Int)) * (2 ^ (Min.min (8 : Int).toNat (IntKind.bits .u32)))))) (IntKind.wrap .u32 (UInt8.toNat (v1.getD (IntKind.wrap .i64 ((IntKind.wrap .i64 (4 * v25)) + 3)).toNat 0) : Int)))) (IntKind.wrap .i64 (v25 + 1)))
 none)
 none)
 none)
 none)
 none)
 none)
 none)
 none)
 none)
 none)
 (lp_pimpl_Hash_block_1 R L v0 v2 v6 16)) := by kernel_rfl
theorem q_pimpl_Hash_block_1 (v0 : d78) (v2 v6 : List Int) (v8 : Int) : @Eq _ (lp_pimpl_Hash_block_1 R L v0 v2 v6 v8 ([1, 1, 0, 1, 0] ++ [0])) (cond (decide (v8 < 64))
 (cond (nonneg (IntKind.wrap .i64 (v8 - 15)))
 (cond (Nat.blt (IntKind.wrap .i64 (v8 - 15)).toNat 64)
 (cond (nonneg (IntKind.wrap .i64 (v8 - 2)))
 (cond (Nat.blt (IntKind.wrap .i64 (v8 - 2)).toNat 64)
 (cond (nonneg (IntKind.wrap .i64 (v8 - 16)))
 (cond (Nat.blt (IntKind.wrap .i64 (v8 - 16)).toNat 64)
 ((c_impl_turned R (v6.getD (IntKind.wrap .i64 (v8 - 15)).toNat 0) 7).bind fun r0 =>
 (c_impl_turned R (v6.getD (IntKind.wrap .i64 (v8 - 15)).toNat 0) 18).bind fun r1 =>
 cond (nonneg (IntKind.wrap .i64 (v8 - 7)))
 (cond (Nat.blt (IntKind.wrap .i64 (v8 - 7)).toNat 64)
 ((c_impl_turned R (v6.getD (IntKind.wrap .i64 (v8 - 2)).toNat 0) 17).bind fun r2 =>
 (c_impl_turned R (v6.getD (IntKind.wrap .i64 (v8 - 2)).toNat 0) 19).bind fun r3 =>
 cond (nonneg v8)
 (cond (Nat.blt v8.toNat 64)
 (lp_pimpl_Hash_block_1 R L v0 v2 (v6.set v8.toNat (IntKind.wrap .u32 ((IntKind.wrap .u32 ((IntKind.wrap .u32 ((v6.getD (IntKind.wrap .i64 (v8 - 16)).toNat 0) + (bitI .xor .u32 (bitI .xor .u32 r0.1 r1.1) (Int.fdiv (v6.getD (IntKind.wrap .i64 (v8 - 15)).toNat 0) (2 ^ (Min.min (3 : Int).toNat (IntKind.bits .u32))))))) + (v6.getD (IntKind.wrap .i64 (v8 - 7)).toNat 0))) + (bitI .xor .u32 (bitI .xor .u32 r2.1 r3.1) (Int.fdiv (v6.getD (IntKind.wrap .i64 (v8 - 2)).toNat 0) (2 ^ (Min.min (10 : Int).toNat (IntKind.bits .u32)))))))) (IntKind.wrap .i64 (v8 + 1)))
 none)
 none)
 none)
 none)
 none)
 none)
 none)
 none)
 none)
 none)
 (lp_pimpl_Hash_block_2 R L v0 v2 v6 (List.replicate 8 0) v0.1 0)) := by kernel_rfl
theorem q_pimpl_Hash_block_2 (v0 : d78) (v2 v6 v11 v104 : List Int) (v105 : Int) : @Eq _ (lp_pimpl_Hash_block_2 R L v0 v2 v6 v11 v104 v105 ([1, 1, 1, 1, 0, 1, 0] ++ [0])) (cond (decide (v105 < 8))
 (cond (nonneg v105)
 (cond (Nat.blt v105.toNat 8)
 (cond (nonneg v105)
 (cond (Nat.blt v105.toNat 8)
 (lp_pimpl_Hash_block_2 R L v0 v2 v6 (v11.set v105.toNat (IntKind.wrap .u32 (v104.getD v105.toNat 0))) v104 (IntKind.wrap .i64 (v105 + 1)))
 none)
 none)
 none)
 none)
 (lp_pimpl_Hash_block_3 R L v0 v2 v6 v11 0)) := by kernel_rfl
theorem q_pimpl_Hash_block_3 (v0 : d78) (v2 v6 v11 : List Int) (v114 : Int) : @Eq _ (lp_pimpl_Hash_block_3 R L v0 v2 v6 v11 v114 ([1, 1, 1, 1, 1, 0, 1, 0] ++ [0])) (cond (decide (v114 < 64))
 ((c_impl_turned R (v11.getD (4 : Int).toNat 0) 6).bind fun r0 =>
 (c_impl_turned R (v11.getD (4 : Int).toNat 0) 11).bind fun r1 =>
 (c_impl_turned R (v11.getD (4 : Int).toNat 0) 25).bind fun r2 =>
 cond (nonneg v114)
 (cond (Nat.blt v114.toNat 64)
 (cond (nonneg v114)
 (cond (Nat.blt v114.toNat 64)
 ((c_impl_turned R (v11.getD (0 : Int).toNat 0) 2).bind fun r3 =>
 (c_impl_turned R (v11.getD (0 : Int).toNat 0) 13).bind fun r4 =>
 (c_impl_turned R (v11.getD (0 : Int).toNat 0) 22).bind fun r5 =>
 lp_pimpl_Hash_block_3 R L v0 v2 v6 [IntKind.wrap .u32 ((IntKind.wrap .u32 ((IntKind.wrap .u32 ((IntKind.wrap .u32 ((IntKind.wrap .u32 ((v11.getD (7 : Int).toNat 0) + (bitI .xor .u32 (bitI .xor .u32 r0.1 r1.1) r2.1))) + (bitI .xor .u32 (bitI .and .u32 (v11.getD (4 : Int).toNat 0) (v11.getD (5 : Int).toNat 0)) (bitI .and .u32 (bitI .xor .u32 ((2 ^ (IntKind.bits .u32)) - 1) (v11.getD (4 : Int).toNat 0)) (v11.getD (6 : Int).toNat 0))))) + (v2.getD v114.toNat 0))) + (v6.getD v114.toNat 0))) + (IntKind.wrap .u32 ((bitI .xor .u32 (bitI .xor .u32 r3.1 r4.1) r5.1) + (bitI .xor .u32 (bitI .xor .u32 (bitI .and .u32 (v11.getD (0 : Int).toNat 0) (v11.getD (1 : Int).toNat 0)) (bitI .and .u32 (v11.getD (0 : Int).toNat 0) (v11.getD (2 : Int).toNat 0))) (bitI .and .u32 (v11.getD (1 : Int).toNat 0) (v11.getD (2 : Int).toNat 0)))))), v11.getD (0 : Int).toNat 0, v11.getD (1 : Int).toNat 0, v11.getD (2 : Int).toNat 0, IntKind.wrap .u32 ((v11.getD (3 : Int).toNat 0) + (IntKind.wrap .u32 ((IntKind.wrap .u32 ((IntKind.wrap .u32 ((IntKind.wrap .u32 ((v11.getD (7 : Int).toNat 0) + (bitI .xor .u32 (bitI .xor .u32 r0.1 r1.1) r2.1))) + (bitI .xor .u32 (bitI .and .u32 (v11.getD (4 : Int).toNat 0) (v11.getD (5 : Int).toNat 0)) (bitI .and .u32 (bitI .xor .u32 ((2 ^ (IntKind.bits .u32)) - 1) (v11.getD (4 : Int).toNat 0)) (v11.getD (6 : Int).toNat 0))))) + (v2.getD v114.toNat 0))) + (v6.getD v114.toNat 0)))), v11.getD (4 : Int).toNat 0, v11.getD (5 : Int).toNat 0, v11.getD (6 : Int).toNat 0] (IntKind.wrap .i64 (v114 + 1)))
 none)
 none)
 none)
 none)
 (lp_pimpl_Hash_block_4 R L v0 v11 0)) := by kernel_rfl
theorem q_pimpl_Hash_block_4 (v0 : d78) (v194 : List Int) (v195 : Int) : @Eq _ (lp_pimpl_Hash_block_4 R L v0 v194 v195 ([1, 1, 1, 1, 1, 1, 1, 0] ++ [0])) (cond (decide (v195 < 8))
 (cond (nonneg v195)
 (cond (Nat.blt v195.toNat 8)
 (cond (nonneg v195)
 (cond (Nat.blt v195.toNat 8)
 (cond (nonneg v195)
 (cond (Nat.blt v195.toNat 8)
 (lp_pimpl_Hash_block_4 R L (v0.1.set v195.toNat (IntKind.wrap .i64 (IntKind.wrap .u32 ((IntKind.wrap .u32 (v0.1.getD v195.toNat 0)) + (v194.getD v195.toNat 0)))), v0.2) v194 (IntKind.wrap .i64 (v195 + 1)))
 none)
 none)
 none)
 none)
 none)
 none)
 (some (v0, ()))) := by kernel_rfl
theorem q_impl_Hash_more (x0 : d78) (x1 : List UInt8) : @Eq _ (c_impl_Hash_more (bodyK EE R L) x0 x1) ((c_impl_constants R).bind fun r0 =>
 cond (lenOK (x0.2.1.length + x1.length))
 (lp_impl_Hash_more_0 R L (x0.2.1 ++ x1) (x0.1, (x0.2.1, (IntKind.wrap .i64 (x0.2.2.1 + (x1.length : Int)), x0.2.2.2))) (List.replicate 8 0, ([], (0, ()))) r0.1)
 none) := by kernel_rfl
theorem q_impl_Hash_more_0 (v1 : List UInt8) (v2 v4 : d78) (v5 : List Int) : @Eq _ (lp_impl_Hash_more_0 R L v1 v2 v4 v5 ([1, 1, 1, 1, 0, 0] ++ [0])) (cond (decide (64 ≤ (v1.length : Int)))
 (cond (Nat.ble (64 : Int).toNat v1.length)
 ((c_pimpl_Hash_block R v2 (List.drop 0 (List.take (64 : Int).toNat v1)) v5).bind fun r0 =>
 cond (Nat.ble v1.length v1.length)
 (cond (Nat.ble (64 : Int).toNat v1.length)
 (lp_impl_Hash_more_0 R L (List.drop (64 : Int).toNat (List.take v1.length v1)) r0.1 v4 v5)
 none)
 none)
 none)
 (some ((v2.1, (v1, v2.2.2)), ()))) := by kernel_rfl
theorem q_impl_Hash_sum (x0 : d78) : @Eq _ (c_impl_Hash_sum (bodyK EE R L) x0) ((c_strings_Repeat R [0] (Int.tmod (IntKind.wrap .i64 (119 - (x0.2.1.length : Int))) 64)).bind fun r0 =>
 cond (lenOK (([(128 : UInt8)]).length + r0.1.length))
 (lp_impl_Hash_sum_0 R L x0 (IntKind.wrap .i64 (8 * x0.2.2.1)) ([128] ++ r0.1) 7)
 none) := by kernel_rfl
theorem q_impl_Hash_sum_0 (v1 : d78) (v3 : Int) (v4 : List UInt8) (v5 : Int) : @Eq _ (lp_impl_Hash_sum_0 R L v1 v3 v4 v5 ([1, 1, 1, 0, 1, 0] ++ [0])) (cond (decide (0 ≤ v5))
 (cond (decide ((IntKind.wrap .i64 (8 * v5)) < 0))
 none
 (cond (lenOK (v4.length + (List.map (fun (n : Int) => UInt8.ofNat n.toNat) [IntKind.wrap .u8 (Int.fdiv v3 (2 ^ (Min.min (IntKind.wrap .i64 (8 * v5)).toNat (IntKind.bits .i64))))]).length))
 (lp_impl_Hash_sum_0 R L v1 v3 (v4 ++ (List.map (fun (n : Int) => UInt8.ofNat n.toNat) [IntKind.wrap .u8 (Int.fdiv v3 (2 ^ (Min.min (IntKind.wrap .i64 (8 * v5)).toNat (IntKind.bits .i64))))])) (IntKind.wrap .i64 (v5 - 1)))
 none))
 ((c_impl_Hash_more R v1 v4).bind fun r0 =>
 lp_impl_Hash_sum_1 R L [] r0.1.1 0)) := by kernel_rfl
theorem q_impl_Hash_sum_1 (v6 v35 : List Int) (v36 : Int) : @Eq _ (lp_impl_Hash_sum_1 R L v6 v35 v36 ([1, 1, 1, 1, 1, 0, 1, 0] ++ [0])) (cond (decide (v36 < 8))
 (cond (nonneg v36)
 (cond (Nat.blt v36.toNat 8)
 (cond (lenOK (v6.length + ([IntKind.wrap .u8 (Int.fdiv (v35.getD v36.toNat 0) (2 ^ (Min.min (24 : Int).toNat (IntKind.bits .i64)))), IntKind.wrap .u8 (Int.fdiv (v35.getD v36.toNat 0) (2 ^ (Min.min (16 : Int).toNat (IntKind.bits .i64)))), IntKind.wrap .u8 (Int.fdiv (v35.getD v36.toNat 0) (2 ^ (Min.min (8 : Int).toNat (IntKind.bits .i64)))), IntKind.wrap .u8 (v35.getD v36.toNat 0)]).length))
 (lp_impl_Hash_sum_1 R L (v6 ++ [IntKind.wrap .u8 (Int.fdiv (v35.getD v36.toNat 0) (2 ^ (Min.min (24 : Int).toNat (IntKind.bits .i64)))), IntKind.wrap .u8 (Int.fdiv (v35.getD v36.toNat 0) (2 ^ (Min.min (16 : Int).toNat (IntKind.bits .i64)))), IntKind.wrap .u8 (Int.fdiv (v35.getD v36.toNat 0) (2 ^ (Min.min (8 : Int).toNat (IntKind.bits .i64)))), IntKind.wrap .u8 (v35.getD v36.toNat 0)]) v35 (IntKind.wrap .i64 (v36 + 1)))
 none)
 none)
 none)
 (some (List.map (fun (n : Int) => UInt8.ofNat n.toNat) v6, ()))) := by kernel_rfl
theorem q_impl_digest (x0 : List UInt8) : @Eq _ (c_impl_digest (bodyK EE R L) x0) ((c_impl_NewHash R).bind fun r0 =>
 (c_impl_Hash_more R r0.1 x0).bind fun r1 =>
 (c_impl_Hash_sum R r1.1).bind fun r2 =>
 some (r2.1, ())) := by kernel_rfl
theorem q_impl_little (x0 x1 : Int) : @Eq _ (c_impl_little (bodyK EE R L) x0 x1) (lp_impl_little_0 R L x0 [] x1 0) := by kernel_rfl
theorem q_impl_little_0 (v0 : Int) (v5 : List Int) (v7 v8 : Int) : @Eq _ (lp_impl_little_0 R L v0 v5 v7 v8 ([1, 1, 0, 1, 0] ++ [0])) (cond (decide (v8 < v7))
 (cond (decide ((IntKind.wrap .i64 (8 * v8)) < 0))
 none
 (cond (lenOK (v5.length + ([IntKind.wrap .u8 (Int.fdiv v0 (2 ^ (Min.min (IntKind.wrap .i64 (8 * v8)).toNat (IntKind.bits .i64))))]).length))
 (lp_impl_little_0 R L v0 (v5 ++ [IntKind.wrap .u8 (Int.fdiv v0 (2 ^ (Min.min (IntKind.wrap .i64 (8 * v8)).toNat (IntKind.bits .i64))))]) v7 (IntKind.wrap .i64 (v8 + 1)))
 none))
 (some (List.map (fun (n : Int) => UInt8.ofNat n.toNat) v5, ()))) := by kernel_rfl
theorem q_impl_littleWord (x0 : List UInt8) : @Eq _ (c_impl_littleWord (bodyK EE R L) x0) (cond (Nat.blt (0 : Int).toNat x0.length)
 (cond (Nat.blt (1 : Int).toNat x0.length)
 (cond (Nat.blt (2 : Int).toNat x0.length)
 (cond (Nat.blt (3 : Int).toNat x0.length)
 (some (bitI .or .u32 (bitI .or .u32 (bitI .or .u32 (IntKind.wrap .u32 (UInt8.toNat (x0.getD (0 : Int).toNat 0) : Int)) (IntKind.wrap .u32 ((IntKind.wrap .u32 (UInt8.toNat (x0.getD (1 : Int).toNat 0) : Int)) * (2 ^ (Min.min (8 : Int).toNat (IntKind.bits .u32)))))) (IntKind.wrap .u32 ((IntKind.wrap .u32 (UInt8.toNat (x0.getD (2 : Int).toNat 0) : Int)) * (2 ^ (Min.min (16 : Int).toNat (IntKind.bits .u32)))))) (IntKind.wrap .u32 ((IntKind.wrap .u32 (UInt8.toNat (x0.getD (3 : Int).toNat 0) : Int)) * (2 ^ (Min.min (24 : Int).toNat (IntKind.bits .u32))))), ()))
 none)
 none)
 none)
 none) := by kernel_rfl
theorem q_impl_quarter (x0 x1 x2 x3 : Int) : @Eq _ (c_impl_quarter (bodyK EE R L) x0 x1 x2 x3) (lp_impl_quarter_0 R L x0 x1 x2 x3 [[16, 12], [8, 7]] 0) := by kernel_rfl
theorem q_impl_quarter_0 (v0 v1 v2 v3 : Int) (v16 : List (List Int)) (v17 : Int) : @Eq _ (lp_impl_quarter_0 R L v0 v1 v2 v3 v16 v17 ([1, 0, 1, 0] ++ [0])) (cond (decide (v17 < 2))
 (cond (nonneg v17)
 (cond (Nat.blt v17.toNat 2)
 ((c_math_bits_RotateLeft32 R (bitI .xor .u32 v3 (IntKind.wrap .u32 (v0 + v1))) ((v16.getD v17.toNat (List.replicate 2 0)).getD (0 : Int).toNat 0)).bind fun r0 =>
 (c_math_bits_RotateLeft32 R (bitI .xor .u32 v1 (IntKind.wrap .u32 (v2 + r0.1))) ((v16.getD v17.toNat (List.replicate 2 0)).getD (1 : Int).toNat 0)).bind fun r1 =>
 lp_impl_quarter_0 R L (IntKind.wrap .u32 (v0 + v1)) r1.1 (IntKind.wrap .u32 (v2 + r0.1)) r0.1 v16 (IntKind.wrap .i64 (v17 + 1)))
 none)
 none)
 (some (v0, (v1, (v2, (v3, ())))))) := by kernel_rfl
theorem q_impl_stream (x0 x1 : List UInt8) (x2 : Int) : @Eq _ (c_impl_stream (bodyK EE R L) x0 x1 x2) (cond (lenOK (([(101 : UInt8), 120, 112, 97, 110, 100, 32, 51, 50, 45, 98, 121, 116, 101, 32, 107]).length + x0.length))
 ((c_impl_little R x2 4).bind fun r0 =>
 cond (lenOK (([(101 : UInt8), 120, 112, 97, 110, 100, 32, 51, 50, 45, 98, 121, 116, 101, 32, 107] ++ x0).length + r0.1.length))
 (cond (lenOK ((([(101 : UInt8), 120, 112, 97, 110, 100, 32, 51, 50, 45, 98, 121, 116, 101, 32, 107] ++ x0) ++ r0.1).length + x1.length))
 (lp_impl_stream_0 R L ((([101, 120, 112, 97, 110, 100, 32, 51, 50, 45, 98, 121, 116, 101, 32, 107] ++ x0) ++ r0.1) ++ x1) (List.replicate 16 0) (List.replicate 16 0) 0)
 none)
 none)
 none) := by kernel_rfl
theorem q_impl_stream_0 (v7 : List UInt8) (v8 v9 : List Int) (v25 : Int) : @Eq _ (lp_impl_stream_0 R L v7 v8 v9 v25 ([1, 1, 1, 0, 1, 0] ++ [0])) (cond (decide (v25 < 16))
 (cond (nonneg (IntKind.wrap .i64 (4 * v25)))
 (cond (Nat.ble v7.length v7.length)
 (cond (Nat.ble (IntKind.wrap .i64 (4 * v25)).toNat v7.length)
 ((c_impl_littleWord R (List.drop (IntKind.wrap .i64 (4 * v25)).toNat (List.take v7.length v7))).bind fun r0 =>
 cond (nonneg v25)
 (cond (Nat.blt v25.toNat 16)
 (cond (nonneg v25)
 (cond (Nat.blt v25.toNat 16)
 (cond (nonneg v25)
 (cond (Nat.blt v25.toNat 16)
 (lp_impl_stream_0 R L v7 (v8.set v25.toNat r0.1) (v9.set v25.toNat ((v8.set v25.toNat r0.1).getD v25.toNat 0)) (IntKind.wrap .i64 (v25 + 1)))
 none)
 none)
 none)
 none)
 none)
 none)
 none)
 none)
 none)
 (lp_impl_stream_1 R L v8 v9 0)) := by kernel_rfl
theorem q_impl_stream_1 (v8 v9 : List Int) (v41 : Int) : @Eq _ (lp_impl_stream_1 R L v8 v9 v41 ([1, 1, 1, 1, 0, 1, 0] ++ [0])) (cond (decide (v41 < 10))
 (lp_impl_stream_2 R L v8 v9 v41 0)
 (lp_impl_stream_3 R L v8 v9 [] 0)) := by kernel_rfl
theorem q_impl_stream_2 (v8 v9 : List Int) (v41 v43 : Int) : @Eq _ (lp_impl_stream_2 R L v8 v9 v41 v43 ([1, 1, 1, 1, 0, 1, 0, 0, 1, 1, 0, 0, 1, 0] ++ [0])) (cond (decide (v43 < 2))
 (lp_impl_stream_4 R L v8 v9 v43 v41 v43 0)
 (lp_impl_stream_1 R L v8 v9 (IntKind.wrap .i64 (v41 + 1)))) := by kernel_rfl
theorem q_impl_stream_3 (v8 v9 : List Int) (v16 : List UInt8) (v95 : Int) : @Eq _ (lp_impl_stream_3 R L v8 v9 v16 v95 ([1, 1, 1, 1, 1, 1, 0, 1, 0] ++ [0])) (cond (decide (v95 < 16))
 (cond (nonneg v95)
 (cond (Nat.blt v95.toNat 16)
 (cond (nonneg v95)
 (cond (Nat.blt v95.toNat 16)
 ((c_impl_little R (IntKind.wrap .i64 (IntKind.wrap .u32 ((v9.getD v95.toNat 0) + (v8.getD v95.toNat 0)))) 4).bind fun r0 =>
 cond (lenOK (v16.length + r0.1.length))
 (lp_impl_stream_3 R L v8 v9 (v16 ++ r0.1) (IntKind.wrap .i64 (v95 + 1)))
 none)
 none)
 none)
 none)
 none)
 (some (v16, ()))) := by kernel_rfl
theorem q_impl_stream_4 (v8 v9 : List Int) (v11 v41 v43 v46 : Int) : @Eq _ (lp_impl_stream_4 R L v8 v9 v11 v41 v43 v46 ([1, 1, 1, 1, 0, 1, 0, 0, 1, 1, 0, 0, 1, 0, 0, 1, 1, 0, 0, 1, 1, 0] ++ [0])) (cond (decide (v46 < 4))
 (cond (nonneg v46)
 (cond (Nat.blt v46.toNat 16)
 (cond (nonneg (IntKind.wrap .i64 (4 + (Int.tmod (IntKind.wrap .i64 (v46 + v11)) 4))))
 (cond (Nat.blt (IntKind.wrap .i64 (4 + (Int.tmod (IntKind.wrap .i64 (v46 + v11)) 4))).toNat 16)
 (cond (nonneg (IntKind.wrap .i64 (8 + (Int.tmod (IntKind.wrap .i64 (v46 + (IntKind.wrap .i64 (2 * v11)))) 4))))
 (cond (Nat.blt (IntKind.wrap .i64 (8 + (Int.tmod (IntKind.wrap .i64 (v46 + (IntKind.wrap .i64 (2 * v11)))) 4))).toNat 16)
 (cond (nonneg (IntKind.wrap .i64 (12 + (Int.tmod (IntKind.wrap .i64 (v46 + (IntKind.wrap .i64 (3 * v11)))) 4))))
 (cond (Nat.blt (IntKind.wrap .i64 (12 + (Int.tmod (IntKind.wrap .i64 (v46 + (IntKind.wrap .i64 (3 * v11)))) 4))).toNat 16)
 ((c_impl_quarter R (v9.getD v46.toNat 0) (v9.getD (IntKind.wrap .i64 (4 + (Int.tmod (IntKind.wrap .i64 (v46 + v11)) 4))).toNat 0) (v9.getD (IntKind.wrap .i64 (8 + (Int.tmod (IntKind.wrap .i64 (v46 + (IntKind.wrap .i64 (2 * v11)))) 4))).toNat 0) (v9.getD (IntKind.wrap .i64 (12 + (Int.tmod (IntKind.wrap .i64 (v46 + (IntKind.wrap .i64 (3 * v11)))) 4))).toNat 0)).bind fun r0 =>
 cond (nonneg v46)
 (cond (Nat.blt v46.toNat 16)
 (cond (nonneg (IntKind.wrap .i64 (4 + (Int.tmod (IntKind.wrap .i64 (v46 + v11)) 4))))
 (cond (Nat.blt (IntKind.wrap .i64 (4 + (Int.tmod (IntKind.wrap .i64 (v46 + v11)) 4))).toNat 16)
 (cond (nonneg (IntKind.wrap .i64 (8 + (Int.tmod (IntKind.wrap .i64 (v46 + (IntKind.wrap .i64 (2 * v11)))) 4))))
 (cond (Nat.blt (IntKind.wrap .i64 (8 + (Int.tmod (IntKind.wrap .i64 (v46 + (IntKind.wrap .i64 (2 * v11)))) 4))).toNat 16)
 (cond (nonneg (IntKind.wrap .i64 (12 + (Int.tmod (IntKind.wrap .i64 (v46 + (IntKind.wrap .i64 (3 * v11)))) 4))))
 (cond (Nat.blt (IntKind.wrap .i64 (12 + (Int.tmod (IntKind.wrap .i64 (v46 + (IntKind.wrap .i64 (3 * v11)))) 4))).toNat 16)
 (lp_impl_stream_4 R L v8 ((((v9.set v46.toNat r0.1).set (IntKind.wrap .i64 (4 + (Int.tmod (IntKind.wrap .i64 (v46 + v11)) 4))).toNat r0.2.1).set (IntKind.wrap .i64 (8 + (Int.tmod (IntKind.wrap .i64 (v46 + (IntKind.wrap .i64 (2 * v11)))) 4))).toNat r0.2.2.1).set (IntKind.wrap .i64 (12 + (Int.tmod (IntKind.wrap .i64 (v46 + (IntKind.wrap .i64 (3 * v11)))) 4))).toNat r0.2.2.2.1) v11 v41 v43 (IntKind.wrap .i64 (v46 + 1)))
 none)
 none)
 none)
 none)
 none)
 none)
 none)
 none)
 none)
 none)
 none)
 none)
 none)
 none)
 none)
 none)
 (lp_impl_stream_2 R L v8 v9 v41 (IntKind.wrap .i64 (v43 + 1)))) := by kernel_rfl
theorem q_spec_l02Word (x0 : List UInt8) (x1 : Int) : @Eq _ (c_spec_l02Word (bodyK EE R L) x0 x1) (cond (nonneg x1)
 (cond (Nat.blt x1.toNat x0.length)
 (cond (nonneg (IntKind.wrap .i64 (x1 + 1)))
 (cond (Nat.blt (IntKind.wrap .i64 (x1 + 1)).toNat x0.length)
 (cond (nonneg (IntKind.wrap .i64 (x1 + 2)))
 (cond (Nat.blt (IntKind.wrap .i64 (x1 + 2)).toNat x0.length)
 (cond (nonneg (IntKind.wrap .i64 (x1 + 3)))
 (cond (Nat.blt (IntKind.wrap .i64 (x1 + 3)).toNat x0.length)
 (some (bitI .or .i64 (bitI .or .i64 (bitI .or .i64 (IntKind.wrap .i64 (UInt8.toNat (x0.getD x1.toNat 0) : Int)) (IntKind.wrap .i64 ((IntKind.wrap .i64 (UInt8.toNat (x0.getD (IntKind.wrap .i64 (x1 + 1)).toNat 0) : Int)) * (2 ^ (Min.min (8 : Int).toNat (IntKind.bits .i64)))))) (IntKind.wrap .i64 ((IntKind.wrap .i64 (UInt8.toNat (x0.getD (IntKind.wrap .i64 (x1 + 2)).toNat 0) : Int)) * (2 ^ (Min.min (16 : Int).toNat (IntKind.bits .i64)))))) (IntKind.wrap .i64 ((IntKind.wrap .i64 (UInt8.toNat (x0.getD (IntKind.wrap .i64 (x1 + 3)).toNat 0) : Int)) * (2 ^ (Min.min (24 : Int).toNat (IntKind.bits .i64))))), ()))
 none)
 none)
 none)
 none)
 none)
 none)
 none)
 none) := by kernel_rfl
theorem q_spec_l02Left (x0 x1 : Int) : @Eq _ (c_spec_l02Left (bodyK EE R L) x0 x1) (cond (decide (x1 < 0))
 none
 (cond (decide ((IntKind.wrap .i64 (32 - x1)) < 0))
 none
 (some (bitI .and .i64 (bitI .or .i64 (IntKind.wrap .i64 (x0 * (2 ^ (Min.min x1.toNat (IntKind.bits .i64))))) (Int.fdiv x0 (2 ^ (Min.min (IntKind.wrap .i64 (32 - x1)).toNat (IntKind.bits .i64))))) 4294967295, ())))) := by kernel_rfl
theorem q_spec_l02Quarter (x0 x1 x2 x3 : Int) : @Eq _ (c_spec_l02Quarter (bodyK EE R L) x0 x1 x2 x3) ((c_spec_l02Left R (bitI .xor .i64 x3 (bitI .and .i64 (IntKind.wrap .i64 (x0 + x1)) 4294967295)) 16).bind fun r0 =>
 (c_spec_l02Left R (bitI .xor .i64 x1 (bitI .and .i64 (IntKind.wrap .i64 (x2 + r0.1)) 4294967295)) 12).bind fun r1 =>
 (c_spec_l02Left R (bitI .xor .i64 r0.1 (bitI .and .i64 (IntKind.wrap .i64 ((bitI .and .i64 (IntKind.wrap .i64 (x0 + x1)) 4294967295) + r1.1)) 4294967295)) 8).bind fun r2 =>
 (c_spec_l02Left R (bitI .xor .i64 r1.1 (bitI .and .i64 (IntKind.wrap .i64 ((bitI .and .i64 (IntKind.wrap .i64 (x2 + r0.1)) 4294967295) + r2.1)) 4294967295)) 7).bind fun r3 =>
 some ([bitI .and .i64 (IntKind.wrap .i64 ((bitI .and .i64 (IntKind.wrap .i64 (x0 + x1)) 4294967295) + r1.1)) 4294967295, r3.1, bitI .and .i64 (IntKind.wrap .i64 ((bitI .and .i64 (IntKind.wrap .i64 (x2 + r0.1)) 4294967295) + r2.1)) 4294967295, r2.1], ())) := by kernel_rfl
theorem q_spec_l02Round (x0 : List Int) (x1 x2 x3 x4 : Int) : @Eq _ (c_spec_l02Round (bodyK EE R L) x0 x1 x2 x3 x4) (cond (nonneg x1)
 (cond (Nat.blt x1.toNat 16)
 (cond (nonneg x2)
 (cond (Nat.blt x2.toNat 16)
 (cond (nonneg x3)
 (cond (Nat.blt x3.toNat 16)
 (cond (nonneg x4)
 (cond (Nat.blt x4.toNat 16)
 ((c_spec_l02Quarter R (x0.getD x1.toNat 0) (x0.getD x2.toNat 0) (x0.getD x3.toNat 0) (x0.getD x4.toNat 0)).bind fun r0 =>
 cond (nonneg x1)
 (cond (Nat.blt x1.toNat 16)
 (cond (nonneg x2)
 (cond (Nat.blt x2.toNat 16)
 (cond (nonneg x3)
 (cond (Nat.blt x3.toNat 16)
 (cond (nonneg x4)
 (cond (Nat.blt x4.toNat 16)
 (some ((((x0.set x1.toNat (r0.1.getD (0 : Int).toNat 0)).set x2.toNat (r0.1.getD (1 : Int).toNat 0)).set x3.toNat (r0.1.getD (2 : Int).toNat 0)).set x4.toNat (r0.1.getD (3 : Int).toNat 0), ()))
 none)
 none)
 none)
 none)
 none)
 none)
 none)
 none)
 none)
 none)
 none)
 none)
 none)
 none)
 none)
 none) := by kernel_rfl
theorem q_spec_l02Block (x0 x1 : List UInt8) (x2 : Int) : @Eq _ (c_spec_l02Block (bodyK EE R L) x0 x1 x2) (lp_spec_l02Block_0 R L x0 x1 x2 [0, 0, 0, 0, 0, 0, 0, 0, 0, 0, 0, 0, 0, 0, 0, 0] 0) := by kernel_rfl
theorem q_spec_l02Block_0 (v0 v1 : List UInt8) (v2 : Int) (v7 : List Int) (v8 : Int) : @Eq _ (lp_spec_l02Block_0 R L v0 v1 v2 v7 v8 ([1, 1, 0, 1, 0] ++ [0])) (cond (decide (v8 < 4))
 ((c_spec_l02Word R [101, 120, 112, 97, 110, 100, 32, 51, 50, 45, 98, 121, 116, 101, 32, 107] (IntKind.wrap .i64 (4 * v8))).bind fun r0 =>
 cond (nonneg v8)
 (cond (Nat.blt v8.toNat 16)
 (lp_spec_l02Block_0 R L v0 v1 v2 (v7.set v8.toNat r0.1) (IntKind.wrap .i64 (v8 + 1)))
 none)
 none)
 (lp_spec_l02Block_1 R L v0 v1 v2 v7 0)) := by kernel_rfl
theorem q_spec_l02Block_1 (v0 v1 : List UInt8) (v2 : Int) (v7 : List Int) (v9 : Int) : @Eq _ (lp_spec_l02Block_1 R L v0 v1 v2 v7 v9 ([1, 1, 1, 0, 1, 0] ++ [0])) (cond (decide (v9 < 8))
 ((c_spec_l02Word R v0 (IntKind.wrap .i64 (4 * v9))).bind fun r0 =>
 cond (nonneg (IntKind.wrap .i64 (4 + v9)))
 (cond (Nat.blt (IntKind.wrap .i64 (4 + v9)).toNat 16)
 (lp_spec_l02Block_1 R L v0 v1 v2 (v7.set (IntKind.wrap .i64 (4 + v9)).toNat r0.1) (IntKind.wrap .i64 (v9 + 1)))
 none)
 none)
 (lp_spec_l02Block_2 R L v1 (v7.set (12 : Int).toNat v2) 0)) := by kernel_rfl
theorem q_spec_l02Block_2 (v1 : List UInt8) (v7 : List Int) (v10 : Int) : @Eq _ (lp_spec_l02Block_2 R L v1 v7 v10 ([1, 1, 1, 1, 1, 0, 1, 0] ++ [0])) (cond (decide (v10 < 3))
 ((c_spec_l02Word R v1 (IntKind.wrap .i64 (4 * v10))).bind fun r0 =>
 cond (nonneg (IntKind.wrap .i64 (13 + v10)))
 (cond (Nat.blt (IntKind.wrap .i64 (13 + v10)).toNat 16)
 (lp_spec_l02Block_2 R L v1 (v7.set (IntKind.wrap .i64 (13 + v10)).toNat r0.1) (IntKind.wrap .i64 (v10 + 1)))
 none)
 none)
 (lp_spec_l02Block_3 R L v7 v7 0)) := by kernel_rfl
theorem q_spec_l02Block_3 (v7 v11 : List Int) (v12 : Int) : @Eq _ (lp_spec_l02Block_3 R L v7 v11 v12 ([1, 1, 1, 1, 1, 1, 1, 0, 1, 0] ++ [0])) (cond (decide (v12 < 10))
 (lp_spec_l02Block_4 R L v7 v11 v12 0)
 (lp_spec_l02Block_5 R L v7 v11 [] 0)) := by kernel_rfl
theorem q_spec_l02Block_4 (v7 v11 : List Int) (v12 v13 : Int) : @Eq _ (lp_spec_l02Block_4 R L v7 v11 v12 v13 ([1, 1, 1, 1, 1, 1, 1, 0, 1, 0, 0, 1, 0, 0, 0, 1, 0] ++ [0])) (cond (decide (v13 < 4))
 ((c_spec_l02Round R v11 v13 (IntKind.wrap .i64 (4 + v13)) (IntKind.wrap .i64 (8 + v13)) (IntKind.wrap .i64 (12 + v13))).bind fun r0 =>
 lp_spec_l02Block_4 R L v7 r0.1 v12 (IntKind.wrap .i64 (v13 + 1)))
 (lp_spec_l02Block_6 R L v7 v11 v12 0)) := by kernel_rfl
theorem q_spec_l02Block_5 (v7 v11 v15 : List Int) (v16 : Int) : @Eq _ (lp_spec_l02Block_5 R L v7 v11 v15 v16 ([1, 1, 1, 1, 1, 1, 1, 1, 1, 0, 1, 0] ++ [0])) (cond (decide (v16 < 16))
 (cond (nonneg v16)
 (cond (Nat.blt v16.toNat 16)
 (cond (nonneg v16)
 (cond (Nat.blt v16.toNat 16)
 ((c_spec_l02Bytes R v15 (bitI .and .i64 (IntKind.wrap .i64 ((v11.getD v16.toNat 0) + (v7.getD v16.toNat 0))) 4294967295)).bind fun r0 =>
 lp_spec_l02Block_5 R L v7 v11 r0.1 (IntKind.wrap .i64 (v16 + 1)))
 none)
 none)
 none)
 none)
 (some (List.map (fun (n : Int) => UInt8.ofNat n.toNat) v15, ()))) := by kernel_rfl
theorem q_spec_l02Block_6 (v7 v11 : List Int) (v12 v14 : Int) : @Eq _ (lp_spec_l02Block_6 R L v7 v11 v12 v14 ([1, 1, 1, 1, 1, 1, 1, 0, 1, 0, 0, 1, 0, 0, 1, 1, 0] ++ [0])) (cond (decide (v14 < 4))
 ((c_spec_l02Round R v11 v14 (IntKind.wrap .i64 (4 + (Int.tmod (IntKind.wrap .i64 (v14 + 1)) 4))) (IntKind.wrap .i64 (8 + (Int.tmod (IntKind.wrap .i64 (v14 + 2)) 4))) (IntKind.wrap .i64 (12 + (Int.tmod (IntKind.wrap .i64 (v14 + 3)) 4)))).bind fun r0 =>
 lp_spec_l02Block_6 R L v7 r0.1 v12 (IntKind.wrap .i64 (v14 + 1)))
 (lp_spec_l02Block_3 R L v7 v11 (IntKind.wrap .i64 (v12 + 1)))) := by kernel_rfl
theorem q_impl_xor (x0 x1 : List UInt8) : @Eq _ (c_impl_xor (bodyK EE R L) x0 x1) (lp_impl_xor_0 R L x1 (List.map (fun (b : UInt8) => (UInt8.toNat b : Int)) x0) ((List.map (fun (b : UInt8) => (UInt8.toNat b : Int)) x0).length : Int) 0) := by kernel_rfl
theorem q_impl_xor_0 (v1 : List UInt8) (v5 : List Int) (v10 v11 : Int) : @Eq _ (lp_impl_xor_0 R L v1 v5 v10 v11 ([1, 1, 0, 1, 0] ++ [0])) (cond (decide (v11 < v10))
 (cond (nonneg v11)
 (cond (Nat.blt v11.toNat v5.length)
 (cond (nonneg v11)
 (cond (Nat.blt v11.toNat v1.length)
 (cond (nonneg v11)
 (cond (Nat.blt v11.toNat v5.length)
 (lp_impl_xor_0 R L v1 (v5.set v11.toNat (bitI .xor .u8 (v5.getD v11.toNat 0) (UInt8.toNat (v1.getD v11.toNat 0) : Int))) v10 (IntKind.wrap .i64 (v11 + 1)))
 none)
 none)
 none)
 none)
 none)
 none)
 (some (List.map (fun (n : Int) => UInt8.ofNat n.toNat) v5, ()))) := by kernel_rfl
theorem q_spec_l02Xor (x0 x1 : List UInt8) (x2 : Int) (x3 : List UInt8) : @Eq _ (c_spec_l02Xor (bodyK EE R L) x0 x1 x2 x3) (lp_spec_l02Xor_0 R L x0 x1 x2 x3 [] [] 0) := by kernel_rfl
theorem q_spec_l02Xor_0 (v0 v1 : List UInt8) (v2 : Int) (v3 : List UInt8) (v9 : List Int) (v10 : List UInt8) (v11 : Int) : @Eq _ (lp_spec_l02Xor_0 R L v0 v1 v2 v3 v9 v10 v11 ([1, 1, 1, 0, 1, 0] ++ [0])) (cond (decide (v11 < (v3.length : Int)))
 (cond (eqI (Int.tmod v11 64) 0)
 ((c_spec_l02Block R v0 v1 (IntKind.wrap .i64 (v2 + (IntKind.wrap .i64 (Int.tdiv v11 64))))).bind fun r0 =>
 cond (nonneg v11)
 (cond (Nat.blt v11.toNat v3.length)
 (cond (nonneg (Int.tmod v11 64))
 (cond (Nat.blt (Int.tmod v11 64).toNat r0.1.length)
 (cond (lenOK (v9.length + ([bitI .xor .u8 (UInt8.toNat (v3.getD v11.toNat 0) : Int) (UInt8.toNat (r0.1.getD (Int.tmod v11 64).toNat 0) : Int)]).length))
 (lp_spec_l02Xor_0 R L v0 v1 v2 v3 (v9 ++ [bitI .xor .u8 (UInt8.toNat (v3.getD v11.toNat 0) : Int) (UInt8.toNat (r0.1.getD (Int.tmod v11 64).toNat 0) : Int)]) r0.1 (IntKind.wrap .i64 (v11 + 1)))
 none)
 none)
 none)
 none)
 none)
 (cond (nonneg v11)
 (cond (Nat.blt v11.toNat v3.length)
 (cond (nonneg (Int.tmod v11 64))
 (cond (Nat.blt (Int.tmod v11 64).toNat v10.length)
 (cond (lenOK (v9.length + ([bitI .xor .u8 (UInt8.toNat (v3.getD v11.toNat 0) : Int) (UInt8.toNat (v10.getD (Int.tmod v11 64).toNat 0) : Int)]).length))
 (lp_spec_l02Xor_0 R L v0 v1 v2 v3 (v9 ++ [bitI .xor .u8 (UInt8.toNat (v3.getD v11.toNat 0) : Int) (UInt8.toNat (v10.getD (Int.tmod v11 64).toNat 0) : Int)]) v10 (IntKind.wrap .i64 (v11 + 1)))
 none)
 none)
 none)
 none)
 none))
 (some (List.map (fun (n : Int) => UInt8.ofNat n.toNat) v9, ()))) := by kernel_rfl
theorem q_laws_toIntS (x0 : List Int) : @Eq _ (c_laws_toIntS (bodyK EE R L) x0) (cond (leI (x0.length : Int) (x0.length : Int))
 (cond (lenOK (x0.length : Int).toNat)
 (lp_laws_toIntS_0 R L x0 [] (List.replicate (x0.length : Int).toNat 0) 0)
 none)
 none) := by kernel_rfl
theorem q_laws_toIntS_0 (v0 v2 v3 : List Int) (v4 : Int) : @Eq _ (lp_laws_toIntS_0 R L v0 v2 v3 v4 ([1, 1, 0, 1, 0] ++ [0])) (cond (decide (v4 < (v0.length : Int)))
 (cond (nonneg v4)
 (cond (Nat.blt v4.toNat v0.length)
 (cond (nonneg v4)
 (cond (Nat.blt v4.toNat v3.length)
 (lp_laws_toIntS_0 R L v0 v2 (v3.set v4.toNat (v0.getD v4.toNat 0)) (IntKind.wrap .i64 (v4 + 1)))
 none)
 none)
 none)
 none)
 (some (v3, ()))) := by kernel_rfl
theorem q_spec_l01In (x0 x1 x2 : Int) : @Eq _ (c_spec_l01In (bodyK EE R L) x0 x1 x2) (cond (decide (x1 ≤ x0))
 (some (decide (x0 ≤ x2), ()))
 (some (false, ()))) := by kernel_rfl
theorem q_spec_l08Leaves (x0 : List Int) : @Eq _ (c_spec_l08Leaves (bodyK EE R L) x0) (lp_spec_l08Leaves_0 R L x0 0) := by kernel_rfl
theorem q_spec_l08Leaves_0 (v0 : List Int) (v3 : Int) : @Eq _ (lp_spec_l08Leaves_0 R L v0 v3 ([1, 0, 1, 0] ++ [0])) (cond (decide (v3 < (v0.length : Int)))
 (cond (nonneg v3)
 (cond (Nat.blt v3.toNat v0.length)
 ((c_spec_l01In R (v0.getD v3.toNat 0) 0 7).bind fun r0 =>
 cond (!r0.1)
 (some (false, ()))
 (lp_spec_l08Leaves_0 R L v0 (IntKind.wrap .i64 (v3 + 1))))
 none)
 none)
 (some (true, ()))) := by kernel_rfl
theorem q_spec_l08New (x0 : List Int) : @Eq _ (c_spec_l08New (bodyK EE R L) x0) (cond (lenOK (([] : List Int).length + x0.length))
 (some (([] ++ x0, ([], (List.replicate (15 : Int).toNat [], ()))), ()))
 none) := by kernel_rfl
theorem q_spec_NewOram (x0 : List Int) : @Eq _ (c_spec_NewOram (bodyK EE R L) x0) (cond (decide (4096 < (x0.length : Int)))
 (some (([], ([], ([], ()))), (2, ())))
 (cond (!(eqI (x0.length : Int) 12))
 (some (([], ([], ([], ()))), (8, ())))
 ((c_spec_l08Leaves R x0).bind fun r0 =>
 cond (!r0.1)
 (some (([], ([], ([], ()))), (4, ())))
 ((c_spec_l08New R x0).bind fun r1 =>
 some (r1.1, (0, ())))))) := by kernel_rfl
theorem q_spec_NewEnc (x0 : List Int) : @Eq _ (c_spec_NewEnc (bodyK EE R L) x0) (cond (decide (4096 < (x0.length : Int)))
 (some (([], (([], ([], ([], ()))), ())), (2, ())))
 ((c_spec_NewOram R x0).bind fun r0 =>
 cond (!(eqI r0.2.1 0))
 (some (([], (([], ([], ([], ()))), ())), (r0.2.1, ())))
 (some ((List.replicate (11 : Int).toNat 0, (r0.1, ())), (0, ()))))) := by kernel_rfl
theorem q_spec_l04Eight (x0 : Int) : @Eq _ (c_spec_l04Eight (bodyK EE R L) x0) (lp_spec_l04Eight_0 R L x0 [] 0) := by kernel_rfl
theorem q_spec_l04Eight_0 (v0 : Int) (v3 : List Int) (v4 : Int) : @Eq _ (lp_spec_l04Eight_0 R L v0 v3 v4 ([1, 1, 0, 1, 0] ++ [0])) (cond (decide (v4 < 8))
 (cond (decide ((IntKind.wrap .i64 (8 * v4)) < 0))
 none
 (cond (lenOK (v3.length + ([IntKind.wrap .u8 (Int.fdiv v0 (2 ^ (Min.min (IntKind.wrap .i64 (8 * v4)).toNat (IntKind.bits .i64))))]).length))
 (lp_spec_l04Eight_0 R L v0 (v3 ++ [IntKind.wrap .u8 (Int.fdiv v0 (2 ^ (Min.min (IntKind.wrap .i64 (8 * v4)).toNat (IntKind.bits .i64))))]) (IntKind.wrap .i64 (v4 + 1)))
 none))
 (some (List.map (fun (n : Int) => UInt8.ofNat n.toNat) v3, ()))) := by kernel_rfl
theorem q_spec_l06Nonce (x0 x1 x2 : Int) : @Eq _ (c_spec_l06Nonce (bodyK EE R L) x0 x1 x2) ((c_spec_l04Eight R x2).bind fun r0 =>
 cond (lenOK ((List.map (fun (n : Int) => UInt8.ofNat n.toNat) [IntKind.wrap .u8 x0, IntKind.wrap .u8 x1, IntKind.wrap .u8 (Int.fdiv x1 (2 ^ (Min.min (8 : Int).toNat (IntKind.bits .i64)))), 0]).length + r0.1.length))
 (some ((List.map (fun (n : Int) => UInt8.ofNat n.toNat) [IntKind.wrap .u8 x0, IntKind.wrap .u8 x1, IntKind.wrap .u8 (Int.fdiv x1 (2 ^ (Min.min (8 : Int).toNat (IntKind.bits .i64)))), 0]) ++ r0.1, ()))
 none) := by kernel_rfl
theorem q_spec_l04Pad (x0 : List UInt8) : @Eq _ (c_spec_l04Pad (bodyK EE R L) x0) (lp_spec_l04Pad_0 R L x0) := by kernel_rfl
theorem q_spec_l04Pad_0 (v0 : List UInt8) : @Eq _ (lp_spec_l04Pad_0 R L v0 ([1, 0, 0] ++ [0])) (cond (!(eqI (Int.tmod (v0.length : Int) 16) 0))
 (cond (lenOK (v0.length + ([(0 : UInt8)]).length))
 (lp_spec_l04Pad_0 R L (v0 ++ [0]))
 none)
 (some (v0, ()))) := by kernel_rfl
theorem q_spec_l03Clamp (x0 : List UInt8) : @Eq _ (c_spec_l03Clamp (bodyK EE R L) x0) (cond (Nat.ble (16 : Int).toNat x0.length)
 (lp_spec_l03Clamp_0 R L (List.map (fun (b : UInt8) => (UInt8.toNat b : Int)) (List.drop 0 (List.take (16 : Int).toNat x0))) 3)
 none) := by kernel_rfl
theorem q_spec_l03Clamp_0 (v3 : List Int) (v4 : Int) : @Eq _ (lp_spec_l03Clamp_0 R L v3 v4 ([1, 1, 0, 1, 0] ++ [0])) (cond (decide (v4 < 16))
 (cond (nonneg v4)
 (cond (Nat.blt v4.toNat v3.length)
 (cond (nonneg v4)
 (cond (Nat.blt v4.toNat v3.length)
 (lp_spec_l03Clamp_0 R L (v3.set v4.toNat (bitI .and .u8 (v3.getD v4.toNat 0) 15)) (IntKind.wrap .i64 (v4 + 4)))
 none)
 none)
 none)
 none)
 (lp_spec_l03Clamp_1 R L v3 4)) := by kernel_rfl
theorem q_spec_l03Clamp_1 (v3 : List Int) (v5 : Int) : @Eq _ (lp_spec_l03Clamp_1 R L v3 v5 ([1, 1, 1, 0, 1, 0] ++ [0])) (cond (decide (v5 < 16))
 (cond (nonneg v5)
 (cond (Nat.blt v5.toNat v3.length)
 (cond (nonneg v5)
 (cond (Nat.blt v5.toNat v3.length)
 (lp_spec_l03Clamp_1 R L (v3.set v5.toNat (bitI .and .u8 (v3.getD v5.toNat 0) 252)) (IntKind.wrap .i64 (v5 + 4)))
 none)
 none)
 none)
 none)
 (some (List.map (fun (n : Int) => UInt8.ofNat n.toNat) v3, ()))) := by kernel_rfl
theorem q_spec_l03Parts (x0 : List UInt8) : @Eq _ (c_spec_l03Parts (bodyK EE R L) x0) (lp_spec_l03Parts_0 R L x0 (List.replicate 5 0) [0, 0, 0, 0, 0] 0) := by kernel_rfl
theorem q_spec_l03Parts_0 (v0 : List UInt8) (v2 v3 : List Int) (v4 : Int) : @Eq _ (lp_spec_l03Parts_0 R L v0 v2 v3 v4 ([1, 1, 0, 1, 0] ++ [0])) (cond (decide (v4 < 17))
 (cond (nonneg v4)
 (cond (Nat.blt v4.toNat v0.length)
 (cond (nonneg (IntKind.wrap .i64 (Int.tdiv (IntKind.wrap .i64 (8 * v4)) 26)))
 (cond (Nat.blt (IntKind.wrap .i64 (Int.tdiv (IntKind.wrap .i64 (8 * v4)) 26)).toNat 5)
 (cond (decide ((Int.tmod (IntKind.wrap .i64 (8 * v4)) 26) < 0))
 none
 (cond (nonneg (IntKind.wrap .i64 (Int.tdiv (IntKind.wrap .i64 (8 * v4)) 26)))
 (cond (Nat.blt (IntKind.wrap .i64 (Int.tdiv (IntKind.wrap .i64 (8 * v4)) 26)).toNat 5)
 (cond (decide (18 < (Int.tmod (IntKind.wrap .i64 (8 * v4)) 26)))
 (cond (decide ((IntKind.wrap .i64 (Int.tdiv (IntKind.wrap .i64 (8 * v4)) 26)) < 4))
 (cond (nonneg (IntKind.wrap .i64 ((IntKind.wrap .i64 (Int.tdiv (IntKind.wrap .i64 (8 * v4)) 26)) + 1)))
 (cond (Nat.blt (IntKind.wrap .i64 ((IntKind.wrap .i64 (Int.tdiv (IntKind.wrap .i64 (8 * v4)) 26)) + 1)).toNat 5)
 (cond (decide ((IntKind.wrap .i64 (26 - (Int.tmod (IntKind.wrap .i64 (8 * v4)) 26))) < 0))
 none
 (cond (nonneg (IntKind.wrap .i64 ((IntKind.wrap .i64 (Int.tdiv (IntKind.wrap .i64 (8 * v4)) 26)) + 1)))
 (cond (Nat.blt (IntKind.wrap .i64 ((IntKind.wrap .i64 (Int.tdiv (IntKind.wrap .i64 (8 * v4)) 26)) + 1)).toNat 5)
 (lp_spec_l03Parts_0 R L v0 v2 ((v3.set (IntKind.wrap .i64 (Int.tdiv (IntKind.wrap .i64 (8 * v4)) 26)).toNat (IntKind.wrap .i64 ((v3.getD (IntKind.wrap .i64 (Int.tdiv (IntKind.wrap .i64 (8 * v4)) 26)).toNat 0) + (bitI .and .i64 (IntKind.wrap .i64 ((IntKind.wrap .i64 (UInt8.toNat (v0.getD v4.toNat 0) : Int)) * (2 ^ (Min.min (Int.tmod (IntKind.wrap .i64 (8 * v4)) 26).toNat (IntKind.bits .i64))))) 67108863)))).set (IntKind.wrap .i64 ((IntKind.wrap .i64 (Int.tdiv (IntKind.wrap .i64 (8 * v4)) 26)) + 1)).toNat (IntKind.wrap .i64 (((v3.set (IntKind.wrap .i64 (Int.tdiv (IntKind.wrap .i64 (8 * v4)) 26)).toNat (IntKind.wrap .i64 ((v3.getD (IntKind.wrap .i64 (Int.tdiv (IntKind.wrap .i64 (8 * v4)) 26)).toNat 0) + (bitI .and .i64 (IntKind.wrap .i64 ((IntKind.wrap .i64 (UInt8.toNat (v0.getD v4.toNat 0) : Int)) * (2 ^ (Min.min (Int.tmod (IntKind.wrap .i64 (8 * v4)) 26).toNat (IntKind.bits .i64))))) 67108863)))).getD (IntKind.wrap .i64 ((IntKind.wrap .i64 (Int.tdiv (IntKind.wrap .i64 (8 * v4)) 26)) + 1)).toNat 0) + (Int.fdiv (IntKind.wrap .i64 (UInt8.toNat (v0.getD v4.toNat 0) : Int)) (2 ^ (Min.min (IntKind.wrap .i64 (26 - (Int.tmod (IntKind.wrap .i64 (8 * v4)) 26))).toNat (IntKind.bits .i64))))))) (IntKind.wrap .i64 (v4 + 1)))
 none)
 none))
 none)
 none)
 (lp_spec_l03Parts_0 R L v0 v2 (v3.set (IntKind.wrap .i64 (Int.tdiv (IntKind.wrap .i64 (8 * v4)) 26)).toNat (IntKind.wrap .i64 ((v3.getD (IntKind.wrap .i64 (Int.tdiv (IntKind.wrap .i64 (8 * v4)) 26)).toNat 0) + (bitI .and .i64 (IntKind.wrap .i64 ((IntKind.wrap .i64 (UInt8.toNat (v0.getD v4.toNat 0) : Int)) * (2 ^ (Min.min (Int.tmod (IntKind.wrap .i64 (8 * v4)) 26).toNat (IntKind.bits .i64))))) 67108863)))) (IntKind.wrap .i64 (v4 + 1))))
 (lp_spec_l03Parts_0 R L v0 v2 (v3.set (IntKind.wrap .i64 (Int.tdiv (IntKind.wrap .i64 (8 * v4)) 26)).toNat (IntKind.wrap .i64 ((v3.getD (IntKind.wrap .i64 (Int.tdiv (IntKind.wrap .i64 (8 * v4)) 26)).toNat 0) + (bitI .and .i64 (IntKind.wrap .i64 ((IntKind.wrap .i64 (UInt8.toNat (v0.getD v4.toNat 0) : Int)) * (2 ^ (Min.min (Int.tmod (IntKind.wrap .i64 (8 * v4)) 26).toNat (IntKind.bits .i64))))) 67108863)))) (IntKind.wrap .i64 (v4 + 1))))
 none)
 none))
 none)
 none)
 none)
 none)
 (some (v3, ()))) := by kernel_rfl
theorem q_spec_l03Carry (x0 : List Int) : @Eq _ (c_spec_l03Carry (bodyK EE R L) x0) (lp_spec_l03Carry_0 R L x0 (List.replicate 5 0) 0) := by kernel_rfl
theorem q_spec_l03Carry_0 (v1 v2 : List Int) (v3 : Int) : @Eq _ (lp_spec_l03Carry_0 R L v1 v2 v3 ([1, 0, 1, 0] ++ [0])) (cond (decide (v3 < 3))
 (lp_spec_l03Carry_1 R L v1 v2 v3 0)
 (some (v1, ()))) := by kernel_rfl
theorem q_spec_l03Carry_1 (v1 v2 : List Int) (v3 v4 : Int) : @Eq _ (lp_spec_l03Carry_1 R L v1 v2 v3 v4 ([1, 0, 1, 0, 0, 1, 0, 0, 0, 1, 0] ++ [0])) (cond (decide (v4 < 4))
 (cond (nonneg (IntKind.wrap .i64 (v4 + 1)))
 (cond (Nat.blt (IntKind.wrap .i64 (v4 + 1)).toNat 5)
 (cond (nonneg v4)
 (cond (Nat.blt v4.toNat 5)
 (cond (nonneg (IntKind.wrap .i64 (v4 + 1)))
 (cond (Nat.blt (IntKind.wrap .i64 (v4 + 1)).toNat 5)
 (cond (nonneg v4)
 (cond (Nat.blt v4.toNat 5)
 (cond (nonneg v4)
 (cond (Nat.blt v4.toNat 5)
 (lp_spec_l03Carry_1 R L ((v1.set (IntKind.wrap .i64 (v4 + 1)).toNat (IntKind.wrap .i64 ((v1.getD (IntKind.wrap .i64 (v4 + 1)).toNat 0) + (Int.fdiv (v1.getD v4.toNat 0) (2 ^ (Min.min (26 : Int).toNat (IntKind.bits .i64))))))).set v4.toNat (bitI .and .i64 ((v1.set (IntKind.wrap .i64 (v4 + 1)).toNat (IntKind.wrap .i64 ((v1.getD (IntKind.wrap .i64 (v4 + 1)).toNat 0) + (Int.fdiv (v1.getD v4.toNat 0) (2 ^ (Min.min (26 : Int).toNat (IntKind.bits .i64))))))).getD v4.toNat 0) 67108863)) v2 v3 (IntKind.wrap .i64 (v4 + 1)))
 none)
 none)
 none)
 none)
 none)
 none)
 none)
 none)
 none)
 none)
 (lp_spec_l03Carry_0 R L ((v1.set (0 : Int).toNat (IntKind.wrap .i64 ((v1.getD (0 : Int).toNat 0) + (IntKind.wrap .i64 (5 * (Int.fdiv (v1.getD (4 : Int).toNat 0) (2 ^ (Min.min (26 : Int).toNat (IntKind.bits .i64))))))))).set (4 : Int).toNat (bitI .and .i64 ((v1.set (0 : Int).toNat (IntKind.wrap .i64 ((v1.getD (0 : Int).toNat 0) + (IntKind.wrap .i64 (5 * (Int.fdiv (v1.getD (4 : Int).toNat 0) (2 ^ (Min.min (26 : Int).toNat (IntKind.bits .i64))))))))).getD (4 : Int).toNat 0) 67108863)) v2 (IntKind.wrap .i64 (v3 + 1)))) := by kernel_rfl
theorem q_spec_l03Times (x0 x1 : List Int) : @Eq _ (c_spec_l03Times (bodyK EE R L) x0 x1) (lp_spec_l03Times_0 R L x0 x1 (List.replicate 5 0) [0, 0, 0, 0, 0] 0) := by kernel_rfl
theorem q_spec_l03Times_0 (v2 v3 v4 v5 : List Int) (v6 : Int) : @Eq _ (lp_spec_l03Times_0 R L v2 v3 v4 v5 v6 ([1, 1, 0, 1, 0] ++ [0])) (cond (decide (v6 < 5))
 (lp_spec_l03Times_1 R L v2 v3 v4 v5 v6 0)
 ((c_spec_l03Carry R v5).bind fun r0 =>
 some (r0.1, ()))) := by kernel_rfl
theorem q_spec_l03Times_1 (v2 v3 v4 v5 : List Int) (v6 v7 : Int) : @Eq _ (lp_spec_l03Times_1 R L v2 v3 v4 v5 v6 v7 ([1, 1, 0, 1, 0, 0, 1, 0, 0, 1, 0] ++ [0])) (cond (decide (v7 < 5))
 (cond (nonneg v6)
 (cond (Nat.blt v6.toNat 5)
 (cond (nonneg v7)
 (cond (Nat.blt v7.toNat 5)
 (cond (decide (4 < (IntKind.wrap .i64 (v6 + v7))))
 (cond (nonneg (Int.tmod (IntKind.wrap .i64 (v6 + v7)) 5))
 (cond (Nat.blt (Int.tmod (IntKind.wrap .i64 (v6 + v7)) 5).toNat 5)
 (cond (nonneg (Int.tmod (IntKind.wrap .i64 (v6 + v7)) 5))
 (cond (Nat.blt (Int.tmod (IntKind.wrap .i64 (v6 + v7)) 5).toNat 5)
 (lp_spec_l03Times_1 R L v2 v3 v4 (v5.set (Int.tmod (IntKind.wrap .i64 (v6 + v7)) 5).toNat (IntKind.wrap .i64 ((v5.getD (Int.tmod (IntKind.wrap .i64 (v6 + v7)) 5).toNat 0) + (IntKind.wrap .i64 ((IntKind.wrap .i64 ((v2.getD v6.toNat 0) * (v3.getD v7.toNat 0))) * 5))))) v6 (IntKind.wrap .i64 (v7 + 1)))
 none)
 none)
 none)
 none)
 (cond (nonneg (Int.tmod (IntKind.wrap .i64 (v6 + v7)) 5))
 (cond (Nat.blt (Int.tmod (IntKind.wrap .i64 (v6 + v7)) 5).toNat 5)
 (cond (nonneg (Int.tmod (IntKind.wrap .i64 (v6 + v7)) 5))
 (cond (Nat.blt (Int.tmod (IntKind.wrap .i64 (v6 + v7)) 5).toNat 5)
 (lp_spec_l03Times_1 R L v2 v3 v4 (v5.set (Int.tmod (IntKind.wrap .i64 (v6 + v7)) 5).toNat (IntKind.wrap .i64 ((v5.getD (Int.tmod (IntKind.wrap .i64 (v6 + v7)) 5).toNat 0) + (IntKind.wrap .i64 ((v2.getD v6.toNat 0) * (v3.getD v7.toNat 0)))))) v6 (IntKind.wrap .i64 (v7 + 1)))
 none)
 none)
 none)
 none))
 none)
 none)
 none)
 none)
 (lp_spec_l03Times_0 R L v2 v3 v4 v5 (IntKind.wrap .i64 (v6 + 1)))) := by kernel_rfl
theorem q_spec_l03Less (x0 : List Int) : @Eq _ (c_spec_l03Less (bodyK EE R L) x0) (lp_spec_l03Less_0 R L x0 (List.replicate 5 0) (x0.set (0 : Int).toNat (IntKind.wrap .i64 ((x0.getD (0 : Int).toNat 0) + 5))) 0) := by kernel_rfl
theorem q_spec_l03Less_0 (v1 v2 v3 : List Int) (v4 : Int) : @Eq _ (lp_spec_l03Less_0 R L v1 v2 v3 v4 ([1, 1, 1, 0, 1, 0] ++ [0])) (cond (decide (v4 < 4))
 (cond (nonneg (IntKind.wrap .i64 (v4 + 1)))
 (cond (Nat.blt (IntKind.wrap .i64 (v4 + 1)).toNat 5)
 (cond (nonneg v4)
 (cond (Nat.blt v4.toNat 5)
 (cond (nonneg (IntKind.wrap .i64 (v4 + 1)))
 (cond (Nat.blt (IntKind.wrap .i64 (v4 + 1)).toNat 5)
 (cond (nonneg v4)
 (cond (Nat.blt v4.toNat 5)
 (cond (nonneg v4)
 (cond (Nat.blt v4.toNat 5)
 (lp_spec_l03Less_0 R L v1 v2 ((v3.set (IntKind.wrap .i64 (v4 + 1)).toNat (IntKind.wrap .i64 ((v3.getD (IntKind.wrap .i64 (v4 + 1)).toNat 0) + (Int.fdiv (v3.getD v4.toNat 0) (2 ^ (Min.min (26 : Int).toNat (IntKind.bits .i64))))))).set v4.toNat (bitI .and .i64 ((v3.set (IntKind.wrap .i64 (v4 + 1)).toNat (IntKind.wrap .i64 ((v3.getD (IntKind.wrap .i64 (v4 + 1)).toNat 0) + (Int.fdiv (v3.getD v4.toNat 0) (2 ^ (Min.min (26 : Int).toNat (IntKind.bits .i64))))))).getD v4.toNat 0) 67108863)) (IntKind.wrap .i64 (v4 + 1)))
 none)
 none)
 none)
 none)
 none)
 none)
 none)
 none)
 none)
 none)
 (cond (eqI (Int.fdiv (v3.getD (4 : Int).toNat 0) (2 ^ (Min.min (26 : Int).toNat (IntKind.bits .i64)))) 0)
 (some (v1, ()))
 (some (v3.set (4 : Int).toNat (bitI .and .i64 (v3.getD (4 : Int).toNat 0) 67108863), ())))) := by kernel_rfl
theorem q_spec_l03Tag (x0 x1 : List UInt8) : @Eq _ (c_spec_l03Tag (bodyK EE R L) x0 x1) ((c_spec_l03Clamp R x0).bind fun r0 =>
 cond (lenOK (r0.1.length + ([(0 : UInt8)]).length))
 ((c_spec_l03Parts R (r0.1 ++ [0])).bind fun r1 =>
 lp_spec_l03Tag_0 R L x0 x1 r1.1 [0, 0, 0, 0, 0] 0)
 none) := by kernel_rfl
theorem q_spec_l03Tag_0 (v0 v1 : List UInt8) (v5 v6 : List Int) (v7 : Int) : @Eq _ (lp_spec_l03Tag_0 R L v0 v1 v5 v6 v7 ([1, 1, 1, 0, 1, 0] ++ [0])) (cond (decide (v7 < (v1.length : Int)))
 (cond (nonneg (minI (v1.length : Int) (IntKind.wrap .i64 (v7 + 16))))
 (cond (nonneg v7)
 (cond (Nat.ble (minI (v1.length : Int) (IntKind.wrap .i64 (v7 + 16))).toNat v1.length)
 (cond (Nat.ble v7.toNat (minI (v1.length : Int) (IntKind.wrap .i64 (v7 + 16))).toNat)
 (cond (lenOK ((List.drop v7.toNat (List.take (minI (v1.length : Int) (IntKind.wrap .i64 (v7 + 16))).toNat v1)).length + ([(1 : UInt8)]).length))
 (lp_spec_l03Tag_1 R L v0 v1 v5 v6 v7 ((List.drop v7.toNat (List.take (minI (v1.length : Int) (IntKind.wrap .i64 (v7 + 16))).toNat v1)) ++ [1]))
 none)
 none)
 none)
 none)
 none)
 ((c_spec_l03Carry R v6).bind fun r0 =>
 (c_spec_l03Less R r0.1).bind fun r1 =>
 lp_spec_l03Tag_2 R L v0 r1.1 [] 0 0)) := by kernel_rfl
theorem q_spec_l03Tag_1 (v0 v1 : List UInt8) (v5 v6 : List Int) (v7 : Int) (v8 : List UInt8) : @Eq _ (lp_spec_l03Tag_1 R L v0 v1 v5 v6 v7 v8 ([1, 1, 1, 0, 1, 0, 0, 1, 0, 0, 1, 0, 0] ++ [0])) (cond (decide ((v8.length : Int) < 17))
 (cond (lenOK (v8.length + ([(0 : UInt8)]).length))
 (lp_spec_l03Tag_1 R L v0 v1 v5 v6 v7 (v8 ++ [0]))
 none)
 ((c_spec_l03Parts R v8).bind fun r0 =>
 lp_spec_l03Tag_3 R L v0 v1 v5 v6 v7 r0.1 0)) := by kernel_rfl
theorem q_spec_l03Tag_2 (v0 : List UInt8) (v6 v11 : List Int) (v12 v13 : Int) : @Eq _ (lp_spec_l03Tag_2 R L v0 v6 v11 v12 v13 ([1, 1, 1, 1, 1, 1, 1, 0, 1, 0] ++ [0])) (cond (decide (v13 < 16))
 (cond (nonneg (IntKind.wrap .i64 (Int.tdiv (IntKind.wrap .i64 (8 * v13)) 26)))
 (cond (Nat.blt (IntKind.wrap .i64 (Int.tdiv (IntKind.wrap .i64 (8 * v13)) 26)).toNat 5)
 (cond (decide ((Int.tmod (IntKind.wrap .i64 (8 * v13)) 26) < 0))
 none
 (cond (decide (18 < (Int.tmod (IntKind.wrap .i64 (8 * v13)) 26)))
 (cond (nonneg (IntKind.wrap .i64 ((IntKind.wrap .i64 (Int.tdiv (IntKind.wrap .i64 (8 * v13)) 26)) + 1)))
 (cond (Nat.blt (IntKind.wrap .i64 ((IntKind.wrap .i64 (Int.tdiv (IntKind.wrap .i64 (8 * v13)) 26)) + 1)).toNat 5)
 (cond (decide ((IntKind.wrap .i64 (26 - (Int.tmod (IntKind.wrap .i64 (8 * v13)) 26))) < 0))
 none
 (cond (nonneg (IntKind.wrap .i64 (16 + v13)))
 (cond (Nat.blt (IntKind.wrap .i64 (16 + v13)).toNat v0.length)
 (cond (lenOK (v11.length + ([IntKind.wrap .u8 (IntKind.wrap .i64 (v12 + (IntKind.wrap .i64 ((bitI .and .i64 (IntKind.wrap .i64 ((Int.fdiv (v6.getD (IntKind.wrap .i64 (Int.tdiv (IntKind.wrap .i64 (8 * v13)) 26)).toNat 0) (2 ^ (Min.min (Int.tmod (IntKind.wrap .i64 (8 * v13)) 26).toNat (IntKind.bits .i64)))) + (IntKind.wrap .i64 ((v6.getD (IntKind.wrap .i64 ((IntKind.wrap .i64 (Int.tdiv (IntKind.wrap .i64 (8 * v13)) 26)) + 1)).toNat 0) * (2 ^ (Min.min (IntKind.wrap .i64 (26 - (Int.tmod (IntKind.wrap .i64 (8 * v13)) 26))).toNat (IntKind.bits .i64))))))) 255) + (IntKind.wrap .i64 (UInt8.toNat (v0.getD (IntKind.wrap .i64 (16 + v13)).toNat 0) : Int))))))]).length))
 (lp_spec_l03Tag_2 R L v0 v6 (v11 ++ [IntKind.wrap .u8 (IntKind.wrap .i64 (v12 + (IntKind.wrap .i64 ((bitI .and .i64 (IntKind.wrap .i64 ((Int.fdiv (v6.getD (IntKind.wrap .i64 (Int.tdiv (IntKind.wrap .i64 (8 * v13)) 26)).toNat 0) (2 ^ (Min.min (Int.tmod (IntKind.wrap .i64 (8 * v13)) 26).toNat (IntKind.bits .i64)))) + (IntKind.wrap .i64 ((v6.getD (IntKind.wrap .i64 ((IntKind.wrap .i64 (Int.tdiv (IntKind.wrap .i64 (8 * v13)) 26)) + 1)).toNat 0) * (2 ^ (Min.min (IntKind.wrap .i64 (26 - (Int.tmod (IntKind.wrap .i64 (8 * v13)) 26))).toNat (IntKind.bits .i64))))))) 255) + (IntKind.wrap .i64 (UInt8.toNat (v0.getD (IntKind.wrap .i64 (16 + v13)).toNat 0) : Int))))))]) (Int.fdiv (IntKind.wrap .i64 (v12 + (IntKind.wrap .i64 ((bitI .and .i64 (IntKind.wrap .i64 ((Int.fdiv (v6.getD (IntKind.wrap .i64 (Int.tdiv (IntKind.wrap .i64 (8 * v13)) 26)).toNat 0) (2 ^ (Min.min (Int.tmod (IntKind.wrap .i64 (8 * v13)) 26).toNat (IntKind.bits .i64)))) + (IntKind.wrap .i64 ((v6.getD (IntKind.wrap .i64 ((IntKind.wrap .i64 (Int.tdiv (IntKind.wrap .i64 (8 * v13)) 26)) + 1)).toNat 0) * (2 ^ (Min.min (IntKind.wrap .i64 (26 - (Int.tmod (IntKind.wrap .i64 (8 * v13)) 26))).toNat (IntKind.bits .i64))))))) 255) + (IntKind.wrap .i64 (UInt8.toNat (v0.getD (IntKind.wrap .i64 (16 + v13)).toNat 0) : Int)))))) (2 ^ (Min.min (8 : Int).toNat (IntKind.bits .i64)))) (IntKind.wrap .i64 (v13 + 1)))
 none)
 none)
 none))
 none)
 none)
 (cond (nonneg (IntKind.wrap .i64 (16 + v13)))
 (cond (Nat.blt (IntKind.wrap .i64 (16 + v13)).toNat v0.length)
 (cond (lenOK (v11.length + ([IntKind.wrap .u8 (IntKind.wrap .i64 (v12 + (IntKind.wrap .i64 ((bitI .and .i64 (Int.fdiv (v6.getD (IntKind.wrap .i64 (Int.tdiv (IntKind.wrap .i64 (8 * v13)) 26)).toNat 0) (2 ^ (Min.min (Int.tmod (IntKind.wrap .i64 (8 * v13)) 26).toNat (IntKind.bits .i64)))) 255) + (IntKind.wrap .i64 (UInt8.toNat (v0.getD (IntKind.wrap .i64 (16 + v13)).toNat 0) : Int))))))]).length))
 (lp_spec_l03Tag_2 R L v0 v6 (v11 ++ [IntKind.wrap .u8 (IntKind.wrap .i64 (v12 + (IntKind.wrap .i64 ((bitI .and .i64 (Int.fdiv (v6.getD (IntKind.wrap .i64 (Int.tdiv (IntKind.wrap .i64 (8 * v13)) 26)).toNat 0) (2 ^ (Min.min (Int.tmod (IntKind.wrap .i64 (8 * v13)) 26).toNat (IntKind.bits .i64)))) 255) + (IntKind.wrap .i64 (UInt8.toNat (v0.getD (IntKind.wrap .i64 (16 + v13)).toNat 0) : Int))))))]) (Int.fdiv (IntKind.wrap .i64 (v12 + (IntKind.wrap .i64 ((bitI .and .i64 (Int.fdiv (v6.getD (IntKind.wrap .i64 (Int.tdiv (IntKind.wrap .i64 (8 * v13)) 26)).toNat 0) (2 ^ (Min.min (Int.tmod (IntKind.wrap .i64 (8 * v13)) 26).toNat (IntKind.bits .i64)))) 255) + (IntKind.wrap .i64 (UInt8.toNat (v0.getD (IntKind.wrap .i64 (16 + v13)).toNat 0) : Int)))))) (2 ^ (Min.min (8 : Int).toNat (IntKind.bits .i64)))) (IntKind.wrap .i64 (v13 + 1)))
 none)
 none)
 none)))
 none)
 none)
 (some (List.map (fun (n : Int) => UInt8.ofNat n.toNat) v11, ()))) := by kernel_rfl
theorem q_spec_l03Tag_3 (v0 v1 : List UInt8) (v5 v6 : List Int) (v7 : Int) (v9 : List Int) (v10 : Int) : @Eq _ (lp_spec_l03Tag_3 R L v0 v1 v5 v6 v7 v9 v10 ([1, 1, 1, 0, 1, 0, 0, 1, 0, 0, 1, 1, 1, 0, 1, 0] ++ [0])) (cond (decide (v10 < 5))
 (cond (nonneg v10)
 (cond (Nat.blt v10.toNat 5)
 (cond (nonneg v10)
 (cond (Nat.blt v10.toNat 5)
 (cond (nonneg v10)
 (cond (Nat.blt v10.toNat 5)
 (lp_spec_l03Tag_3 R L v0 v1 v5 (v6.set v10.toNat (IntKind.wrap .i64 ((v6.getD v10.toNat 0) + (v9.getD v10.toNat 0)))) v7 v9 (IntKind.wrap .i64 (v10 + 1)))
 none)
 none)
 none)
 none)
 none)
 none)
 ((c_spec_l03Times R v6 v5).bind fun r0 =>
 lp_spec_l03Tag_0 R L v0 v1 v5 r0.1 (IntKind.wrap .i64 (v7 + 16)))) := by kernel_rfl
theorem q_spec_l04Tag (x0 x1 x2 x3 : List UInt8) : @Eq _ (c_spec_l04Tag (bodyK EE R L) x0 x1 x2 x3) ((c_spec_l02Block R x0 x1 0).bind fun r0 =>
 cond (Nat.ble (32 : Int).toNat r0.1.length)
 ((c_spec_l04Pad R x2).bind fun r1 =>
 (c_spec_l04Pad R x3).bind fun r2 =>
 cond (lenOK (r1.1.length + r2.1.length))
 ((c_spec_l04Eight R (x2.length : Int)).bind fun r3 =>
 cond (lenOK ((r1.1 ++ r2.1).length + r3.1.length))
 ((c_spec_l04Eight R (x3.length : Int)).bind fun r4 =>
 cond (lenOK (((r1.1 ++ r2.1) ++ r3.1).length + r4.1.length))
 ((c_spec_l03Tag R (List.drop 0 (List.take (32 : Int).toNat r0.1)) (((r1.1 ++ r2.1) ++ r3.1) ++ r4.1)).bind fun r5 =>
 some (r5.1, ()))
 none)
 none)
 none)
 none) := by kernel_rfl
theorem q_spec_l04Seal (x0 x1 x2 x3 : List UInt8) : @Eq _ (c_spec_l04Seal (bodyK EE R L) x0 x1 x2 x3) ((c_spec_l02Xor R x0 x1 1 x3).bind fun r0 =>
 (c_spec_l04Tag R x0 x1 x2 r0.1).bind fun r1 =>
 cond (lenOK (r0.1.length + r1.1.length))
 (some (r0.1 ++ r1.1, ()))
 none) := by kernel_rfl
theorem q_spec_l06Seal (x0 : List UInt8) (x1 x2 x3 : Int) (x4 : List UInt8) : @Eq _ (c_spec_l06Seal (bodyK EE R L) x0 x1 x2 x3 x4) ((c_spec_l06Nonce R x1 x2 x3).bind fun r0 =>
 (c_spec_l04Seal R x0 r0.1 [98, 108, 111, 99, 107] x4).bind fun r1 =>
 some (r1.1, ())) := by kernel_rfl
theorem q_spec_l13Side (x0 : List UInt8) (x1 x2 : Int) (x3 : d77) (x4 : List d69) : @Eq _ (c_spec_l13Side (bodyK EE R L) x0 x1 x2 x3 x4) ((c_spec_l12State R x3 x4).bind fun r0 =>
 (c_spec_l06Seal R x0 1 (IntKind.wrap .i64 (16 * x1)) x2 r0.1).bind fun r1 =>
 lp_spec_l13Side_0 R L x0 x1 x2 x3 [r1.1] 0) := by kernel_rfl
theorem q_spec_l13Side_0 (v0 : List UInt8) (v1 v2 : Int) (v8 : d77) (v11 : List (List UInt8)) (v12 : Int) : @Eq _ (lp_spec_l13Side_0 R L v0 v1 v2 v8 v11 v12 ([1, 1, 0, 1, 0] ++ [0])) (cond (decide (v12 < 15))
 (cond (nonneg v12)
 (cond (Nat.blt v12.toNat v8.2.1.2.2.1.length)
 ((c_spec_l12Bucket R (v8.2.1.2.2.1.getD v12.toNat [])).bind fun r0 =>
 (c_spec_l06Seal R v0 2 (IntKind.wrap .i64 ((IntKind.wrap .i64 ((IntKind.wrap .i64 (16 * v1)) + 1)) + v12)) v2 r0.1).bind fun r1 =>
 cond (lenOK (v11.length + ([r1.1]).length))
 (lp_spec_l13Side_0 R L v0 v1 v2 v8 (v11 ++ [r1.1]) (IntKind.wrap .i64 (v12 + 1)))
 none)
 none)
 none)
 (some (v11, ()))) := by kernel_rfl
theorem q_spec_l07Leaf (x0 : Int) (x1 : List UInt8) : @Eq _ (c_spec_l07Leaf (bodyK EE R L) x0 x1) (cond (lenOK ((List.map (fun (n : Int) => UInt8.ofNat n.toNat) [(0 : Int), IntKind.wrap .u8 x0]).length + x1.length))
 ((c_spec_l01Of R ((List.map (fun (n : Int) => UInt8.ofNat n.toNat) [(0 : Int), IntKind.wrap .u8 x0]) ++ x1)).bind fun r0 =>
 some (r0.1, ()))
 none) := by kernel_rfl
theorem q_spec_l07Leaves (x0 : List (List UInt8)) : @Eq _ (c_spec_l07Leaves (bodyK EE R L) x0) (lp_spec_l07Leaves_0 R L x0 [] 0) := by kernel_rfl
theorem q_spec_l07Leaves_0 (v0 v3 : List (List UInt8)) (v4 : Int) : @Eq _ (lp_spec_l07Leaves_0 R L v0 v3 v4 ([1, 1, 0, 1, 0] ++ [0])) (cond (decide (v4 < (v0.length : Int)))
 (cond (nonneg v4)
 (cond (Nat.blt v4.toNat v0.length)
 ((c_spec_l07Leaf R v4 (v0.getD v4.toNat [])).bind fun r0 =>
 cond (lenOK (v3.length + ([r0.1]).length))
 (lp_spec_l07Leaves_0 R L v0 (v3 ++ [r0.1]) (IntKind.wrap .i64 (v4 + 1)))
 none)
 none)
 none)
 (some (v3, ()))) := by kernel_rfl
theorem q_spec_l07Join (x0 x1 : List UInt8) : @Eq _ (c_spec_l07Join (bodyK EE R L) x0 x1) (cond (lenOK (([(1 : UInt8)]).length + x0.length))
 (cond (lenOK (([(1 : UInt8)] ++ x0).length + x1.length))
 ((c_spec_l01Of R (([1] ++ x0) ++ x1)).bind fun r0 =>
 some (r0.1, ()))
 none)
 none) := by kernel_rfl
theorem q_spec_l07Level (x0 : List (List UInt8)) : @Eq _ (c_spec_l07Level (bodyK EE R L) x0) (lp_spec_l07Level_0 R L x0 [] 0) := by kernel_rfl
theorem q_spec_l07Level_0 (v0 v3 : List (List UInt8)) (v4 : Int) : @Eq _ (lp_spec_l07Level_0 R L v0 v3 v4 ([1, 1, 0, 1, 0] ++ [0])) (cond (decide ((IntKind.wrap .i64 (v4 + 1)) < (v0.length : Int)))
 (cond (nonneg v4)
 (cond (Nat.blt v4.toNat v0.length)
 (cond (nonneg (IntKind.wrap .i64 (v4 + 1)))
 (cond (Nat.blt (IntKind.wrap .i64 (v4 + 1)).toNat v0.length)
 ((c_spec_l07Join R (v0.getD v4.toNat []) (v0.getD (IntKind.wrap .i64 (v4 + 1)).toNat [])).bind fun r0 =>
 cond (lenOK (v3.length + ([r0.1]).length))
 (lp_spec_l07Level_0 R L v0 (v3 ++ [r0.1]) (IntKind.wrap .i64 (v4 + 2)))
 none)
 none)
 none)
 none)
 none)
 (some (v3, ()))) := by kernel_rfl
theorem q_spec_l07Root (x0 : List (List UInt8)) : @Eq _ (c_spec_l07Root (bodyK EE R L) x0) ((c_spec_l07Leaves R x0).bind fun r0 =>
 lp_spec_l07Root_0 R L r0.1) := by kernel_rfl
theorem q_spec_l07Root_0 (v3 : List (List UInt8)) : @Eq _ (lp_spec_l07Root_0 R L v3 ([1, 1, 0, 0] ++ [0])) (cond (decide (1 < (v3.length : Int)))
 ((c_spec_l07Level R v3).bind fun r0 =>
 lp_spec_l07Root_0 R L r0.1)
 (cond (Nat.blt (0 : Int).toNat v3.length)
 (some (v3.getD (0 : Int).toNat [], ()))
 none)) := by kernel_rfl
theorem q_spec_NewDevice : @Eq _ (c_spec_NewDevice (bodyK EE R L)) (some ((List.replicate (40 : Int).toNat [], ([], ())), ())) := by kernel_rfl
theorem q_spec_l05Write (x0 : d64) (x1 : Int) (x2 : List UInt8) : @Eq _ (c_spec_l05Write (bodyK EE R L) x0 x1 x2) (cond (lenOK (([] : List d63).length + x0.2.1.length))
 (cond (lenOK ((([] : List d63) ++ x0.2.1).length + ([(x1, (x2, ()))]).length))
 (some ((x0.1, (([] ++ x0.2.1) ++ [(x1, (x2, ()))], x0.2.2)), ()))
 none)
 none) := by kernel_rfl
theorem q_spec_l13Lay (x0 : d64) (x1 : Int) (x2 : List (List UInt8)) : @Eq _ (c_spec_l13Lay (bodyK EE R L) x0 x1 x2) (lp_spec_l13Lay_0 R L x1 x2 x0 ([], ([], ())) 0) := by kernel_rfl
theorem q_spec_l13Lay_0 (v1 : Int) (v2 : List (List UInt8)) (v3 v6 : d64) (v7 : Int) : @Eq _ (lp_spec_l13Lay_0 R L v1 v2 v3 v6 v7 ([1, 0, 1, 0] ++ [0])) (cond (decide (v7 < (v2.length : Int)))
 (cond (nonneg v7)
 (cond (Nat.blt v7.toNat v2.length)
 ((c_spec_l05Write R v3 (IntKind.wrap .i64 ((IntKind.wrap .i64 (16 * v1)) + v7)) (v2.getD v7.toNat [])).bind fun r0 =>
 lp_spec_l13Lay_1 R L v1 v2 r0.1 v6 (IntKind.wrap .i64 (v7 + 1)))
 none)
 none)
 (some (v3, ()))) := by kernel_rfl
theorem q_spec_l13Lay_1 (v1 : Int) (v2 : List (List UInt8)) (v3 v6 : d64) (v7 : Int) : @Eq _ (lp_spec_l13Lay_1 R L v1 v2 v3 v6 v7 ([1, 0, 1, 0] ++ [0])) (cond (decide (v7 < (v2.length : Int)))
 (cond (nonneg v7)
 (cond (Nat.blt v7.toNat v2.length)
 ((c_spec_l05Write R v3 (IntKind.wrap .i64 ((IntKind.wrap .i64 (16 * v1)) + v7)) (v2.getD v7.toNat [])).bind fun r0 =>
 lp_spec_l13Lay_1 R L v1 v2 r0.1 v6 (IntKind.wrap .i64 (v7 + 1)))
 none)
 none)
 (some (v3, ()))) := by kernel_rfl
theorem q_spec_l05Sync (x0 : d64) : @Eq _ (c_spec_l05Sync (bodyK EE R L) x0) (cond (lenOK (([] : List (List UInt8)).length + x0.1.length))
 (lp_spec_l05Sync_0 R L x0 ([], ([], ())) ([] ++ x0.1, ([], ())) 0)
 none) := by kernel_rfl
theorem q_spec_l05Sync_0 (v1 v2 v3 : d64) (v4 : Int) : @Eq _ (lp_spec_l05Sync_0 R L v1 v2 v3 v4 ([1, 1, 0, 1, 0] ++ [0])) (cond (decide (v4 < (v1.2.1.length : Int)))
 (cond (nonneg v4)
 (cond (Nat.blt v4.toNat v1.2.1.length)
 (cond (nonneg v4)
 (cond (Nat.blt v4.toNat v1.2.1.length)
 (cond (nonneg (v1.2.1.getD v4.toNat (0, ([], ()))).1)
 (cond (Nat.blt (v1.2.1.getD v4.toNat (0, ([], ()))).1.toNat v3.1.length)
 (lp_spec_l05Sync_0 R L v1 v2 (v3.1.set (v1.2.1.getD v4.toNat (0, ([], ()))).1.toNat (v1.2.1.getD v4.toNat (0, ([], ()))).2.1, v3.2) (IntKind.wrap .i64 (v4 + 1)))
 none)
 none)
 none)
 none)
 none)
 none)
 (some (v3, ()))) := by kernel_rfl
theorem q_spec_l13Init (x0 : List UInt8) (x1 : List Int) : @Eq _ (c_spec_l13Init (bodyK EE R L) x0 x1) ((c_spec_NewEnc R x1).bind fun r0 =>
 (c_spec_l13Side R x0 0 0 r0.1 []).bind fun r1 =>
 (c_spec_l01Of R [98, 101, 103, 105, 110]).bind fun r2 =>
 (c_spec_l07Root R r1.1).bind fun r3 =>
 (c_spec_NewDevice R).bind fun r4 =>
 (c_spec_l13Lay R r4.1 0 r1.1).bind fun r5 =>
 (c_spec_l05Sync R r5.1).bind fun r6 =>
 some ((x0, ((0, (0, (0, (0, (r2.1, (r2.1, (r3.1, ()))))))), (r6.1, (true, (false, ()))))), ())) := by kernel_rfl
theorem q_spec_l05Own (x0 : d64) : @Eq _ (c_spec_l05Own (bodyK EE R L) x0) (cond (lenOK (([] : List (List UInt8)).length + x0.1.length))
 (cond (lenOK (([] : List d63).length + x0.2.1.length))
 (some (([] ++ x0.1, ([] ++ x0.2.1, ())), ()))
 none)
 none) := by kernel_rfl
theorem q_spec_l13Own (x0 : d65) : @Eq _ (c_spec_l13Own (bodyK EE R L) x0) ((c_spec_l05Own R x0.2.2.1).bind fun r0 =>
 some ((x0.1, (x0.2.1, (r0.1, x0.2.2.2))), ())) := by kernel_rfl
theorem q_spec_l09Own (x0 : List d68) : @Eq _ (c_spec_l09Own (bodyK EE R L) x0) (lp_spec_l09Own_0 R L x0 [] 0) := by kernel_rfl
theorem q_spec_l09Own_0 (v0 v3 : List d68) (v4 : Int) : @Eq _ (lp_spec_l09Own_0 R L v0 v3 v4 ([1, 1, 0, 1, 0] ++ [0])) (cond (decide (v4 < (v0.length : Int)))
 (cond (nonneg v4)
 (cond (Nat.blt v4.toNat v0.length)
 (cond (lenOK (([] : List d67).length + (v0.getD v4.toNat ([], ())).1.length))
 (cond (lenOK (v3.length + ([(([] : List d67) ++ (v0.getD v4.toNat ([], ())).1, ())]).length))
 (lp_spec_l09Own_0 R L v0 (v3 ++ [([] ++ (v0.getD v4.toNat ([], ())).1, ())]) (IntKind.wrap .i64 (v4 + 1)))
 none)
 none)
 none)
 none)
 (some (v3, ()))) := by kernel_rfl
theorem q_spec_NewWorld (x0 : List UInt8) (x1 : List Int) : @Eq _ (c_spec_NewWorld (bodyK EE R L) x0 x1) (cond (decide (65536 < (x0.length : Int)))
 (some ((([], ((0, (0, (0, (0, ([], ([], ([], ()))))))), (([], ([], ())), (false, (false, ()))))), (([], ([], ())), ([], ([], ([], (false, ())))))), (2, ())))
 (cond (decide (4096 < (x1.length : Int)))
 (some ((([], ((0, (0, (0, (0, ([], ([], ([], ()))))))), (([], ([], ())), (false, (false, ()))))), (([], ([], ())), ([], ([], ([], (false, ())))))), (2, ())))
 (cond (!(eqI (x0.length : Int) 32))
 (some ((([], ((0, (0, (0, (0, ([], ([], ([], ()))))))), (([], ([], ())), (false, (false, ()))))), (([], ([], ())), ([], ([], ([], (false, ())))))), (8, ())))
 (cond (!(eqI (x1.length : Int) 12))
 (some ((([], ((0, (0, (0, (0, ([], ([], ([], ()))))))), (([], ([], ())), (false, (false, ()))))), (([], ([], ())), ([], ([], ([], (false, ())))))), (8, ())))
 ((c_spec_l08Leaves R x1).bind fun r0 =>
 cond (!r0.1)
 (some ((([], ((0, (0, (0, (0, ([], ([], ([], ()))))))), (([], ([], ())), (false, (false, ()))))), (([], ([], ())), ([], ([], ([], (false, ())))))), (4, ())))
 ((c_spec_l14New R x0 x1).bind fun r1 =>
 (c_spec_l14Own R r1.1).bind fun r2 =>
 some (r2.1, (0, ())))))))) := by kernel_rfl
theorem q_impl_areAll_string__1 (x0 : List UInt8) (x1 : FnVal) : @Eq _ (c_impl_areAll_string__1 (bodyK EE R L) x0 x1) ((callVB EE R x1 [⟨.str, (x0 : List UInt8)⟩]).bind fun (r0 : Bool) =>
 some (!r0, ())) := by kernel_rfl
theorem q_slices_IndexFunc___string_string_ (x0 : List (List UInt8)) (x1 : FnVal) : @Eq _ (c_slices_IndexFunc___string_string_ (bodyK EE R L) x0 x1) (lp_slices_IndexFunc___string_string__0 R L x0 x1 0 (x0.length : Int) 0) := by kernel_rfl
theorem q_slices_IndexFunc___string_string__0 (v0 : List (List UInt8)) (v1 : FnVal) (v4 v7 v8 : Int) : @Eq _ (lp_slices_IndexFunc___string_string__0 R L v0 v1 v4 v7 v8 ([1, 0, 1, 0] ++ [0])) (cond (decide (v8 < v7))
 (cond (nonneg v8)
 (cond (Nat.blt v8.toNat v0.length)
 ((callVB EE R v1 [⟨.str, (v0.getD v8.toNat [] : List UInt8)⟩]).bind fun (r0 : Bool) =>
 cond r0
 (some (v8, ()))
 (lp_slices_IndexFunc___string_string__1 R L v0 v1 v4 v8 v7 (IntKind.wrap .i64 (v8 + 1))))
 none)
 none)
 (some (-1, ()))) := by kernel_rfl
theorem q_slices_IndexFunc___string_string__1 (v0 : List (List UInt8)) (v1 : FnVal) (v4 v5 v7 v8 : Int) : @Eq _ (lp_slices_IndexFunc___string_string__1 R L v0 v1 v4 v5 v7 v8 ([1, 0, 1, 0] ++ [0])) (cond (decide (v8 < v7))
 (cond (nonneg v8)
 (cond (Nat.blt v8.toNat v0.length)
 ((callVB EE R v1 [⟨.str, (v0.getD v8.toNat [] : List UInt8)⟩]).bind fun (r0 : Bool) =>
 cond r0
 (some (v8, ()))
 (lp_slices_IndexFunc___string_string__1 R L v0 v1 v4 v8 v7 (IntKind.wrap .i64 (v8 + 1))))
 none)
 none)
 (some (-1, ()))) := by kernel_rfl
theorem q_slices_ContainsFunc___string_string_ (x0 : List (List UInt8)) (x1 : FnVal) : @Eq _ (c_slices_ContainsFunc___string_string_ (bodyK EE R L) x0 x1) ((c_slices_IndexFunc___string_string_ R x0 x1).bind fun r0 =>
 some (decide (0 ≤ r0.1), ())) := by kernel_rfl
theorem q_impl_areAll_string_ (x0 : List (List UInt8)) (x1 : FnVal) : @Eq _ (c_impl_areAll_string_ (bodyK EE R L) x0 x1) ((c_slices_ContainsFunc___string_string_ R x0 (FnVal.mk (254 : Nat) (FCaps.fn x1 FCaps.nil))).bind fun r0 =>
 some (!r0.1, ())) := by kernel_rfl
theorem q_impl_areShort_1 (x0 : List UInt8) : @Eq _ (c_impl_areShort_1 (bodyK EE R L) x0) (some (decide ((x0.length : Int) ≤ 65536), ())) := by kernel_rfl
theorem q_impl_areShort (x0 : List (List UInt8)) : @Eq _ (c_impl_areShort (bodyK EE R L) x0) ((c_impl_areAll_string_ R x0 (FnVal.mk (186 : Nat) FCaps.nil)).bind fun r0 =>
 some (r0.1, ())) := by kernel_rfl
theorem q_impl_areAll_int__1 (x0 : Int) (x1 : FnVal) : @Eq _ (c_impl_areAll_int__1 (bodyK EE R L) x0 x1) ((callVB EE R x1 [⟨(.int .i64), (x0 : Int)⟩]).bind fun (r0 : Bool) =>
 some (!r0, ())) := by kernel_rfl
theorem q_slices_IndexFunc___int_int_ (x0 : List Int) (x1 : FnVal) : @Eq _ (c_slices_IndexFunc___int_int_ (bodyK EE R L) x0 x1) (lp_slices_IndexFunc___int_int__0 R L x0 x1 0 (x0.length : Int) 0) := by kernel_rfl
theorem q_slices_IndexFunc___int_int__0 (v0 : List Int) (v1 : FnVal) (v4 v7 v8 : Int) : @Eq _ (lp_slices_IndexFunc___int_int__0 R L v0 v1 v4 v7 v8 ([1, 0, 1, 0] ++ [0])) (cond (decide (v8 < v7))
 (cond (nonneg v8)
 (cond (Nat.blt v8.toNat v0.length)
 ((callVB EE R v1 [⟨(.int .i64), (v0.getD v8.toNat 0 : Int)⟩]).bind fun (r0 : Bool) =>
 cond r0
 (some (v8, ()))
 (lp_slices_IndexFunc___int_int__1 R L v0 v1 v4 v8 v7 (IntKind.wrap .i64 (v8 + 1))))
 none)
 none)
 (some (-1, ()))) := by kernel_rfl
theorem q_slices_IndexFunc___int_int__1 (v0 : List Int) (v1 : FnVal) (v4 v5 v7 v8 : Int) : @Eq _ (lp_slices_IndexFunc___int_int__1 R L v0 v1 v4 v5 v7 v8 ([1, 0, 1, 0] ++ [0])) (cond (decide (v8 < v7))
 (cond (nonneg v8)
 (cond (Nat.blt v8.toNat v0.length)
 ((callVB EE R v1 [⟨(.int .i64), (v0.getD v8.toNat 0 : Int)⟩]).bind fun (r0 : Bool) =>
 cond r0
 (some (v8, ()))
 (lp_slices_IndexFunc___int_int__1 R L v0 v1 v4 v8 v7 (IntKind.wrap .i64 (v8 + 1))))
 none)
 none)
 (some (-1, ()))) := by kernel_rfl
theorem q_slices_ContainsFunc___int_int_ (x0 : List Int) (x1 : FnVal) : @Eq _ (c_slices_ContainsFunc___int_int_ (bodyK EE R L) x0 x1) ((c_slices_IndexFunc___int_int_ R x0 x1).bind fun r0 =>
 some (decide (0 ≤ r0.1), ())) := by kernel_rfl
theorem q_impl_areAll_int_ (x0 : List Int) (x1 : FnVal) : @Eq _ (c_impl_areAll_int_ (bodyK EE R L) x0 x1) ((c_slices_ContainsFunc___int_int_ R x0 (FnVal.mk (268 : Nat) (FCaps.fn x1 FCaps.nil))).bind fun r0 =>
 some (!r0.1, ())) := by kernel_rfl
theorem q_impl_within (x0 x1 x2 : Int) : @Eq _ (c_impl_within (bodyK EE R L) x0 x1 x2) (cond (decide (x1 ≤ x0))
 (some (decide (x0 ≤ x2), ()))
 (some (false, ()))) := by kernel_rfl
theorem q_impl_isLeaf (x0 : Int) : @Eq _ (c_impl_isLeaf (bodyK EE R L) x0) ((c_impl_within R x0 0 7).bind fun r0 =>
 some (r0.1, ())) := by kernel_rfl
theorem q_impl_leavesOf (x0 : List Int) : @Eq _ (c_impl_leavesOf (bodyK EE R L) x0) (cond (decide (4096 < (x0.length : Int)))
 (some (2, ()))
 (cond (!(eqI (x0.length : Int) 12))
 (some (8, ()))
 ((c_impl_areAll_int_ R x0 (FnVal.mk (205 : Nat) FCaps.nil)).bind fun r0 =>
 cond (!r0.1)
 (some (4, ()))
 (some (0, ()))))) := by kernel_rfl
theorem q_impl_NewOram (x0 : List Int) : @Eq _ (c_impl_NewOram (bodyK EE R L) x0) ((c_impl_leavesOf R x0).bind fun r0 =>
 cond (!(eqI r0.1 0))
 (some (([], ([], ([], ()))), (r0.1, ())))
 ((c_slices_Clone___int_int_ R x0).bind fun r1 =>
 some ((r1.1, ([], (List.replicate (15 : Int).toNat [], ()))), (0, ())))) := by kernel_rfl
theorem q_impl_NewEnc (x0 : List Int) : @Eq _ (c_impl_NewEnc (bodyK EE R L) x0) ((c_impl_NewOram R x0).bind fun r0 =>
 cond (!(eqI r0.2.1 0))
 (some (([], (([], ([], ([], ()))), ())), (r0.2.1, ())))
 (some ((List.replicate (11 : Int).toNat 0, (r0.1, ())), (0, ())))) := by kernel_rfl
theorem q_impl_NewDevice : @Eq _ (c_impl_NewDevice (bodyK EE R L)) (some ((List.replicate (40 : Int).toNat [], ([], ())), ())) := by kernel_rfl
theorem q_impl_nonceOf (x0 x1 x2 : Int) : @Eq _ (c_impl_nonceOf (bodyK EE R L) x0 x1 x2) ((c_impl_little R x0 1).bind fun r0 =>
 (c_impl_little R x1 2).bind fun r1 =>
 cond (lenOK (r0.1.length + r1.1.length))
 ((c_impl_little R 0 1).bind fun r2 =>
 cond (lenOK ((r0.1 ++ r1.1).length + r2.1.length))
 ((c_impl_little R x2 8).bind fun r3 =>
 cond (lenOK (((r0.1 ++ r1.1) ++ r2.1).length + r3.1.length))
 (some (((r0.1 ++ r1.1) ++ r2.1) ++ r3.1, ()))
 none)
 none)
 none) := by kernel_rfl
theorem q_impl_padded (x0 : List UInt8) : @Eq _ (c_impl_padded (bodyK EE R L) x0) ((c_strings_Repeat R [0] (Int.tmod (IntKind.wrap .i64 (16 - (Int.tmod (x0.length : Int) 16))) 16)).bind fun r0 =>
 cond (lenOK (x0.length + r0.1.length))
 (some (x0 ++ r0.1, ()))
 none) := by kernel_rfl
theorem q_impl_clamped (x0 : List UInt8) : @Eq _ (c_impl_clamped (bodyK EE R L) x0) (cond (Nat.ble (16 : Int).toNat x0.length)
 (lp_impl_clamped_0 R L (List.map (fun (b : UInt8) => (UInt8.toNat b : Int)) (List.drop 0 (List.take (16 : Int).toNat x0))) 3)
 none) := by kernel_rfl
theorem q_impl_clamped_0 (v3 : List Int) (v4 : Int) : @Eq _ (lp_impl_clamped_0 R L v3 v4 ([1, 1, 0, 1, 0] ++ [0])) (cond (decide (v4 < 16))
 (cond (nonneg v4)
 (cond (Nat.blt v4.toNat v3.length)
 (cond (nonneg v4)
 (cond (Nat.blt v4.toNat v3.length)
 (lp_impl_clamped_0 R L (v3.set v4.toNat (bitI .and .u8 (v3.getD v4.toNat 0) 15)) (IntKind.wrap .i64 (v4 + 4)))
 none)
 none)
 none)
 none)
 (lp_impl_clamped_1 R L v3 4)) := by kernel_rfl
theorem q_impl_clamped_1 (v3 : List Int) (v5 : Int) : @Eq _ (lp_impl_clamped_1 R L v3 v5 ([1, 1, 1, 0, 1, 0] ++ [0])) (cond (decide (v5 < 16))
 (cond (nonneg v5)
 (cond (Nat.blt v5.toNat v3.length)
 (cond (nonneg v5)
 (cond (Nat.blt v5.toNat v3.length)
 (lp_impl_clamped_1 R L (v3.set v5.toNat (bitI .and .u8 (v3.getD v5.toNat 0) 252)) (IntKind.wrap .i64 (v5 + 4)))
 none)
 none)
 none)
 none)
 (some (List.map (fun (n : Int) => UInt8.ofNat n.toNat) v3, ()))) := by kernel_rfl
theorem q_impl_limbsOf (x0 : List UInt8) : @Eq _ (c_impl_limbsOf (bodyK EE R L) x0) (lp_impl_limbsOf_0 R L (List.replicate 5 0) (List.replicate 5 0) (List.map (fun (b : UInt8) => (UInt8.toNat b : Int)) x0) ((List.map (fun (b : UInt8) => (UInt8.toNat b : Int)) x0).length : Int) 0) := by kernel_rfl
theorem q_impl_limbsOf_0 (v2 v3 v9 : List Int) (v10 v11 : Int) : @Eq _ (lp_impl_limbsOf_0 R L v2 v3 v9 v10 v11 ([1, 1, 0, 1, 0] ++ [0])) (cond (decide (v11 < v10))
 (cond (nonneg v11)
 (cond (Nat.blt v11.toNat v9.length)
 (lp_impl_limbsOf_1 R L v2 v3 v11 (v9.getD v11.toNat 0) v9 v10 v11 0)
 none)
 none)
 (some (v3, ()))) := by kernel_rfl
theorem q_impl_limbsOf_1 (v2 v3 : List Int) (v4 v5 : Int) (v9 : List Int) (v10 v11 v16 : Int) : @Eq _ (lp_impl_limbsOf_1 R L v2 v3 v4 v5 v9 v10 v11 v16 ([1, 1, 0, 1, 0, 0, 1, 1, 0, 0, 1, 1, 0] ++ [0])) (cond (decide (v16 < 8))
 (cond (decide (v16 < 0))
 none
 (cond (eqI (bitI .and .u8 (Int.fdiv v5 (2 ^ (Min.min v16.toNat (IntKind.bits .u8)))) 1) 1)
 (cond (nonneg (IntKind.wrap .i64 (Int.tdiv (IntKind.wrap .i64 ((IntKind.wrap .i64 (8 * v4)) + v16)) 26)))
 (cond (Nat.blt (IntKind.wrap .i64 (Int.tdiv (IntKind.wrap .i64 ((IntKind.wrap .i64 (8 * v4)) + v16)) 26)).toNat 5)
 (cond (decide ((Int.tmod (IntKind.wrap .i64 ((IntKind.wrap .i64 (8 * v4)) + v16)) 26) < 0))
 none
 (cond (nonneg (IntKind.wrap .i64 (Int.tdiv (IntKind.wrap .i64 ((IntKind.wrap .i64 (8 * v4)) + v16)) 26)))
 (cond (Nat.blt (IntKind.wrap .i64 (Int.tdiv (IntKind.wrap .i64 ((IntKind.wrap .i64 (8 * v4)) + v16)) 26)).toNat 5)
 (lp_impl_limbsOf_1 R L v2 (v3.set (IntKind.wrap .i64 (Int.tdiv (IntKind.wrap .i64 ((IntKind.wrap .i64 (8 * v4)) + v16)) 26)).toNat (bitI .or .u64 (v3.getD (IntKind.wrap .i64 (Int.tdiv (IntKind.wrap .i64 ((IntKind.wrap .i64 (8 * v4)) + v16)) 26)).toNat 0) (IntKind.wrap .u64 (1 * (2 ^ (Min.min (Int.tmod (IntKind.wrap .i64 ((IntKind.wrap .i64 (8 * v4)) + v16)) 26).toNat (IntKind.bits .u64))))))) v4 v5 v9 v10 v11 (IntKind.wrap .i64 (v16 + 1)))
 none)
 none))
 none)
 none)
 (lp_impl_limbsOf_1 R L v2 v3 v4 v5 v9 v10 v11 (IntKind.wrap .i64 (v16 + 1)))))
 (lp_impl_limbsOf_0 R L v2 v3 v9 v10 (IntKind.wrap .i64 (v11 + 1)))) := by kernel_rfl
theorem q_impl_limbs_carried (x0 : List Int) : @Eq _ (c_impl_limbs_carried (bodyK EE R L) x0) (lp_impl_limbs_carried_0 R L x0 (List.replicate 5 0) 0) := by kernel_rfl
theorem q_impl_limbs_carried_0 (v1 v2 : List Int) (v5 : Int) : @Eq _ (lp_impl_limbs_carried_0 R L v1 v2 v5 ([1, 0, 1, 0] ++ [0])) (cond (decide (v5 < 3))
 (lp_impl_limbs_carried_1 R L v1 v2 0 v5 0)
 (some (v1, ()))) := by kernel_rfl
theorem q_impl_limbs_carried_1 (v1 v2 : List Int) (v3 v5 v7 : Int) : @Eq _ (lp_impl_limbs_carried_1 R L v1 v2 v3 v5 v7 ([1, 0, 1, 0, 0, 1, 1, 0, 0, 1, 0, 1, 0] ++ [0])) (cond (decide (v7 < 5))
 (cond (nonneg v7)
 (cond (Nat.blt v7.toNat 5)
 (cond (nonneg v7)
 (cond (Nat.blt v7.toNat 5)
 (cond (nonneg v7)
 (cond (Nat.blt v7.toNat 5)
 (cond (nonneg v7)
 (cond (Nat.blt v7.toNat 5)
 (cond (nonneg v7)
 (cond (Nat.blt v7.toNat 5)
 (lp_impl_limbs_carried_1 R L ((v1.set v7.toNat (IntKind.wrap .u64 ((v1.getD v7.toNat 0) + v3))).set v7.toNat (bitI .and .u64 ((v1.set v7.toNat (IntKind.wrap .u64 ((v1.getD v7.toNat 0) + v3))).getD v7.toNat 0) 67108863)) v2 (Int.fdiv ((v1.set v7.toNat (IntKind.wrap .u64 ((v1.getD v7.toNat 0) + v3))).getD v7.toNat 0) (2 ^ (Min.min (26 : Int).toNat (IntKind.bits .u64)))) v5 (IntKind.wrap .i64 (v7 + 1)))
 none)
 none)
 none)
 none)
 none)
 none)
 none)
 none)
 none)
 none)
 (lp_impl_limbs_carried_0 R L (v1.set (0 : Int).toNat (IntKind.wrap .u64 ((v1.getD (0 : Int).toNat 0) + (IntKind.wrap .u64 (5 * v3))))) v2 (IntKind.wrap .i64 (v5 + 1)))) := by kernel_rfl
theorem q_impl_limbs_plus (x0 x1 : List Int) : @Eq _ (c_impl_limbs_plus (bodyK EE R L) x0 x1) (lp_impl_limbs_plus_0 R L x0 x1 (List.replicate 5 0) 0) := by kernel_rfl
theorem q_impl_limbs_plus_0 (v2 v3 v4 : List Int) (v6 : Int) : @Eq _ (lp_impl_limbs_plus_0 R L v2 v3 v4 v6 ([1, 0, 1, 0] ++ [0])) (cond (decide (v6 < 5))
 (cond (nonneg v6)
 (cond (Nat.blt v6.toNat 5)
 (cond (nonneg v6)
 (cond (Nat.blt v6.toNat 5)
 (cond (nonneg v6)
 (cond (Nat.blt v6.toNat 5)
 (lp_impl_limbs_plus_0 R L (v2.set v6.toNat (IntKind.wrap .u64 ((v2.getD v6.toNat 0) + (v3.getD v6.toNat 0)))) v3 v4 (IntKind.wrap .i64 (v6 + 1)))
 none)
 none)
 none)
 none)
 none)
 none)
 ((c_impl_limbs_carried R v2).bind fun r0 =>
 some (r0.1, ()))) := by kernel_rfl
theorem q_impl_limbs_times (x0 x1 : List Int) : @Eq _ (c_impl_limbs_times (bodyK EE R L) x0 x1) (lp_impl_limbs_times_0 R L x1 (List.replicate 5 0) (List.replicate 5 0) x0 0) := by kernel_rfl
theorem q_impl_limbs_times_0 (v3 v4 v5 v10 : List Int) (v11 : Int) : @Eq _ (lp_impl_limbs_times_0 R L v3 v4 v5 v10 v11 ([1, 1, 0, 1, 0] ++ [0])) (cond (decide (v11 < 5))
 (cond (nonneg v11)
 (cond (Nat.blt v11.toNat 5)
 (lp_impl_limbs_times_1 R L v3 v4 v5 v11 (v10.getD v11.toNat 0) v10 v11 v3 0)
 none)
 none)
 ((c_impl_limbs_carried R v5).bind fun r0 =>
 some (r0.1, ()))) := by kernel_rfl
theorem q_impl_limbs_times_1 (v3 v4 v5 : List Int) (v6 v7 : Int) (v10 : List Int) (v11 : Int) (v15 : List Int) (v16 : Int) : @Eq _ (lp_impl_limbs_times_1 R L v3 v4 v5 v6 v7 v10 v11 v15 v16 ([1, 1, 0, 1, 0, 0, 1, 1, 0, 0, 1, 1, 0] ++ [0])) (cond (decide (v16 < 5))
 (cond (nonneg v16)
 (cond (Nat.blt v16.toNat 5)
 (cond (decide ((IntKind.wrap .i64 (v6 + v16)) < 5))
 (cond (nonneg (IntKind.wrap .i64 (v6 + v16)))
 (cond (Nat.blt (IntKind.wrap .i64 (v6 + v16)).toNat 5)
 (cond (nonneg (IntKind.wrap .i64 (v6 + v16)))
 (cond (Nat.blt (IntKind.wrap .i64 (v6 + v16)).toNat 5)
 (lp_impl_limbs_times_1 R L v3 v4 (v5.set (IntKind.wrap .i64 (v6 + v16)).toNat (IntKind.wrap .u64 ((v5.getD (IntKind.wrap .i64 (v6 + v16)).toNat 0) + (IntKind.wrap .u64 (v7 * (v15.getD v16.toNat 0)))))) v6 v7 v10 v11 v15 (IntKind.wrap .i64 (v16 + 1)))
 none)
 none)
 none)
 none)
 (cond (nonneg (IntKind.wrap .i64 ((IntKind.wrap .i64 (v6 + v16)) - 5)))
 (cond (Nat.blt (IntKind.wrap .i64 ((IntKind.wrap .i64 (v6 + v16)) - 5)).toNat 5)
 (cond (nonneg (IntKind.wrap .i64 ((IntKind.wrap .i64 (v6 + v16)) - 5)))
 (cond (Nat.blt (IntKind.wrap .i64 ((IntKind.wrap .i64 (v6 + v16)) - 5)).toNat 5)
 (lp_impl_limbs_times_1 R L v3 v4 (v5.set (IntKind.wrap .i64 ((IntKind.wrap .i64 (v6 + v16)) - 5)).toNat (IntKind.wrap .u64 ((v5.getD (IntKind.wrap .i64 ((IntKind.wrap .i64 (v6 + v16)) - 5)).toNat 0) + (IntKind.wrap .u64 ((IntKind.wrap .u64 (5 * v7)) * (v15.getD v16.toNat 0)))))) v6 v7 v10 v11 v15 (IntKind.wrap .i64 (v16 + 1)))
 none)
 none)
 none)
 none))
 none)
 none)
 (lp_impl_limbs_times_0 R L v3 v4 v5 v10 (IntKind.wrap .i64 (v11 + 1)))) := by kernel_rfl
theorem q_impl_limbs_reduced (x0 : List Int) : @Eq _ (c_impl_limbs_reduced (bodyK EE R L) x0) ((c_impl_limbs_carried R x0).bind fun r0 =>
 lp_impl_limbs_reduced_0 R L r0.1 (List.replicate 5 0) [67108859, 67108863, 67108863, 67108863, 67108863] 4) := by kernel_rfl
theorem q_impl_limbs_reduced_0 (v1 v2 v3 : List Int) (v4 : Int) : @Eq _ (lp_impl_limbs_reduced_0 R L v1 v2 v3 v4 ([1, 1, 1, 0, 1, 0] ++ [0])) (cond (decide (0 ≤ v4))
 (cond (nonneg v4)
 (cond (Nat.blt v4.toNat 5)
 (cond (nonneg v4)
 (cond (Nat.blt v4.toNat 5)
 (cond (!(eqI (v1.getD v4.toNat 0) (v3.getD v4.toNat 0)))
 (cond (nonneg v4)
 (cond (Nat.blt v4.toNat 5)
 (cond (nonneg v4)
 (cond (Nat.blt v4.toNat 5)
 (cond (decide ((v1.getD v4.toNat 0) < (v3.getD v4.toNat 0)))
 (some (v1, ()))
 (lp_impl_limbs_reduced_1 R L v1 v2 v3 0))
 none)
 none)
 none)
 none)
 (lp_impl_limbs_reduced_0 R L v1 v2 v3 (IntKind.wrap .i64 (v4 - 1))))
 none)
 none)
 none)
 none)
 (lp_impl_limbs_reduced_1 R L v1 v2 v3 0)) := by kernel_rfl
theorem q_impl_limbs_reduced_1 (v1 v2 v3 : List Int) (v28 : Int) : @Eq _ (lp_impl_limbs_reduced_1 R L v1 v2 v3 v28 ([1, 1, 1, 1, 0, 1, 0] ++ [0])) (cond (decide (v28 < 5))
 (cond (nonneg v28)
 (cond (Nat.blt v28.toNat 5)
 (cond (nonneg v28)
 (cond (Nat.blt v28.toNat 5)
 (cond (nonneg v28)
 (cond (Nat.blt v28.toNat 5)
 (lp_impl_limbs_reduced_1 R L (v1.set v28.toNat (IntKind.wrap .u64 ((v1.getD v28.toNat 0) - (v3.getD v28.toNat 0)))) v2 v3 (IntKind.wrap .i64 (v28 + 1)))
 none)
 none)
 none)
 none)
 none)
 none)
 (some (v1, ()))) := by kernel_rfl
theorem q_impl_limbs_bytes (x0 : List Int) (x1 : List UInt8) : @Eq _ (c_impl_limbs_bytes (bodyK EE R L) x0 x1) (lp_impl_limbs_bytes_0 R L x1 x0 (List.replicate (16 : Int).toNat 0) 0 ((List.replicate (16 : Int).toNat (0 : Int)).length : Int) 0) := by kernel_rfl
theorem q_impl_limbs_bytes_0 (v1 : List UInt8) (v2 v5 : List Int) (v6 v13 v14 : Int) : @Eq _ (lp_impl_limbs_bytes_0 R L v1 v2 v5 v6 v13 v14 ([1, 1, 1, 0, 1, 0] ++ [0])) (cond (decide (v14 < v13))
 (lp_impl_limbs_bytes_1 R L v1 v2 v5 v6 v14 0 v13 v14 0)
 (some (List.map (fun (n : Int) => UInt8.ofNat n.toNat) v5, ()))) := by kernel_rfl
theorem q_impl_limbs_bytes_1 (v1 : List UInt8) (v2 v5 : List Int) (v6 v7 v8 v13 v14 v17 : Int) : @Eq _ (lp_impl_limbs_bytes_1 R L v1 v2 v5 v6 v7 v8 v13 v14 v17 ([1, 1, 1, 0, 1, 0, 0, 1, 1, 0, 0, 1, 1, 0, 1, 0] ++ [0])) (cond (decide (v17 < 8))
 (cond (nonneg (IntKind.wrap .i64 (Int.tdiv (IntKind.wrap .i64 ((IntKind.wrap .i64 (8 * v7)) + v17)) 26)))
 (cond (Nat.blt (IntKind.wrap .i64 (Int.tdiv (IntKind.wrap .i64 ((IntKind.wrap .i64 (8 * v7)) + v17)) 26)).toNat 5)
 (cond (decide ((Int.tmod (IntKind.wrap .i64 ((IntKind.wrap .i64 (8 * v7)) + v17)) 26) < 0))
 none
 (cond (decide (v17 < 0))
 none
 (lp_impl_limbs_bytes_1 R L v1 v2 v5 v6 v7 (bitI .or .i64 v8 (IntKind.wrap .i64 ((IntKind.wrap .i64 (bitI .and .u64 (Int.fdiv (v2.getD (IntKind.wrap .i64 (Int.tdiv (IntKind.wrap .i64 ((IntKind.wrap .i64 (8 * v7)) + v17)) 26)).toNat 0) (2 ^ (Min.min (Int.tmod (IntKind.wrap .i64 ((IntKind.wrap .i64 (8 * v7)) + v17)) 26).toNat (IntKind.bits .u64)))) 1)) * (2 ^ (Min.min v17.toNat (IntKind.bits .i64)))))) v13 v14 (IntKind.wrap .i64 (v17 + 1)))))
 none)
 none)
 (cond (nonneg v7)
 (cond (Nat.blt v7.toNat v1.length)
 (cond (nonneg v7)
 (cond (Nat.blt v7.toNat v5.length)
 (lp_impl_limbs_bytes_0 R L v1 v2 (v5.set v7.toNat (IntKind.wrap .u8 (IntKind.wrap .i64 (v6 + (IntKind.wrap .i64 (v8 + (IntKind.wrap .i64 (UInt8.toNat (v1.getD v7.toNat 0) : Int)))))))) (Int.fdiv (IntKind.wrap .i64 (v6 + (IntKind.wrap .i64 (v8 + (IntKind.wrap .i64 (UInt8.toNat (v1.getD v7.toNat 0) : Int)))))) (2 ^ (Min.min (8 : Int).toNat (IntKind.bits .i64)))) v13 (IntKind.wrap .i64 (v14 + 1)))
 none)
 none)
 none)
 none)) := by kernel_rfl
theorem q_impl_tag (x0 x1 : List UInt8) : @Eq _ (c_impl_tag (bodyK EE R L) x0 x1) ((c_impl_clamped R x0).bind fun r0 =>
 (c_impl_limbsOf R r0.1).bind fun r1 =>
 lp_impl_tag_0 R L x0 x1 (List.replicate 5 0) r1.1 0) := by kernel_rfl
theorem q_impl_tag_0 (v0 v1 : List UInt8) (v5 v6 : List Int) (v7 : Int) : @Eq _ (lp_impl_tag_0 R L v0 v1 v5 v6 v7 ([1, 1, 1, 0, 1, 0] ++ [0])) (cond (decide (v7 < (v1.length : Int)))
 (cond (nonneg (minI (IntKind.wrap .i64 (v7 + 16)) (v1.length : Int)))
 (cond (nonneg v7)
 (cond (Nat.ble (minI (IntKind.wrap .i64 (v7 + 16)) (v1.length : Int)).toNat v1.length)
 (cond (Nat.ble v7.toNat (minI (IntKind.wrap .i64 (v7 + 16)) (v1.length : Int)).toNat)
 (cond (lenOK ((List.drop v7.toNat (List.take (minI (IntKind.wrap .i64 (v7 + 16)) (v1.length : Int)).toNat v1)).length + ([(1 : UInt8)]).length))
 ((c_impl_limbsOf R ((List.drop v7.toNat (List.take (minI (IntKind.wrap .i64 (v7 + 16)) (v1.length : Int)).toNat v1)) ++ [1])).bind fun r0 =>
 (c_impl_limbs_plus R v5 r0.1).bind fun r1 =>
 (c_impl_limbs_times R r1.1 v6).bind fun r2 =>
 lp_impl_tag_0 R L v0 v1 r2.1 v6 (IntKind.wrap .i64 (v7 + 16)))
 none)
 none)
 none)
 none)
 none)
 ((c_impl_limbs_reduced R v5).bind fun r0 =>
 cond (Nat.ble v0.length v0.length)
 (cond (Nat.ble (16 : Int).toNat v0.length)
 ((c_impl_limbs_bytes R r0.1 (List.drop (16 : Int).toNat (List.take v0.length v0))).bind fun r1 =>
 some (r1.1, ()))
 none)
 none)) := by kernel_rfl
theorem q_impl_boxTag (x0 x1 x2 x3 : List UInt8) : @Eq _ (c_impl_boxTag (bodyK EE R L) x0 x1 x2 x3) ((c_impl_stream R x0 x1 0).bind fun r0 =>
 cond (Nat.ble (32 : Int).toNat r0.1.length)
 ((c_impl_padded R x2).bind fun r1 =>
 (c_impl_padded R x3).bind fun r2 =>
 cond (lenOK (r1.1.length + r2.1.length))
 ((c_impl_little R (x2.length : Int) 8).bind fun r3 =>
 cond (lenOK ((r1.1 ++ r2.1).length + r3.1.length))
 ((c_impl_little R (x3.length : Int) 8).bind fun r4 =>
 cond (lenOK (((r1.1 ++ r2.1) ++ r3.1).length + r4.1.length))
 ((c_impl_tag R (List.drop 0 (List.take (32 : Int).toNat r0.1)) (((r1.1 ++ r2.1) ++ r3.1) ++ r4.1)).bind fun r5 =>
 some (r5.1, ()))
 none)
 none)
 none)
 none) := by kernel_rfl
theorem q_impl_seal (x0 x1 x2 x3 : List UInt8) : @Eq _ (c_impl_seal (bodyK EE R L) x0 x1 x2 x3) ((c_impl_chaXor R x0 x1 1 x3).bind fun r0 =>
 (c_impl_boxTag R x0 x1 x2 r0.1).bind fun r1 =>
 cond (lenOK (r0.1.length + r1.1.length))
 (some (r0.1 ++ r1.1, ()))
 none) := by kernel_rfl
theorem q_impl_sealed (x0 : List UInt8) (x1 x2 x3 : Int) (x4 : List UInt8) : @Eq _ (c_impl_sealed (bodyK EE R L) x0 x1 x2 x3 x4) ((c_impl_nonceOf R x1 x2 x3).bind fun r0 =>
 (c_impl_seal R x0 r0.1 [98, 108, 111, 99, 107] x4).bind fun r1 =>
 some (r1.1, ())) := by kernel_rfl
theorem q_impl_sideSectors (x0 : List UInt8) (x1 : Int) (x2 : d77) (x3 : List d69) (x4 : Int) : @Eq _ (c_impl_sideSectors (bodyK EE R L) x0 x1 x2 x3 x4) ((c_impl_stateText R x2 x3).bind fun r0 =>
 (c_impl_sealed R x0 1 (IntKind.wrap .i64 (16 * x1)) x4 r0.1).bind fun r1 =>
 lp_impl_sideSectors_0 R L x0 x4 (IntKind.wrap .i64 (16 * x1)) [r1.1] x2.2.1.2.2.1 (x2.2.1.2.2.1.length : Int) 0) := by kernel_rfl
theorem q_impl_sideSectors_0 (v0 : List UInt8) (v4 v11 : Int) (v12 : List (List UInt8)) (v27 : List (List d67)) (v28 v29 : Int) : @Eq _ (lp_impl_sideSectors_0 R L v0 v4 v11 v12 v27 v28 v29 ([1, 1, 1, 0, 1, 0] ++ [0])) (cond (decide (v29 < v28))
 (cond (nonneg v29)
 (cond (Nat.blt v29.toNat v27.length)
 ((c_impl_bucketText R (v27.getD v29.toNat [])).bind fun r0 =>
 (c_impl_sealed R v0 2 (IntKind.wrap .i64 ((IntKind.wrap .i64 (v11 + 1)) + v29)) v4 r0.1).bind fun r1 =>
 cond (lenOK (v12.length + ([r1.1]).length))
 (lp_impl_sideSectors_0 R L v0 v4 v11 (v12 ++ [r1.1]) v27 v28 (IntKind.wrap .i64 (v29 + 1)))
 none)
 none)
 none)
 (some (v12, ()))) := by kernel_rfl
theorem q_impl_firstTip : @Eq _ (c_impl_firstTip (bodyK EE R L)) ((c_impl_digest R [98, 101, 103, 105, 110]).bind fun r0 =>
 some (r0.1, ())) := by kernel_rfl
theorem q_impl_leafDigest (x0 : Int) (x1 : List UInt8) : @Eq _ (c_impl_leafDigest (bodyK EE R L) x0 x1) (cond (lenOK ((List.map (fun (n : Int) => UInt8.ofNat n.toNat) [(0 : Int), IntKind.wrap .u8 x0]).length + x1.length))
 ((c_impl_digest R ((List.map (fun (n : Int) => UInt8.ofNat n.toNat) [(0 : Int), IntKind.wrap .u8 x0]) ++ x1)).bind fun r0 =>
 some (r0.1, ()))
 none) := by kernel_rfl
theorem q_impl_join (x0 x1 : List UInt8) : @Eq _ (c_impl_join (bodyK EE R L) x0 x1) (cond (lenOK (([(1 : UInt8)]).length + x0.length))
 (cond (lenOK (([(1 : UInt8)] ++ x0).length + x1.length))
 ((c_impl_digest R (([1] ++ x0) ++ x1)).bind fun r0 =>
 some (r0.1, ()))
 none)
 none) := by kernel_rfl
theorem q_impl_tree (x0 : List (List UInt8)) : @Eq _ (c_impl_tree (bodyK EE R L) x0) (lp_impl_tree_0 R L [] x0 (x0.length : Int) 0) := by kernel_rfl
theorem q_impl_tree_0 (v3 v9 : List (List UInt8)) (v10 v11 : Int) : @Eq _ (lp_impl_tree_0 R L v3 v9 v10 v11 ([1, 1, 0, 1, 0] ++ [0])) (cond (decide (v11 < v10))
 (cond (nonneg v11)
 (cond (Nat.blt v11.toNat v9.length)
 ((c_impl_leafDigest R v11 (v9.getD v11.toNat [])).bind fun r0 =>
 cond (lenOK (v3.length + ([r0.1]).length))
 (lp_impl_tree_0 R L (v3 ++ [r0.1]) v9 v10 (IntKind.wrap .i64 (v11 + 1)))
 none)
 none)
 none)
 (lp_impl_tree_1 R L v3 [v3])) := by kernel_rfl
theorem q_impl_tree_1 (v3 : List (List UInt8)) (v6 : List (List (List UInt8))) : @Eq _ (lp_impl_tree_1 R L v3 v6 ([1, 1, 1, 1, 0, 0] ++ [0])) (cond (decide (1 < (v3.length : Int)))
 (lp_impl_tree_2 R L v3 v6 [] 0)
 (some (v6, ()))) := by kernel_rfl
theorem q_impl_tree_2 (v3 : List (List UInt8)) (v6 : List (List (List UInt8))) (v7 : List (List UInt8)) (v8 : Int) : @Eq _ (lp_impl_tree_2 R L v3 v6 v7 v8 ([1, 1, 1, 1, 0, 0, 0, 1, 0, 1, 0, 1, 0] ++ [0])) (cond (decide (v8 < (v3.length : Int)))
 (cond (nonneg v8)
 (cond (Nat.blt v8.toNat v3.length)
 (cond (nonneg (IntKind.wrap .i64 (v8 + 1)))
 (cond (Nat.blt (IntKind.wrap .i64 (v8 + 1)).toNat v3.length)
 ((c_impl_join R (v3.getD v8.toNat []) (v3.getD (IntKind.wrap .i64 (v8 + 1)).toNat [])).bind fun r0 =>
 cond (lenOK (v7.length + ([r0.1]).length))
 (lp_impl_tree_2 R L v3 v6 (v7 ++ [r0.1]) (IntKind.wrap .i64 (v8 + 2)))
 none)
 none)
 none)
 none)
 none)
 (cond (lenOK (v6.length + ([v7]).length))
 (lp_impl_tree_1 R L v7 (v6 ++ [v7]))
 none)) := by kernel_rfl
theorem q_impl_root (x0 : List (List UInt8)) : @Eq _ (c_impl_root (bodyK EE R L) x0) ((c_impl_tree R x0).bind fun r0 =>
 cond (Nat.blt (4 : Int).toNat r0.1.length)
 (cond (Nat.blt (0 : Int).toNat (r0.1.getD (4 : Int).toNat []).length)
 (some ((r0.1.getD (4 : Int).toNat []).getD (0 : Int).toNat [], ()))
 none)
 none) := by kernel_rfl
theorem q_impl_Init (x0 : List UInt8) (x1 : List Int) : @Eq _ (c_impl_Init (bodyK EE R L) x0 x1) ((c_impl_areShort R [x0]).bind fun r0 =>
 cond (!r0.1)
 (some (([], ((0, (0, (0, (0, ([], ([], ([], ()))))))), (([], ([], ())), (false, (false, ()))))), (2, ())))
 (cond (decide (4096 < (x1.length : Int)))
 (some (([], ((0, (0, (0, (0, ([], ([], ([], ()))))))), (([], ([], ())), (false, (false, ()))))), (2, ())))
 (cond (!(eqI (x0.length : Int) 32))
 (some (([], ((0, (0, (0, (0, ([], ([], ([], ()))))))), (([], ([], ())), (false, (false, ()))))), (8, ())))
 ((c_impl_NewEnc R x1).bind fun r1 =>
 cond (!(eqI r1.2.1 0))
 (some (([], ((0, (0, (0, (0, ([], ([], ([], ()))))))), (([], ([], ())), (false, (false, ()))))), (r1.2.1, ())))
 ((c_impl_NewDevice R).bind fun r2 =>
 (c_impl_sideSectors R x0 0 r1.1 [] 0).bind fun r3 =>
 cond (Nat.ble r3.1.length r2.1.1.length)
 ((c_impl_firstTip R).bind fun r4 =>
 (c_impl_firstTip R).bind fun r5 =>
 (c_impl_root R r3.1).bind fun r6 =>
 some ((x0, ((0, (0, (0, (0, (r4.1, (r5.1, (r6.1, ()))))))), ((r3.1 ++ (List.drop r3.1.length r2.1.1), r2.1.2), (true, (false, ()))))), (0, ())))
 none))))) := by kernel_rfl
theorem q_slices_Clone___string_string_ (x0 : List (List UInt8)) : @Eq _ (c_slices_Clone___string_string_ (bodyK EE R L) x0) (cond (Nat.beq x0.length 0)
 (agree
 (some ([], ()))
 (cond (lenOK (([] : List (List UInt8)).length + x0.length))
 (some ([] ++ x0, ()))
 none))
 (cond (lenOK (([] : List (List UInt8)).length + x0.length))
 (some ([] ++ x0, ()))
 none)) := by kernel_rfl
theorem q_slices_Clone___impl_Io_impl_Io_ (x0 : List d63) : @Eq _ (c_slices_Clone___impl_Io_impl_Io_ (bodyK EE R L) x0) (cond (Nat.beq x0.length 0)
 (agree
 (some ([], ()))
 (cond (lenOK (([] : List d63).length + x0.length))
 (some ([] ++ x0, ()))
 none))
 (cond (lenOK (([] : List d63).length + x0.length))
 (some ([] ++ x0, ()))
 none)) := by kernel_rfl
theorem q_impl_Device_own (x0 : d64) : @Eq _ (c_impl_Device_own (bodyK EE R L) x0) ((c_slices_Clone___string_string_ R x0.1).bind fun r0 =>
 (c_slices_Clone___impl_Io_impl_Io_ R x0.2.1).bind fun r1 =>
 some ((r0.1, (r1.1, ())), ())) := by kernel_rfl
theorem q_laws_eqRegister (x0 x1 : d62) : @Eq _ (c_laws_eqRegister (bodyK EE R L) x0 x1) (cond (!(eqI x0.1 x1.1))
 (some (false, ()))
 (cond (!(eqI x0.2.1 x1.2.1))
 (some (false, ()))
 (cond (!(eqI x0.2.2.1 x1.2.2.1))
 (some (false, ()))
 (cond (!(eqI x0.2.2.2.1 x1.2.2.2.1))
 (some (false, ()))
 (cond (!(eqS x0.2.2.2.2.1 x1.2.2.2.2.1))
 (some (false, ()))
 (cond (!(eqS x0.2.2.2.2.2.1 x1.2.2.2.2.2.1))
 (some (false, ()))
 (cond (!(eqS x0.2.2.2.2.2.2.1 x1.2.2.2.2.2.2.1))
 (some (false, ()))
 (some (true, ()))))))))) := by kernel_rfl
theorem q_laws_eqStringS (x0 x1 : List (List UInt8)) : @Eq _ (c_laws_eqStringS (bodyK EE R L) x0 x1) (cond (!(eqI (x0.length : Int) (x1.length : Int)))
 (some (false, ()))
 (lp_laws_eqStringS_0 R L x0 x1 false 0)) := by kernel_rfl
theorem q_laws_eqStringS_0 (v0 v1 : List (List UInt8)) (v4 : Bool) (v5 : Int) : @Eq _ (lp_laws_eqStringS_0 R L v0 v1 v4 v5 ([1, 1, 0, 1, 0] ++ [0])) (cond (decide (v5 < (v0.length : Int)))
 (cond (nonneg v5)
 (cond (Nat.blt v5.toNat v0.length)
 (cond (nonneg v5)
 (cond (Nat.blt v5.toNat v1.length)
 (cond (!(eqS (v0.getD v5.toNat []) (v1.getD v5.toNat [])))
 (some (false, ()))
 (lp_laws_eqStringS_0 R L v0 v1 v4 (IntKind.wrap .i64 (v5 + 1))))
 none)
 none)
 none)
 none)
 (some (true, ()))) := by kernel_rfl
theorem q_laws_eqIo (x0 x1 : d63) : @Eq _ (c_laws_eqIo (bodyK EE R L) x0 x1) (cond (!(eqI x0.1 x1.1))
 (some (false, ()))
 (cond (!(eqS x0.2.1 x1.2.1))
 (some (false, ()))
 (some (true, ())))) := by kernel_rfl
theorem q_laws_eqIoS (x0 x1 : List d63) : @Eq _ (c_laws_eqIoS (bodyK EE R L) x0 x1) (cond (!(eqI (x0.length : Int) (x1.length : Int)))
 (some (false, ()))
 (lp_laws_eqIoS_0 R L x0 x1 false 0)) := by kernel_rfl
theorem q_laws_eqIoS_0 (v0 v1 : List d63) (v4 : Bool) (v5 : Int) : @Eq _ (lp_laws_eqIoS_0 R L v0 v1 v4 v5 ([1, 1, 0, 1, 0] ++ [0])) (cond (decide (v5 < (v0.length : Int)))
 (cond (nonneg v5)
 (cond (Nat.blt v5.toNat v0.length)
 (cond (nonneg v5)
 (cond (Nat.blt v5.toNat v1.length)
 ((c_laws_eqIo R (v0.getD v5.toNat (0, ([], ()))) (v1.getD v5.toNat (0, ([], ())))).bind fun r0 =>
 cond (!r0.1)
 (some (false, ()))
 (lp_laws_eqIoS_0 R L v0 v1 v4 (IntKind.wrap .i64 (v5 + 1))))
 none)
 none)
 none)
 none)
 (some (true, ()))) := by kernel_rfl
theorem q_laws_eqDevice (x0 x1 : d64) : @Eq _ (c_laws_eqDevice (bodyK EE R L) x0 x1) ((c_laws_eqStringS R x0.1 x1.1).bind fun r0 =>
 cond (!r0.1)
 (some (false, ()))
 ((c_laws_eqIoS R x0.2.1 x1.2.1).bind fun r1 =>
 cond (!r1.1)
 (some (false, ()))
 (some (true, ())))) := by kernel_rfl
theorem q_laws_eqStore (x0 x1 : d65) : @Eq _ (c_laws_eqStore (bodyK EE R L) x0 x1) (cond (!(eqS x0.1 x1.1))
 (some (false, ()))
 ((c_laws_eqRegister R x0.2.1 x1.2.1).bind fun r0 =>
 cond (!r0.1)
 (some (false, ()))
 ((c_laws_eqDevice R x0.2.2.1 x1.2.2.1).bind fun r1 =>
 cond (!r1.1)
 (some (false, ()))
 (cond (!(eqB x0.2.2.2.1 x1.2.2.2.1))
 (some (false, ()))
 (cond (!(eqB x0.2.2.2.2.1 x1.2.2.2.2.1))
 (some (false, ()))
 (some (true, ()))))))) := by kernel_rfl
theorem q_laws_eqEntry (x0 x1 : d66) : @Eq _ (c_laws_eqEntry (bodyK EE R L) x0 x1) (cond (!(eqI x0.1 x1.1))
 (some (false, ()))
 (cond (!(eqI x0.2.1 x1.2.1))
 (some (false, ()))
 (some (true, ())))) := by kernel_rfl
theorem q_laws_eqEntryS (x0 x1 : List d66) : @Eq _ (c_laws_eqEntryS (bodyK EE R L) x0 x1) (cond (!(eqI (x0.length : Int) (x1.length : Int)))
 (some (false, ()))
 (lp_laws_eqEntryS_0 R L x0 x1 false 0)) := by kernel_rfl
theorem q_laws_eqEntryS_0 (v0 v1 : List d66) (v4 : Bool) (v5 : Int) : @Eq _ (lp_laws_eqEntryS_0 R L v0 v1 v4 v5 ([1, 1, 0, 1, 0] ++ [0])) (cond (decide (v5 < (v0.length : Int)))
 (cond (nonneg v5)
 (cond (Nat.blt v5.toNat v0.length)
 (cond (nonneg v5)
 (cond (Nat.blt v5.toNat v1.length)
 ((c_laws_eqEntry R (v0.getD v5.toNat (0, (0, ()))) (v1.getD v5.toNat (0, (0, ())))).bind fun r0 =>
 cond (!r0.1)
 (some (false, ()))
 (lp_laws_eqEntryS_0 R L v0 v1 v4 (IntKind.wrap .i64 (v5 + 1))))
 none)
 none)
 none)
 none)
 (some (true, ()))) := by kernel_rfl
theorem q_laws_eqOp (x0 x1 : d67) : @Eq _ (c_laws_eqOp (bodyK EE R L) x0 x1) (cond (!(eqI x0.1 x1.1))
 (some (false, ()))
 (cond (!(eqI x0.2.1 x1.2.1))
 (some (false, ()))
 (cond (!(eqI x0.2.2.1 x1.2.2.1))
 (some (false, ()))
 (some (true, ()))))) := by kernel_rfl
theorem q_laws_eqOpS (x0 x1 : List d67) : @Eq _ (c_laws_eqOpS (bodyK EE R L) x0 x1) (cond (!(eqI (x0.length : Int) (x1.length : Int)))
 (some (false, ()))
 (lp_laws_eqOpS_0 R L x0 x1 false 0)) := by kernel_rfl
theorem q_laws_eqOpS_0 (v0 v1 : List d67) (v4 : Bool) (v5 : Int) : @Eq _ (lp_laws_eqOpS_0 R L v0 v1 v4 v5 ([1, 1, 0, 1, 0] ++ [0])) (cond (decide (v5 < (v0.length : Int)))
 (cond (nonneg v5)
 (cond (Nat.blt v5.toNat v0.length)
 (cond (nonneg v5)
 (cond (Nat.blt v5.toNat v1.length)
 ((c_laws_eqOp R (v0.getD v5.toNat (0, (0, (0, ())))) (v1.getD v5.toNat (0, (0, (0, ()))))).bind fun r0 =>
 cond (!r0.1)
 (some (false, ()))
 (lp_laws_eqOpS_0 R L v0 v1 v4 (IntKind.wrap .i64 (v5 + 1))))
 none)
 none)
 none)
 none)
 (some (true, ()))) := by kernel_rfl
theorem q_laws_eqTxn (x0 x1 : d68) : @Eq _ (c_laws_eqTxn (bodyK EE R L) x0 x1) ((c_laws_eqOpS R x0.1 x1.1).bind fun r0 =>
 cond (!r0.1)
 (some (false, ()))
 (some (true, ()))) := by kernel_rfl
theorem q_laws_eqTxnS (x0 x1 : List d68) : @Eq _ (c_laws_eqTxnS (bodyK EE R L) x0 x1) (cond (!(eqI (x0.length : Int) (x1.length : Int)))
 (some (false, ()))
 (lp_laws_eqTxnS_0 R L x0 x1 false 0)) := by kernel_rfl
theorem q_laws_eqTxnS_0 (v0 v1 : List d68) (v4 : Bool) (v5 : Int) : @Eq _ (lp_laws_eqTxnS_0 R L v0 v1 v4 v5 ([1, 1, 0, 1, 0] ++ [0])) (cond (decide (v5 < (v0.length : Int)))
 (cond (nonneg v5)
 (cond (Nat.blt v5.toNat v0.length)
 (cond (nonneg v5)
 (cond (Nat.blt v5.toNat v1.length)
 ((c_laws_eqTxn R (v0.getD v5.toNat ([], ())) (v1.getD v5.toNat ([], ()))).bind fun r0 =>
 cond (!r0.1)
 (some (false, ()))
 (lp_laws_eqTxnS_0 R L v0 v1 v4 (IntKind.wrap .i64 (v5 + 1))))
 none)
 none)
 none)
 none)
 (some (true, ()))) := by kernel_rfl
theorem q_laws_eqTxnSS (x0 x1 : List (List d68)) : @Eq _ (c_laws_eqTxnSS (bodyK EE R L) x0 x1) (cond (!(eqI (x0.length : Int) (x1.length : Int)))
 (some (false, ()))
 (lp_laws_eqTxnSS_0 R L x0 x1 false 0)) := by kernel_rfl
theorem q_laws_eqTxnSS_0 (v0 v1 : List (List d68)) (v4 : Bool) (v5 : Int) : @Eq _ (lp_laws_eqTxnSS_0 R L v0 v1 v4 v5 ([1, 1, 0, 1, 0] ++ [0])) (cond (decide (v5 < (v0.length : Int)))
 (cond (nonneg v5)
 (cond (Nat.blt v5.toNat v0.length)
 (cond (nonneg v5)
 (cond (Nat.blt v5.toNat v1.length)
 ((c_laws_eqTxnS R (v0.getD v5.toNat []) (v1.getD v5.toNat [])).bind fun r0 =>
 cond (!r0.1)
 (some (false, ()))
 (lp_laws_eqTxnSS_0 R L v0 v1 v4 (IntKind.wrap .i64 (v5 + 1))))
 none)
 none)
 none)
 none)
 (some (true, ()))) := by kernel_rfl
theorem q_laws_eqIntS (x0 x1 : List Int) : @Eq _ (c_laws_eqIntS (bodyK EE R L) x0 x1) (cond (!(eqI (x0.length : Int) (x1.length : Int)))
 (some (false, ()))
 (lp_laws_eqIntS_0 R L x0 x1 false 0)) := by kernel_rfl
theorem q_laws_eqIntS_0 (v0 v1 : List Int) (v4 : Bool) (v5 : Int) : @Eq _ (lp_laws_eqIntS_0 R L v0 v1 v4 v5 ([1, 1, 0, 1, 0] ++ [0])) (cond (decide (v5 < (v0.length : Int)))
 (cond (nonneg v5)
 (cond (Nat.blt v5.toNat v0.length)
 (cond (nonneg v5)
 (cond (Nat.blt v5.toNat v1.length)
 (cond (!(eqI (v0.getD v5.toNat 0) (v1.getD v5.toNat 0)))
 (some (false, ()))
 (lp_laws_eqIntS_0 R L v0 v1 v4 (IntKind.wrap .i64 (v5 + 1))))
 none)
 none)
 none)
 none)
 (some (true, ()))) := by kernel_rfl
theorem q_laws_eqResult (x0 x1 : d69) : @Eq _ (c_laws_eqResult (bodyK EE R L) x0 x1) (cond (!(eqI x0.1 x1.1))
 (some (false, ()))
 ((c_laws_eqIntS R x0.2.1 x1.2.1).bind fun r0 =>
 cond (!r0.1)
 (some (false, ()))
 (some (true, ())))) := by kernel_rfl
theorem q_laws_eqResultS (x0 x1 : List d69) : @Eq _ (c_laws_eqResultS (bodyK EE R L) x0 x1) (cond (!(eqI (x0.length : Int) (x1.length : Int)))
 (some (false, ()))
 (lp_laws_eqResultS_0 R L x0 x1 false 0)) := by kernel_rfl
theorem q_laws_eqResultS_0 (v0 v1 : List d69) (v4 : Bool) (v5 : Int) : @Eq _ (lp_laws_eqResultS_0 R L v0 v1 v4 v5 ([1, 1, 0, 1, 0] ++ [0])) (cond (decide (v5 < (v0.length : Int)))
 (cond (nonneg v5)
 (cond (Nat.blt v5.toNat v0.length)
 (cond (nonneg v5)
 (cond (Nat.blt v5.toNat v1.length)
 ((c_laws_eqResult R (v0.getD v5.toNat (0, ([], ()))) (v1.getD v5.toNat (0, ([], ())))).bind fun r0 =>
 cond (!r0.1)
 (some (false, ()))
 (lp_laws_eqResultS_0 R L v0 v1 v4 (IntKind.wrap .i64 (v5 + 1))))
 none)
 none)
 none)
 none)
 (some (true, ()))) := by kernel_rfl
theorem q_laws_eqWorld (x0 x1 : d70) : @Eq _ (c_laws_eqWorld (bodyK EE R L) x0 x1) ((c_laws_eqStore R x0.1 x1.1).bind fun r0 =>
 cond (!r0.1)
 (some (false, ()))
 ((c_laws_eqDevice R x0.2.1 x1.2.1).bind fun r1 =>
 cond (!r1.1)
 (some (false, ()))
 ((c_laws_eqEntryS R x0.2.2.1 x1.2.2.1).bind fun r2 =>
 cond (!r2.1)
 (some (false, ()))
 ((c_laws_eqTxnSS R x0.2.2.2.1 x1.2.2.2.1).bind fun r3 =>
 cond (!r3.1)
 (some (false, ()))
 ((c_laws_eqResultS R x0.2.2.2.2.1 x1.2.2.2.2.1).bind fun r4 =>
 cond (!r4.1)
 (some (false, ()))
 (cond (!(eqB x0.2.2.2.2.2.1 x1.2.2.2.2.2.1))
 (some (false, ()))
 (some (true, ())))))))) := by kernel_rfl
theorem q_laws_markIntS (x0 : List Int) (x1 : Int) : @Eq _ (c_laws_markIntS (bodyK EE R L) x0 x1) (lp_laws_markIntS_0 R L x0 x1 0 0) := by kernel_rfl
theorem q_laws_markIntS_0 (v0 : List Int) (v1 v4 v5 : Int) : @Eq _ (lp_laws_markIntS_0 R L v0 v1 v4 v5 ([1, 0, 1, 0] ++ [0])) (cond (decide (v5 < (v0.length : Int)))
 (cond (nonneg v5)
 (cond (Nat.blt v5.toNat v0.length)
 (lp_laws_markIntS_0 R L (v0.set v5.toNat v1) (IntKind.wrap .i64 (v1 + 1)) v4 (IntKind.wrap .i64 (v5 + 1)))
 none)
 none)
 (some (v1, (v0, ())))) := by kernel_rfl
theorem q_laws_markText (x0 : Int) : @Eq _ (c_laws_markText (bodyK EE R L) x0) (cond (decide (x0 ≤ 0))
 (some ([109, 48], ()))
 (lp_laws_markText_0 R L x0 [] [])) := by kernel_rfl
theorem q_laws_markText_0 (v0 : Int) (v2 v3 : List UInt8) : @Eq _ (lp_laws_markText_0 R L v0 v2 v3 ([1, 1, 1, 0, 0] ++ [0])) (cond (decide (0 < v0))
 (cond (lenOK ((List.map (fun (n : Int) => UInt8.ofNat n.toNat) [IntKind.wrap .u8 (IntKind.wrap .i64 (48 + (Int.tmod v0 10)))]).length + v3.length))
 (lp_laws_markText_0 R L (IntKind.wrap .i64 (Int.tdiv v0 10)) v2 ((List.map (fun (n : Int) => UInt8.ofNat n.toNat) [IntKind.wrap .u8 (IntKind.wrap .i64 (48 + (Int.tmod v0 10)))]) ++ v3))
 none)
 (cond (lenOK (([(109 : UInt8)]).length + v3.length))
 (some ([109] ++ v3, ()))
 none)) := by kernel_rfl
theorem q_laws_markStringS (x0 : List (List UInt8)) (x1 : Int) : @Eq _ (c_laws_markStringS (bodyK EE R L) x0 x1) (lp_laws_markStringS_0 R L x0 x1 0 0) := by kernel_rfl
theorem q_laws_markStringS_0 (v0 : List (List UInt8)) (v1 v4 v5 : Int) : @Eq _ (lp_laws_markStringS_0 R L v0 v1 v4 v5 ([1, 0, 1, 0] ++ [0])) (cond (decide (v5 < (v0.length : Int)))
 ((c_laws_markText R v1).bind fun r0 =>
 cond (nonneg v5)
 (cond (Nat.blt v5.toNat v0.length)
 (lp_laws_markStringS_0 R L (v0.set v5.toNat r0.1) (IntKind.wrap .i64 (v1 + 1)) v4 (IntKind.wrap .i64 (v5 + 1)))
 none)
 none)
 (some (v1, (v0, ())))) := by kernel_rfl
theorem q_laws_markIoS (x0 : List d63) (x1 : Int) : @Eq _ (c_laws_markIoS (bodyK EE R L) x0 x1) (lp_laws_markIoS_0 R L x0 x1 0 0) := by kernel_rfl
theorem q_laws_markIoS_0 (v0 : List d63) (v1 v4 v5 : Int) : @Eq _ (lp_laws_markIoS_0 R L v0 v1 v4 v5 ([1, 0, 1, 0] ++ [0])) (cond (decide (v5 < (v0.length : Int)))
 (cond (nonneg v5)
 (cond (Nat.blt v5.toNat v0.length)
 ((c_laws_markText R (IntKind.wrap .i64 (v1 + 1))).bind fun r0 =>
 cond (nonneg v5)
 (cond (Nat.blt v5.toNat (v0.set v5.toNat (v1, (v0.getD v5.toNat (0, ([], ()))).2)).length)
 (lp_laws_markIoS_0 R L ((v0.set v5.toNat (v1, (v0.getD v5.toNat (0, ([], ()))).2)).set v5.toNat (((v0.set v5.toNat (v1, (v0.getD v5.toNat (0, ([], ()))).2)).getD v5.toNat (0, ([], ()))).1, (r0.1, ((v0.set v5.toNat (v1, (v0.getD v5.toNat (0, ([], ()))).2)).getD v5.toNat (0, ([], ()))).2.2))) (IntKind.wrap .i64 ((IntKind.wrap .i64 (v1 + 1)) + 1)) v4 (IntKind.wrap .i64 (v5 + 1)))
 none)
 none)
 none)
 none)
 (some (v1, (v0, ())))) := by kernel_rfl
theorem q_laws_markDevice (x0 : d64) (x1 : Int) : @Eq _ (c_laws_markDevice (bodyK EE R L) x0 x1) ((c_laws_markStringS R x0.1 x1).bind fun r0 =>
 (c_laws_markIoS R x0.2.1 r0.1).bind fun r1 =>
 some (r1.1, ((r0.2.1, (r1.2.1, x0.2.2)), ()))) := by kernel_rfl
theorem q_laws_markStore (x0 : d65) (x1 : Int) : @Eq _ (c_laws_markStore (bodyK EE R L) x0 x1) ((c_laws_markDevice R x0.2.2.1 x1).bind fun r0 =>
 some (r0.1, ((x0.1, (x0.2.1, (r0.2.1, x0.2.2.2))), ()))) := by kernel_rfl
theorem q_laws_markEntryS (x0 : List d66) (x1 : Int) : @Eq _ (c_laws_markEntryS (bodyK EE R L) x0 x1) (lp_laws_markEntryS_0 R L x0 x1 0 0) := by kernel_rfl
theorem q_laws_markEntryS_0 (v0 : List d66) (v1 v4 v5 : Int) : @Eq _ (lp_laws_markEntryS_0 R L v0 v1 v4 v5 ([1, 0, 1, 0] ++ [0])) (cond (decide (v5 < (v0.length : Int)))
 (cond (nonneg v5)
 (cond (Nat.blt v5.toNat v0.length)
 (cond (nonneg v5)
 (cond (Nat.blt v5.toNat (v0.set v5.toNat (v1, (v0.getD v5.toNat (0, (0, ()))).2)).length)
 (lp_laws_markEntryS_0 R L ((v0.set v5.toNat (v1, (v0.getD v5.toNat (0, (0, ()))).2)).set v5.toNat (((v0.set v5.toNat (v1, (v0.getD v5.toNat (0, (0, ()))).2)).getD v5.toNat (0, (0, ()))).1, (IntKind.wrap .i64 (v1 + 1), ((v0.set v5.toNat (v1, (v0.getD v5.toNat (0, (0, ()))).2)).getD v5.toNat (0, (0, ()))).2.2))) (IntKind.wrap .i64 ((IntKind.wrap .i64 (v1 + 1)) + 1)) v4 (IntKind.wrap .i64 (v5 + 1)))
 none)
 none)
 none)
 none)
 (some (v1, (v0, ())))) := by kernel_rfl
theorem q_laws_markOpS (x0 : List d67) (x1 : Int) : @Eq _ (c_laws_markOpS (bodyK EE R L) x0 x1) (lp_laws_markOpS_0 R L x0 x1 0 0) := by kernel_rfl
theorem q_laws_markOpS_0 (v0 : List d67) (v1 v4 v5 : Int) : @Eq _ (lp_laws_markOpS_0 R L v0 v1 v4 v5 ([1, 0, 1, 0] ++ [0])) (cond (decide (v5 < (v0.length : Int)))
 (cond (nonneg v5)
 (cond (Nat.blt v5.toNat v0.length)
 (cond (nonneg v5)
 (cond (Nat.blt v5.toNat (v0.set v5.toNat (v1, (v0.getD v5.toNat (0, (0, (0, ())))).2)).length)
 (cond (nonneg v5)
 (cond (Nat.blt v5.toNat ((v0.set v5.toNat (v1, (v0.getD v5.toNat (0, (0, (0, ())))).2)).set v5.toNat (((v0.set v5.toNat (v1, (v0.getD v5.toNat (0, (0, (0, ())))).2)).getD v5.toNat (0, (0, (0, ())))).1, (IntKind.wrap .i64 (v1 + 1), ((v0.set v5.toNat (v1, (v0.getD v5.toNat (0, (0, (0, ())))).2)).getD v5.toNat (0, (0, (0, ())))).2.2))).length)
 (lp_laws_markOpS_0 R L (((v0.set v5.toNat (v1, (v0.getD v5.toNat (0, (0, (0, ())))).2)).set v5.toNat (((v0.set v5.toNat (v1, (v0.getD v5.toNat (0, (0, (0, ())))).2)).getD v5.toNat (0, (0, (0, ())))).1, (IntKind.wrap .i64 (v1 + 1), ((v0.set v5.toNat (v1, (v0.getD v5.toNat (0, (0, (0, ())))).2)).getD v5.toNat (0, (0, (0, ())))).2.2))).set v5.toNat ((((v0.set v5.toNat (v1, (v0.getD v5.toNat (0, (0, (0, ())))).2)).set v5.toNat (((v0.set v5.toNat (v1, (v0.getD v5.toNat (0, (0, (0, ())))).2)).getD v5.toNat (0, (0, (0, ())))).1, (IntKind.wrap .i64 (v1 + 1), ((v0.set v5.toNat (v1, (v0.getD v5.toNat (0, (0, (0, ())))).2)).getD v5.toNat (0, (0, (0, ())))).2.2))).getD v5.toNat (0, (0, (0, ())))).1, ((((v0.set v5.toNat (v1, (v0.getD v5.toNat (0, (0, (0, ())))).2)).set v5.toNat (((v0.set v5.toNat (v1, (v0.getD v5.toNat (0, (0, (0, ())))).2)).getD v5.toNat (0, (0, (0, ())))).1, (IntKind.wrap .i64 (v1 + 1), ((v0.set v5.toNat (v1, (v0.getD v5.toNat (0, (0, (0, ())))).2)).getD v5.toNat (0, (0, (0, ())))).2.2))).getD v5.toNat (0, (0, (0, ())))).2.1, (IntKind.wrap .i64 ((IntKind.wrap .i64 (v1 + 1)) + 1), (((v0.set v5.toNat (v1, (v0.getD v5.toNat (0, (0, (0, ())))).2)).set v5.toNat (((v0.set v5.toNat (v1, (v0.getD v5.toNat (0, (0, (0, ())))).2)).getD v5.toNat (0, (0, (0, ())))).1, (IntKind.wrap .i64 (v1 + 1), ((v0.set v5.toNat (v1, (v0.getD v5.toNat (0, (0, (0, ())))).2)).getD v5.toNat (0, (0, (0, ())))).2.2))).getD v5.toNat (0, (0, (0, ())))).2.2.2)))) (IntKind.wrap .i64 ((IntKind.wrap .i64 ((IntKind.wrap .i64 (v1 + 1)) + 1)) + 1)) v4 (IntKind.wrap .i64 (v5 + 1)))
 none)
 none)
 none)
 none)
 none)
 none)
 (some (v1, (v0, ())))) := by kernel_rfl
theorem q_laws_markTxnS (x0 : List d68) (x1 : Int) : @Eq _ (c_laws_markTxnS (bodyK EE R L) x0 x1) (lp_laws_markTxnS_0 R L x0 x1 0 0) := by kernel_rfl
theorem q_laws_markTxnS_0 (v0 : List d68) (v1 v4 v5 : Int) : @Eq _ (lp_laws_markTxnS_0 R L v0 v1 v4 v5 ([1, 0, 1, 0] ++ [0])) (cond (decide (v5 < (v0.length : Int)))
 (cond (nonneg v5)
 (cond (Nat.blt v5.toNat v0.length)
 ((c_laws_markOpS R (v0.getD v5.toNat ([], ())).1 v1).bind fun r0 =>
 lp_laws_markTxnS_0 R L (v0.set v5.toNat (r0.2.1, (v0.getD v5.toNat ([], ())).2)) r0.1 v4 (IntKind.wrap .i64 (v5 + 1)))
 none)
 none)
 (some (v1, (v0, ())))) := by kernel_rfl
theorem q_laws_markTxnSS (x0 : List (List d68)) (x1 : Int) : @Eq _ (c_laws_markTxnSS (bodyK EE R L) x0 x1) (lp_laws_markTxnSS_0 R L x0 x1 0 0) := by kernel_rfl
theorem q_laws_markTxnSS_0 (v0 : List (List d68)) (v1 v4 v5 : Int) : @Eq _ (lp_laws_markTxnSS_0 R L v0 v1 v4 v5 ([1, 0, 1, 0] ++ [0])) (cond (decide (v5 < (v0.length : Int)))
 (cond (nonneg v5)
 (cond (Nat.blt v5.toNat v0.length)
 ((c_laws_markTxnS R (v0.getD v5.toNat []) v1).bind fun r0 =>
 lp_laws_markTxnSS_0 R L (v0.set v5.toNat r0.2.1) r0.1 v4 (IntKind.wrap .i64 (v5 + 1)))
 none)
 none)
 (some (v1, (v0, ())))) := by kernel_rfl
theorem q_laws_markResultS (x0 : List d69) (x1 : Int) : @Eq _ (c_laws_markResultS (bodyK EE R L) x0 x1) (lp_laws_markResultS_0 R L x0 x1 0 0) := by kernel_rfl
theorem q_laws_markResultS_0 (v0 : List d69) (v1 v4 v5 : Int) : @Eq _ (lp_laws_markResultS_0 R L v0 v1 v4 v5 ([1, 0, 1, 0] ++ [0])) (cond (decide (v5 < (v0.length : Int)))
 (cond (nonneg v5)
 (cond (Nat.blt v5.toNat v0.length)
 (cond (nonneg v5)
 (cond (Nat.blt v5.toNat (v0.set v5.toNat (v1, (v0.getD v5.toNat (0, ([], ()))).2)).length)
 ((c_laws_markIntS R ((v0.set v5.toNat (v1, (v0.getD v5.toNat (0, ([], ()))).2)).getD v5.toNat (0, ([], ()))).2.1 (IntKind.wrap .i64 (v1 + 1))).bind fun r0 =>
 lp_laws_markResultS_0 R L ((v0.set v5.toNat (v1, (v0.getD v5.toNat (0, ([], ()))).2)).set v5.toNat (((v0.set v5.toNat (v1, (v0.getD v5.toNat (0, ([], ()))).2)).getD v5.toNat (0, ([], ()))).1, (r0.2.1, ((v0.set v5.toNat (v1, (v0.getD v5.toNat (0, ([], ()))).2)).getD v5.toNat (0, ([], ()))).2.2))) r0.1 v4 (IntKind.wrap .i64 (v5 + 1)))
 none)
 none)
 none)
 none)
 (some (v1, (v0, ())))) := by kernel_rfl
theorem q_laws_markWorld (x0 : d70) (x1 : Int) : @Eq _ (c_laws_markWorld (bodyK EE R L) x0 x1) ((c_laws_markStore R x0.1 x1).bind fun r0 =>
 (c_laws_markDevice R x0.2.1 r0.1).bind fun r1 =>
 (c_laws_markEntryS R x0.2.2.1 r1.1).bind fun r2 =>
 (c_laws_markTxnSS R x0.2.2.2.1 r2.1).bind fun r3 =>
 (c_laws_markResultS R x0.2.2.2.2.1 r3.1).bind fun r4 =>
 some (r4.1, ((r0.2.1, (r1.2.1, (r2.2.1, (r3.2.1, (r4.2.1, x0.2.2.2.2.2))))), ()))) := by kernel_rfl
theorem q_laws_heldStringS (x0 : List (List UInt8)) (x1 : Int) : @Eq _ (c_laws_heldStringS (bodyK EE R L) x0 x1) (lp_laws_heldStringS_0 R L x0 x1 0 0) := by kernel_rfl
theorem q_laws_heldStringS_0 (v0 : List (List UInt8)) (v1 v4 v5 : Int) : @Eq _ (lp_laws_heldStringS_0 R L v0 v1 v4 v5 ([1, 0, 1, 0] ++ [0])) (cond (decide (v5 < (v0.length : Int)))
 (cond (nonneg v5)
 (cond (Nat.blt v5.toNat v0.length)
 ((c_laws_markText R v1).bind fun r0 =>
 cond (!(eqS (v0.getD v5.toNat []) r0.1))
 (some (-1, ()))
 (lp_laws_heldStringS_0 R L v0 (IntKind.wrap .i64 (v1 + 1)) v4 (IntKind.wrap .i64 (v5 + 1))))
 none)
 none)
 (some (v1, ()))) := by kernel_rfl
theorem q_laws_heldIoS (x0 : List d63) (x1 : Int) : @Eq _ (c_laws_heldIoS (bodyK EE R L) x0 x1) (lp_laws_heldIoS_0 R L x0 x1 0 0) := by kernel_rfl
theorem q_laws_heldIoS_0 (v0 : List d63) (v1 v4 v5 : Int) : @Eq _ (lp_laws_heldIoS_0 R L v0 v1 v4 v5 ([1, 0, 1, 0] ++ [0])) (cond (decide (v5 < (v0.length : Int)))
 (cond (nonneg v5)
 (cond (Nat.blt v5.toNat v0.length)
 (cond (!(eqI (v0.getD v5.toNat (0, ([], ()))).1 v1))
 (some (-1, ()))
 (cond (nonneg v5)
 (cond (Nat.blt v5.toNat v0.length)
 ((c_laws_markText R (IntKind.wrap .i64 (v1 + 1))).bind fun r0 =>
 cond (!(eqS (v0.getD v5.toNat (0, ([], ()))).2.1 r0.1))
 (some (-1, ()))
 (lp_laws_heldIoS_0 R L v0 (IntKind.wrap .i64 ((IntKind.wrap .i64 (v1 + 1)) + 1)) v4 (IntKind.wrap .i64 (v5 + 1))))
 none)
 none))
 none)
 none)
 (some (v1, ()))) := by kernel_rfl
theorem q_laws_heldDevice (x0 : d64) (x1 : Int) : @Eq _ (c_laws_heldDevice (bodyK EE R L) x0 x1) ((c_laws_heldStringS R x0.1 x1).bind fun r0 =>
 cond (decide (r0.1 < 0))
 (some (-1, ()))
 ((c_laws_heldIoS R x0.2.1 r0.1).bind fun r1 =>
 cond (decide (r1.1 < 0))
 (some (-1, ()))
 (some (r1.1, ())))) := by kernel_rfl
theorem q_laws_heldStore (x0 : d65) (x1 : Int) : @Eq _ (c_laws_heldStore (bodyK EE R L) x0 x1) ((c_laws_heldDevice R x0.2.2.1 x1).bind fun r0 =>
 cond (decide (r0.1 < 0))
 (some (-1, ()))
 (some (r0.1, ()))) := by kernel_rfl
theorem q_laws_heldEntryS (x0 : List d66) (x1 : Int) : @Eq _ (c_laws_heldEntryS (bodyK EE R L) x0 x1) (lp_laws_heldEntryS_0 R L x0 x1 0 0) := by kernel_rfl
theorem q_laws_heldEntryS_0 (v0 : List d66) (v1 v4 v5 : Int) : @Eq _ (lp_laws_heldEntryS_0 R L v0 v1 v4 v5 ([1, 0, 1, 0] ++ [0])) (cond (decide (v5 < (v0.length : Int)))
 (cond (nonneg v5)
 (cond (Nat.blt v5.toNat v0.length)
 (cond (!(eqI (v0.getD v5.toNat (0, (0, ()))).1 v1))
 (some (-1, ()))
 (cond (nonneg v5)
 (cond (Nat.blt v5.toNat v0.length)
 (cond (!(eqI (v0.getD v5.toNat (0, (0, ()))).2.1 (IntKind.wrap .i64 (v1 + 1))))
 (some (-1, ()))
 (lp_laws_heldEntryS_0 R L v0 (IntKind.wrap .i64 ((IntKind.wrap .i64 (v1 + 1)) + 1)) v4 (IntKind.wrap .i64 (v5 + 1))))
 none)
 none))
 none)
 none)
 (some (v1, ()))) := by kernel_rfl
theorem q_laws_heldOpS (x0 : List d67) (x1 : Int) : @Eq _ (c_laws_heldOpS (bodyK EE R L) x0 x1) (lp_laws_heldOpS_0 R L x0 x1 0 0) := by kernel_rfl
theorem q_laws_heldOpS_0 (v0 : List d67) (v1 v4 v5 : Int) : @Eq _ (lp_laws_heldOpS_0 R L v0 v1 v4 v5 ([1, 0, 1, 0] ++ [0])) (cond (decide (v5 < (v0.length : Int)))
 (cond (nonneg v5)
 (cond (Nat.blt v5.toNat v0.length)
 (cond (!(eqI (v0.getD v5.toNat (0, (0, (0, ())))).1 v1))
 (some (-1, ()))
 (cond (nonneg v5)
 (cond (Nat.blt v5.toNat v0.length)
 (cond (!(eqI (v0.getD v5.toNat (0, (0, (0, ())))).2.1 (IntKind.wrap .i64 (v1 + 1))))
 (some (-1, ()))
 (cond (nonneg v5)
 (cond (Nat.blt v5.toNat v0.length)
 (cond (!(eqI (v0.getD v5.toNat (0, (0, (0, ())))).2.2.1 (IntKind.wrap .i64 ((IntKind.wrap .i64 (v1 + 1)) + 1))))
 (some (-1, ()))
 (lp_laws_heldOpS_0 R L v0 (IntKind.wrap .i64 ((IntKind.wrap .i64 ((IntKind.wrap .i64 (v1 + 1)) + 1)) + 1)) v4 (IntKind.wrap .i64 (v5 + 1))))
 none)
 none))
 none)
 none))
 none)
 none)
 (some (v1, ()))) := by kernel_rfl
theorem q_laws_heldTxnS (x0 : List d68) (x1 : Int) : @Eq _ (c_laws_heldTxnS (bodyK EE R L) x0 x1) (lp_laws_heldTxnS_0 R L x0 x1 0 0) := by kernel_rfl
theorem q_laws_heldTxnS_0 (v0 : List d68) (v1 v4 v5 : Int) : @Eq _ (lp_laws_heldTxnS_0 R L v0 v1 v4 v5 ([1, 0, 1, 0] ++ [0])) (cond (decide (v5 < (v0.length : Int)))
 (cond (nonneg v5)
 (cond (Nat.blt v5.toNat v0.length)
 ((c_laws_heldOpS R (v0.getD v5.toNat ([], ())).1 v1).bind fun r0 =>
 cond (decide (r0.1 < 0))
 (some (-1, ()))
 (lp_laws_heldTxnS_0 R L v0 r0.1 v4 (IntKind.wrap .i64 (v5 + 1))))
 none)
 none)
 (some (v1, ()))) := by kernel_rfl
theorem q_laws_heldTxnSS (x0 : List (List d68)) (x1 : Int) : @Eq _ (c_laws_heldTxnSS (bodyK EE R L) x0 x1) (lp_laws_heldTxnSS_0 R L x0 x1 0 0) := by kernel_rfl
theorem q_laws_heldTxnSS_0 (v0 : List (List d68)) (v1 v4 v5 : Int) : @Eq _ (lp_laws_heldTxnSS_0 R L v0 v1 v4 v5 ([1, 0, 1, 0] ++ [0])) (cond (decide (v5 < (v0.length : Int)))
 (cond (nonneg v5)
 (cond (Nat.blt v5.toNat v0.length)
 ((c_laws_heldTxnS R (v0.getD v5.toNat []) v1).bind fun r0 =>
 cond (decide (r0.1 < 0))
 (some (-1, ()))
 (lp_laws_heldTxnSS_0 R L v0 r0.1 v4 (IntKind.wrap .i64 (v5 + 1))))
 none)
 none)
 (some (v1, ()))) := by kernel_rfl
theorem q_laws_heldIntS (x0 : List Int) (x1 : Int) : @Eq _ (c_laws_heldIntS (bodyK EE R L) x0 x1) (lp_laws_heldIntS_0 R L x0 x1 0 0) := by kernel_rfl
theorem q_laws_heldIntS_0 (v0 : List Int) (v1 v4 v5 : Int) : @Eq _ (lp_laws_heldIntS_0 R L v0 v1 v4 v5 ([1, 0, 1, 0] ++ [0])) (cond (decide (v5 < (v0.length : Int)))
 (cond (nonneg v5)
 (cond (Nat.blt v5.toNat v0.length)
 (cond (!(eqI (v0.getD v5.toNat 0) v1))
 (some (-1, ()))
 (lp_laws_heldIntS_0 R L v0 (IntKind.wrap .i64 (v1 + 1)) v4 (IntKind.wrap .i64 (v5 + 1))))
 none)
 none)
 (some (v1, ()))) := by kernel_rfl
theorem q_laws_heldResultS (x0 : List d69) (x1 : Int) : @Eq _ (c_laws_heldResultS (bodyK EE R L) x0 x1) (lp_laws_heldResultS_0 R L x0 x1 0 0) := by kernel_rfl
theorem q_laws_heldResultS_0 (v0 : List d69) (v1 v4 v5 : Int) : @Eq _ (lp_laws_heldResultS_0 R L v0 v1 v4 v5 ([1, 0, 1, 0] ++ [0])) (cond (decide (v5 < (v0.length : Int)))
 (cond (nonneg v5)
 (cond (Nat.blt v5.toNat v0.length)
 (cond (!(eqI (v0.getD v5.toNat (0, ([], ()))).1 v1))
 (some (-1, ()))
 (cond (nonneg v5)
 (cond (Nat.blt v5.toNat v0.length)
 ((c_laws_heldIntS R (v0.getD v5.toNat (0, ([], ()))).2.1 (IntKind.wrap .i64 (v1 + 1))).bind fun r0 =>
 cond (decide (r0.1 < 0))
 (some (-1, ()))
 (lp_laws_heldResultS_0 R L v0 r0.1 v4 (IntKind.wrap .i64 (v5 + 1))))
 none)
 none))
 none)
 none)
 (some (v1, ()))) := by kernel_rfl
theorem q_laws_heldWorld (x0 : d70) (x1 : Int) : @Eq _ (c_laws_heldWorld (bodyK EE R L) x0 x1) ((c_laws_heldStore R x0.1 x1).bind fun r0 =>
 cond (decide (r0.1 < 0))
 (some (-1, ()))
 ((c_laws_heldDevice R x0.2.1 r0.1).bind fun r1 =>
 cond (decide (r1.1 < 0))
 (some (-1, ()))
 ((c_laws_heldEntryS R x0.2.2.1 r1.1).bind fun r2 =>
 cond (decide (r2.1 < 0))
 (some (-1, ()))
 ((c_laws_heldTxnSS R x0.2.2.2.1 r2.1).bind fun r3 =>
 cond (decide (r3.1 < 0))
 (some (-1, ()))
 ((c_laws_heldResultS R x0.2.2.2.2.1 r3.1).bind fun r4 =>
 cond (decide (r4.1 < 0))
 (some (-1, ()))
 (some (r4.1, ()))))))) := by kernel_rfl
end Go.Rf.S

end
section
namespace Go.Rf.S
open Go.Proofs
set_option maxRecDepth 100000
set_option linter.unusedVariables false
set_option linter.unusedSimpArgs false
instance laid : Laid := ⟨[]⟩
def chaH : List Dyn → Option (Ty.pair .str .unit).D
 | [k, n, c, t] => (strOf k).bind fun k => (strOf n).bind fun n => (i64Of c).bind fun c => (strOf t).bind fun t => some (chX k n (t.length / 64 + 1) c.toNat t, ())
 | _ => none
def itx (x : Int) : List UInt8 := ub (lit x.toNat 4)
def intsH : List Dyn → Option (Ty.pair .str .unit).D
 | [l] => (slOf (.int .i64) l).bind fun l => some (l.flatMap itx, ())
 | _ => none
noncomputable def X : (f : FuncId) → Option (List Dyn → Option (EE.cfg f).rt.D)
 | 311 => some repH
 | 273 => some (okH EE 273 chaH)
 | 275 => some (okH EE 275 intsH)
 | _ => none
noncomputable abbrev R : Run EE := run X
noncomputable abbrev L : Loops := lps X
theorem run_x {f : FuncId} {h : List Dyn → Option (EE.cfg f).rt.D} (hX : X f = some h) (ds : List Dyn) : run X f ds = h ds := by
 rw [run_eq]; unfold nextR; rw [hX]
theorem call {f : FuncId} {ds : List Dyn} {r : Option (EE.cfg f).rt.D} (h : bodyK EE R L f ds = r) (hX : X f = none := by rfl) : R f ds = r := (run_fn X hX ds).trans h
theorem round {f : FuncId} {fn : Func} {p : List Nat} {σ : List SV} {r : Option (EE.cfg f).rt.D} (h : (okPath (codeOf fn) p && !unkOK (EE.cfg f).keep) = true) (q : from_ EE R L f fn (p ++ [0]) σ = r) : from_ EE R L f fn p σ = r := (from_loop h).trans q
theorem X_ok : ∀ f h, X f = some h → ∀ ds x, h ds = some x → FnOK EE f ds x := by
 intro f h hX ds x hx
 unfold X at hX
 split at hX
 ·cases hX
  obtain ⟨s, n, rfl, h1, h2, rfl⟩ := repH_some hx
  exact repeat_fn (E := EE) Tryz.laysRep Tryz.extra rfl Tryz.func311 (by kernel_rfl) (by kernel_rfl) s n h1 h2
 ·cases hX; exact okH_ok hx
 ·cases hX; exact okH_ok hx
 ·cases hX
theorem mixed : EE.P.follows .mixedOrders = true := by kernel_rfl
theorem names : NamesOK EE.P := namesOK_of (by kernel_rfl)
theorem runOK : RunOK EE R := run_ok X X_ok mixed names
end Go.Rf.S

end
section
namespace Go.Rf.S
set_option maxRecDepth 100000
set_option linter.unusedVariables false
set_option linter.unusedSimpArgs false
theorem sumC {k : IntKind} {a b : Nat} (h : a + b < kmax k) : IntKind.wrap k ((a : Int) + (b : Int)) = ((a + b : Nat) : Int) := by
 rw [show (a : Int) + (b : Int) = ((a + b : Nat) : Int) from by omega, wrapN h]
theorem sumU (a b : Nat) : IntKind.wrap .u32 ((a : Int) + (b : Int)) = (((a + b) % 4294967296 : Nat) : Int) := by
 rw [show (a : Int) + (b : Int) = ((a + b : Nat) : Int) from by omega, wrapN_u32]
theorem m32 {a : Nat} (h : a < 9223372036854775808) : bitI .and .i64 (a : Int) 4294967295 = ((a % 4294967296 : Nat) : Int) := by
 rw [show (4294967295 : Int) = ((4294967295 : Nat) : Int) from rfl, bit_and (k := .i64) h (by decide), and_m32]
theorem subC {a c : Nat} (h : c ≤ a) (ha : a < 9223372036854775808) : IntKind.wrap .i64 ((a : Int) - (c : Int)) = ((a - c : Nat) : Int) := by
 rw [wrap_id (by omega) (by omega)]; omega
theorem mulpC {k : IntKind} {a n : Nat} (h : a * 2 ^ n < kmax k) : IntKind.wrap k ((a : Int) * (2 ^ n : Int)) = ((a * 2 ^ n : Nat) : Int) := by
 rw [mulpN, wrapN h]
theorem neg31 : ∀ n : Fin 32, 0 < n.val → bitI .and .u64 (IntKind.wrap .u64 (negI .i64 (n.val : Int))) 31 = ((32 - n.val : Nat) : Int) := by decide +kernel
theorem p_rotl (x n : Nat) (hx : x < 4294967296) (h0 : 0 < n) (hn : n < 32) : c_math_bits_RotateLeft32 R (x : Int) (negI .i64 (n : Int)) = some (((rr n x : Nat) : Int), ()) := by
 have hq : c_math_bits_RotateLeft32 R (x : Int) (negI .i64 (n : Int)) = _ := call (q_math_bits_RotateLeft32 R L (x : Int) (negI .i64 (n : Int)))
 have e1 := neg31 ⟨n, hn⟩ h0
 simp only at e1
 have e2 : IntKind.wrap .u64 ((32 : Int) - ((32 - n : Nat) : Int)) = (n : Int) := by
  rw [show (32 : Int) - ((32 - n : Nat) : Int) = (n : Int) by omega, wrapN (by simp only [kmax]; omega)]
 rw [hq, e1, e2, decide_eq_false (show ¬ ((n : Int) < 0) by omega)]
 simp only [cond_false, tn]
 rw [show Min.min (32 - n) (IntKind.bits .u32) = 32 - n from Nat.min_eq_left (by simp only [IntKind.bits]; omega), show Min.min n (IntKind.bits .u32) = n from Nat.min_eq_left (by simp only [IntKind.bits]; omega), mulpN, wrapN_u32, fdivN,
  bit_or (k := .u32) (lt32_mod _) (lt32_div _ hx)]
 unfold rr rl
 rw [show 32 - (32 - n) = n by omega]
theorem p_turned (x n : Nat) (hx : x < 4294967296) (h0 : 0 < n) (hn : n < 32) : c_impl_turned R (x : Int) (n : Int) = some (((rr n x : Nat) : Int), ()) := by
 have hq : c_impl_turned R (x : Int) (n : Int) = _ := call (q_impl_turned R L (x : Int) (n : Int))
 rw [hq, p_rotl x n hx h0 hn]
 rfl
theorem p_right (x n : Nat) (hx : x < 4294967296) (h0 : 0 < n) (hn : n < 32) : c_spec_l01Right R (x : Int) (n : Int) = some (((rr n x : Nat) : Int), ()) := by
 have hq : c_spec_l01Right R (x : Int) (n : Int) = _ := call (q_spec_l01Right R L (x : Int) (n : Int))
 have e2 : IntKind.wrap .i64 ((32 : Int) - (n : Int)) = ((32 - n : Nat) : Int) := by
  rw [wrap_id (by omega) (by omega)]; omega
 have hb : x * 2 ^ (32 - n) < 9223372036854775808 := by
  have h1 : 2 ^ (32 - n) ≤ 2 ^ 31 := Nat.pow_le_pow_right (by decide) (by omega)
  have h2 : x * 2 ^ (32 - n) ≤ x * 2 ^ 31 := Nat.mul_le_mul_left _ h1
  omega
 rw [hq, e2, decide_eq_false (show ¬ ((n : Int) < 0) by omega), decide_eq_false (show ¬ (((32 - n : Nat) : Int) < 0) by omega)]
 simp only [cond_false, tn]
 rw [show Min.min (32 - n) (IntKind.bits .i64) = 32 - n from Nat.min_eq_left (by simp only [IntKind.bits]; omega), show Min.min n (IntKind.bits .i64) = n from Nat.min_eq_left (by simp only [IntKind.bits]; omega), mulpC (k := .i64) hb, fdivN,
  bit_or (k := .i64) (Nat.lt_trans (lt32_div _ hx) (by decide)) hb, m32 (Nat.or_lt_two_pow (n := 63) (Nat.lt_trans (lt32_div _ hx) (by decide)) hb), rr_spec (by omega) hx]
theorem R7 {x : Nat} (hx : x < 4294967296) : c_spec_l01Right R (x : Int) 7 = some (((rr 7 x : Nat) : Int), ()) := p_right x 7 hx (by decide) (by decide)
theorem T7 {x : Nat} (hx : x < 4294967296) : c_impl_turned R (x : Int) 7 = some (((rr 7 x : Nat) : Int), ()) := p_turned x 7 hx (by decide) (by decide)
theorem R18 {x : Nat} (hx : x < 4294967296) : c_spec_l01Right R (x : Int) 18 = some (((rr 18 x : Nat) : Int), ()) := p_right x 18 hx (by decide) (by decide)
theorem T18 {x : Nat} (hx : x < 4294967296) : c_impl_turned R (x : Int) 18 = some (((rr 18 x : Nat) : Int), ()) := p_turned x 18 hx (by decide) (by decide)
theorem R17 {x : Nat} (hx : x < 4294967296) : c_spec_l01Right R (x : Int) 17 = some (((rr 17 x : Nat) : Int), ()) := p_right x 17 hx (by decide) (by decide)
theorem T17 {x : Nat} (hx : x < 4294967296) : c_impl_turned R (x : Int) 17 = some (((rr 17 x : Nat) : Int), ()) := p_turned x 17 hx (by decide) (by decide)
theorem R19 {x : Nat} (hx : x < 4294967296) : c_spec_l01Right R (x : Int) 19 = some (((rr 19 x : Nat) : Int), ()) := p_right x 19 hx (by decide) (by decide)
theorem T19 {x : Nat} (hx : x < 4294967296) : c_impl_turned R (x : Int) 19 = some (((rr 19 x : Nat) : Int), ()) := p_turned x 19 hx (by decide) (by decide)
theorem R6 {x : Nat} (hx : x < 4294967296) : c_spec_l01Right R (x : Int) 6 = some (((rr 6 x : Nat) : Int), ()) := p_right x 6 hx (by decide) (by decide)
theorem T6 {x : Nat} (hx : x < 4294967296) : c_impl_turned R (x : Int) 6 = some (((rr 6 x : Nat) : Int), ()) := p_turned x 6 hx (by decide) (by decide)
theorem R11 {x : Nat} (hx : x < 4294967296) : c_spec_l01Right R (x : Int) 11 = some (((rr 11 x : Nat) : Int), ()) := p_right x 11 hx (by decide) (by decide)
theorem T11 {x : Nat} (hx : x < 4294967296) : c_impl_turned R (x : Int) 11 = some (((rr 11 x : Nat) : Int), ()) := p_turned x 11 hx (by decide) (by decide)
theorem R25 {x : Nat} (hx : x < 4294967296) : c_spec_l01Right R (x : Int) 25 = some (((rr 25 x : Nat) : Int), ()) := p_right x 25 hx (by decide) (by decide)
theorem T25 {x : Nat} (hx : x < 4294967296) : c_impl_turned R (x : Int) 25 = some (((rr 25 x : Nat) : Int), ()) := p_turned x 25 hx (by decide) (by decide)
theorem R2 {x : Nat} (hx : x < 4294967296) : c_spec_l01Right R (x : Int) 2 = some (((rr 2 x : Nat) : Int), ()) := p_right x 2 hx (by decide) (by decide)
theorem T2 {x : Nat} (hx : x < 4294967296) : c_impl_turned R (x : Int) 2 = some (((rr 2 x : Nat) : Int), ()) := p_turned x 2 hx (by decide) (by decide)
theorem R13 {x : Nat} (hx : x < 4294967296) : c_spec_l01Right R (x : Int) 13 = some (((rr 13 x : Nat) : Int), ()) := p_right x 13 hx (by decide) (by decide)
theorem T13 {x : Nat} (hx : x < 4294967296) : c_impl_turned R (x : Int) 13 = some (((rr 13 x : Nat) : Int), ()) := p_turned x 13 hx (by decide) (by decide)
theorem R22 {x : Nat} (hx : x < 4294967296) : c_spec_l01Right R (x : Int) 22 = some (((rr 22 x : Nat) : Int), ()) := p_right x 22 hx (by decide) (by decide)
theorem T22 {x : Nat} (hx : x < 4294967296) : c_impl_turned R (x : Int) 22 = some (((rr 22 x : Nat) : Int), ()) := p_turned x 22 hx (by decide) (by decide)
theorem byteC {k : IntKind} (hk : 256 ≤ kmax k) (b : UInt8) : IntKind.wrap k ((b.toNat : Nat) : Int) = ((b.toNat : Nat) : Int) := wrapN (Nat.lt_of_lt_of_le (UInt8.toNat_lt _) hk)
theorem or32 {k : IntKind} (hk : 4294967296 ≤ kmax k) {a b : Nat} (ha : a < 4294967296) (hb : b < 4294967296) : bitI .or k (a : Int) (b : Int) = ((a ||| b : Nat) : Int) := bit_or (Nat.lt_of_lt_of_le ha hk) (Nat.lt_of_lt_of_le hb hk)
theorem xor32 {k : IntKind} (hk : 4294967296 ≤ kmax k) {a b : Nat} (ha : a < 4294967296) (hb : b < 4294967296) : bitI .xor k (a : Int) (b : Int) = ((a ^^^ b : Nat) : Int) := bit_xor (Nat.lt_of_lt_of_le ha hk) (Nat.lt_of_lt_of_le hb hk)
theorem and32 {k : IntKind} (hk : 4294967296 ≤ kmax k) {a b : Nat} (ha : a < 4294967296) (hb : b < 4294967296) : bitI .and k (a : Int) (b : Int) = ((a &&& b : Nat) : Int) := bit_and (Nat.lt_of_lt_of_le ha hk) (Nat.lt_of_lt_of_le hb hk)
theorem wordBE (k : IntKind) (hk : 4294967296 ≤ kmax k) (h32 : 32 ≤ k.bits) (t : List UInt8) (i : Nat) :
  bitI .or k (bitI .or k (bitI .or k (IntKind.wrap k (IntKind.wrap k (((t.getD i 0).toNat : Nat) : Int) * ((2 : Int) ^ Min.min (Int.toNat 24) k.bits)))
   (IntKind.wrap k (IntKind.wrap k (((t.getD (i + 1) 0).toNat : Nat) : Int) * ((2 : Int) ^ Min.min (Int.toNat 16) k.bits))))
   (IntKind.wrap k (IntKind.wrap k (((t.getD (i + 2) 0).toNat : Nat) : Int) * ((2 : Int) ^ Min.min (Int.toNat 8) k.bits))))
   (IntKind.wrap k (((t.getD (i + 3) 0).toNat : Nat) : Int)) = ((wBE t i : Nat) : Int) := by
 have h0 := bt_lt t i; have h1 := bt_lt t (i + 1); have h2 := bt_lt t (i + 2); have h3 := bt_lt t (i + 3)
 have m24 : Min.min (Int.toNat 24) k.bits = 24 := Nat.min_eq_left (by show 24 ≤ _; omega)
 have m16 : Min.min (Int.toNat 16) k.bits = 16 := Nat.min_eq_left (by show 16 ≤ _; omega)
 have m8 : Min.min (Int.toNat 8) k.bits = 8 := Nat.min_eq_left (by show 8 ≤ _; omega)
 have hk8 : 256 ≤ kmax k := Nat.le_trans (by decide) hk
 unfold bt at h0 h1 h2 h3
 rw [m24, m16, m8, byteC hk8, byteC hk8, byteC hk8, byteC hk8, mulpC (by omega), mulpC (by omega), mulpC (by omega), or32 hk (by omega) (by omega), or32 hk (lt32_or (by omega) (by omega)) (by omega), or32 hk (lt32_or (lt32_or (by omega) (by omega)) (by omega)) (by omega)]
 rfl
theorem plusC {i : Nat} (c : Nat) (h : i + c < 9223372036854775808) : IntKind.wrap .i64 ((i : Int) + (c : Int)) = ((i + c : Nat) : Int) := sumC h
theorem p_Word (t : List UInt8) (i : Nat) (h : i + 3 < t.length) (hi : i < 1099511627776) : c_spec_l01Word R t (i : Int) = some (((wBE t i : Nat) : Int), ()) := by
 have hq : c_spec_l01Word R t (i : Int) = _ := call (q_spec_l01Word R L t (i : Int))
 have e1 : IntKind.wrap .i64 ((i : Int) + 1) = ((i + 1 : Nat) : Int) := plusC 1 (by omega)
 have e2 : IntKind.wrap .i64 ((i : Int) + 2) = ((i + 2 : Nat) : Int) := plusC 2 (by omega)
 have e3 : IntKind.wrap .i64 ((i : Int) + 3) = ((i + 3 : Nat) : Int) := plusC 3 (by omega)
 rw [hq, e1, e2, e3]
 simp only [nn, tn, blt_t (show i < t.length by omega), blt_t (show i + 1 < t.length by omega), blt_t (show i + 2 < t.length by omega), blt_t h, cond_true]
 rw [wordBE .i64 (by decide) (by decide)]
end Go.Rf.S

end
section
namespace Go.Rf.S
set_option maxRecDepth 100000
set_option linter.unusedVariables false
set_option linter.unusedSimpArgs false
theorem g0C (k : IntKind) (hk : 4294967296 ≤ kmax k) (h32 : 32 ≤ k.bits) {x : Nat} (h : x < 4294967296) :
  bitI .xor k (bitI .xor k ((rr 7 x : Nat) : Int) ((rr 18 x : Nat) : Int)) (Int.fdiv (x : Int) ((2 : Int) ^ Min.min (Int.toNat 3) k.bits)) = ((g0 x : Nat) : Int) := by
 rw [show Min.min (Int.toNat 3) k.bits = 3 from Nat.min_eq_left (by show 3 ≤ _; omega), fdivN, xor32 hk (rr_lt h) (rr_lt h), xor32 hk (lt32_xor (rr_lt h) (rr_lt h)) (lt32_div _ h)]
 rfl
theorem g1C (k : IntKind) (hk : 4294967296 ≤ kmax k) (h32 : 32 ≤ k.bits) {x : Nat} (h : x < 4294967296) :
  bitI .xor k (bitI .xor k ((rr 17 x : Nat) : Int) ((rr 19 x : Nat) : Int)) (Int.fdiv (x : Int) ((2 : Int) ^ Min.min (Int.toNat 10) k.bits)) = ((g1 x : Nat) : Int) := by
 rw [show Min.min (Int.toNat 10) k.bits = 10 from Nat.min_eq_left (by show 10 ≤ _; omega), fdivN, xor32 hk (rr_lt h) (rr_lt h), xor32 hk (lt32_xor (rr_lt h) (rr_lt h)) (lt32_div _ h)]
 rfl
theorem S1C (k : IntKind) (hk : 4294967296 ≤ kmax k) {x : Nat} (h : x < 4294967296) :
  bitI .xor k (bitI .xor k ((rr 6 x : Nat) : Int) ((rr 11 x : Nat) : Int)) ((rr 25 x : Nat) : Int) = ((S1 x : Nat) : Int) := by
 rw [xor32 hk (rr_lt h) (rr_lt h), xor32 hk (lt32_xor (rr_lt h) (rr_lt h)) (rr_lt h)]
 rfl
theorem S0C (k : IntKind) (hk : 4294967296 ≤ kmax k) {x : Nat} (h : x < 4294967296) :
  bitI .xor k (bitI .xor k ((rr 2 x : Nat) : Int) ((rr 13 x : Nat) : Int)) ((rr 22 x : Nat) : Int) = ((S0 x : Nat) : Int) := by
 rw [xor32 hk (rr_lt h) (rr_lt h), xor32 hk (lt32_xor (rr_lt h) (rr_lt h)) (rr_lt h)]
 rfl
theorem chC (k : IntKind) (hk : 4294967296 ≤ kmax k) {e f g : Nat} (he : e < 4294967296) (hf : f < 4294967296) (hg : g < 4294967296) :
  bitI .xor k (bitI .and k (e : Int) (f : Int)) (bitI .and k (bitI .xor k 4294967295 (e : Int)) (g : Int)) = ((ch e f g : Nat) : Int) := by
 rw [show (4294967295 : Int) = ((4294967295 : Nat) : Int) from rfl, and32 hk he hf, xor32 hk (by decide) he, and32 hk (lt32_xor (by decide) he) hg, xor32 hk (lt32_and he) (lt32_and (lt32_xor (by decide) he))]
 rfl
theorem mjC (k : IntKind) (hk : 4294967296 ≤ kmax k) {e f g : Nat} (he : e < 4294967296) (hf : f < 4294967296) (hg : g < 4294967296) :
  bitI .xor k (bitI .xor k (bitI .and k (e : Int) (f : Int)) (bitI .and k (e : Int) (g : Int))) (bitI .and k (f : Int) (g : Int)) = ((mj e f g : Nat) : Int) := by
 rw [and32 hk he hf, and32 hk he hg, and32 hk hf hg, xor32 hk (lt32_and he) (lt32_and he), xor32 hk (lt32_xor (lt32_and he) (lt32_and he)) (lt32_and hf)]
 rfl
def Wd (n : Nat) (w : List Nat) : Prop := w.length = n ∧ Bd 4294967296 w
theorem Wd.g {n : Nat} {w : List Nat} (h : Wd n w) (i : Nat) : w.getD i 0 < 4294967296 := h.2.get (by decide) i
theorem Wd.s {n : Nat} {w : List Nat} (h : Wd n w) {i a : Nat} (ha : a < 4294967296) : Wd n (w.set i a) := ⟨by rw [List.length_set]; exact h.1, h.2.set ha⟩
theorem Wd.rep (n : Nat) : Wd n (List.replicate n 0) := ⟨List.length_replicate, Bd.rep (by decide)⟩
theorem stA_W {t : List UInt8} {i : Nat} {w : List Nat} (h : Wd 64 w) : Wd 64 (stA t i w) := h.s (wBE_lt _ _)
theorem stB_W {i : Nat} {w : List Nat} (h : Wd 64 w) : Wd 64 (stB i w) := h.s (lt32_mod _)
theorem stC_W {k w v : List Nat} {i : Nat} (h : Wd 8 v) : Wd 8 (stC k w i v) := ⟨rfl, fun x hx => by
 simp only [stC, List.mem_cons, List.not_mem_nil, or_false] at hx
 rcases hx with rfl | rfl | rfl | rfl | rfl | rfl | rfl | rfl
 ·exact lt32_mod _
 ·exact h.g 0
 ·exact h.g 1
 ·exact h.g 2
 ·exact lt32_mod _
 ·exact h.g 4
 ·exact h.g 5
 ·exact h.g 6⟩
theorem stD_W {v : List Nat} {i : Nat} {w : List Nat} {n : Nat} (h : Wd n w) : Wd n (stD v i w) := h.s (lt32_mod _)
def kT : List Nat := [1116352408, 1899447441, 3049323471, 3921009573, 961987163, 1508970993, 2453635748, 2870763221, 3624381080, 310598401, 607225278, 1426881987, 1925078388, 2162078206, 2614888103, 3248222580, 3835390401, 4022224774, 264347078, 604807628, 770255983, 1249150122, 1555081692, 1996064986, 2554220882, 2821834349, 2952996808, 3210313671, 3336571891, 3584528711, 113926993, 338241895, 666307205, 773529912, 1294757372, 1396182291, 1695183700, 1986661051, 2177026350, 2456956037, 2730485921, 2820302411, 3259730800, 3345764771, 3516065817, 3600352804, 4094571909, 275423344, 430227734, 506948616, 659060556, 883997877, 958139571, 1322822218, 1537002063, 1747873779, 1955562222, 2024104815, 2227730452, 2361852424, 2428436474, 2756734187, 3204031479, 3329325298]
def hT : List Nat := [1779033703, 3144134277, 1013904242, 2773480762, 1359893119, 2600822924, 528734635, 1541459225]
theorem hT_W : Wd 8 hT := ⟨rfl, by intro x hx; revert x; decide⟩
theorem kT_W : Wd 64 kT := ⟨rfl, by intro x hx; revert x; decide⟩
theorem p_Table : c_spec_l01Table R = some (cl kT, ()) := call (q_spec_l01Table R L)
theorem p_constants : c_impl_constants R = some (cl kT, ()) := call (q_impl_constants R L)
theorem p_Start : c_spec_l01Start R = some (cl hT, ()) := call (q_spec_l01Start R L)
theorem spec_A (t : List UInt8) (ht : 64 ≤ t.length) (v2 v4 : List Int) :
  lp_spec_l01Block_0 R L t v2 v4 (cl (List.replicate 64 0)) 0 = lp_spec_l01Block_1 R L v2 v4 (cl (loopN (stA t) 16 0 (List.replicate 64 0))) 16 ∧ Wd 64 (loopN (stA t) 16 0 (List.replicate 64 0)) :=
 gen_for0 (fun (w : List Nat) i => lp_spec_l01Block_0 R L t v2 v4 (cl w) i) (stA t) (fun _ w => Wd 64 w) 16 (fun w => lp_spec_l01Block_1 R L v2 v4 (cl w) 16)
  (fun w hw => by
   have hq : lp_spec_l01Block_0 R L t v2 v4 (cl w) (16 : Nat) = _ := round (by kernel_rfl) (q_spec_l01Block_0 R L t v2 v4 (cl w) (16 : Nat))
   show lp_spec_l01Block_0 R L t v2 v4 (cl w) (16 : Nat) = _
   rw [hq]; rfl)
  (fun w i hi hw => by
   have hq : lp_spec_l01Block_0 R L t v2 v4 (cl w) (i : Nat) = _ := round (by kernel_rfl) (q_spec_l01Block_0 R L t v2 v4 (cl w) (i : Nat))
   refine ⟨?_, stA_W hw⟩
   show lp_spec_l01Block_0 R L t v2 v4 (cl w) (i : Nat) = _
   have e4 : IntKind.wrap .i64 ((4 : Int) * (i : Int)) = ((4 * i : Nat) : Int) := by rw [wrap_id (by omega) (by omega)]; omega
   rw [hq, show decide ((i : Int) < 16) = true from decide_eq_true (by omega), e4, p_Word t (4 * i) (by omega) (by omega), wrap_succ (by omega)]
   simp only [nn, tn, cond_true, Option.bind_some]
   rw [blt_t (show i < 64 by omega), cl_set]
   rfl)
  (List.replicate 64 0) (Wd.rep 64)
theorem spec_B (v2 v4 : List Int) (w0 : List Nat) (h0 : Wd 64 w0) :
  lp_spec_l01Block_1 R L v2 v4 (cl w0) 16 = lp_spec_l01Block_2 R L v2 v4 (cl (loopN stB 48 0 w0)) (cl kT) v2 0 ∧ Wd 64 (loopN stB 48 0 w0) := by
 have h : lp_spec_l01Block_1 R L v2 v4 (cl w0) (0 + 16) = lp_spec_l01Block_2 R L v2 v4 (cl (loopN stB 48 0 w0)) (cl kT) v2 0 ∧ Wd 64 (loopN stB 48 0 w0) := gen_for0 (fun (w : List Nat) i => lp_spec_l01Block_1 R L v2 v4 (cl w) (i + 16)) stB (fun _ w => Wd 64 w) 48 (fun w => lp_spec_l01Block_2 R L v2 v4 (cl w) (cl kT) v2 0)
  (fun w hw => by
   have hq : lp_spec_l01Block_1 R L v2 v4 (cl w) (64 : Nat) = _ := round (by kernel_rfl) (q_spec_l01Block_1 R L v2 v4 (cl w) (64 : Nat))
   show lp_spec_l01Block_1 R L v2 v4 (cl w) (64 : Nat) = _
   rw [hq, show decide (((64 : Nat) : Int) < 64) = false from by decide, p_Table]; rfl)
  (fun w i hi hw => by
   have hq : lp_spec_l01Block_1 R L v2 v4 (cl w) ((i + 16 : Nat) : Int) = _ := round (by kernel_rfl) (q_spec_l01Block_1 R L v2 v4 (cl w) ((i + 16 : Nat) : Int))
   refine ⟨?_, stB_W hw⟩
   show lp_spec_l01Block_1 R L v2 v4 (cl w) ((i : Int) + 16) = lp_spec_l01Block_1 R L v2 v4 (cl (stB i w)) (((i + 1 : Nat) : Int) + 16)
   rw [show (i : Int) + 16 = ((i + 16 : Nat) : Int) by omega, show ((i + 1 : Nat) : Int) + 16 = ((i + 16 + 1 : Nat) : Int) by omega]
   have e15 : IntKind.wrap .i64 (((i + 16 : Nat) : Int) - 15) = ((i + 1 : Nat) : Int) := subC (c := 15) (by omega) (by omega)
   have e2 : IntKind.wrap .i64 (((i + 16 : Nat) : Int) - 2) = ((i + 14 : Nat) : Int) := subC (c := 2) (by omega) (by omega)
   have e16 : IntKind.wrap .i64 (((i + 16 : Nat) : Int) - 16) = ((i : Nat) : Int) := subC (c := 16) (by omega) (by omega)
   have e7 : IntKind.wrap .i64 (((i + 16 : Nat) : Int) - 7) = ((i + 9 : Nat) : Int) := subC (c := 7) (by omega) (by omega)
   have a1 := hw.g (i + 1); have a14 := hw.g (i + 14); have a0 := hw.g i; have a9 := hw.g (i + 9)
   have b1 := g0_lt a1; have b2 := g1_lt a14
   rw [hq, show decide (((i + 16 : Nat) : Int) < 64) = true from decide_eq_true (by omega), e15, e2, e16, e7, wrap_succ (by omega)]
   simp only [nn, tn, cond_true, blt_t (show i + 1 < 64 by omega), blt_t (show i + 14 < 64 by omega), blt_t (show i < 64 by omega), blt_t (show i + 9 < 64 by omega), blt_t (show i + 16 < 64 by omega), cl_getD]
   rw [R7 a1, R18 a1, R17 a14, R19 a14]
   simp only [Option.bind_some]
   rw [g0C .i64 (by decide) (by decide) a1, g1C .i64 (by decide) (by decide) a14, sumC (by simp only [kmax]; omega), sumC (by simp only [kmax]; omega), sumC (by simp only [kmax]; omega), m32 (by omega), cl_set]
   rfl)
  w0 h0
 rw [Int.zero_add] at h
 exact h
theorem spec_C (v2 v4 : List Int) (w v0 : List Nat) (hw : Wd 64 w) (h0 : Wd 8 v0) :
  lp_spec_l01Block_2 R L v2 v4 (cl w) (cl kT) (cl v0) 0 = lp_spec_l01Block_3 R L v2 v4 (cl (loopN (stC kT w) 64 0 v0)) 0 ∧ Wd 8 (loopN (stC kT w) 64 0 v0) :=
 gen_for0 (fun (v : List Nat) i => lp_spec_l01Block_2 R L v2 v4 (cl w) (cl kT) (cl v) i) (stC kT w) (fun _ v => Wd 8 v) 64 (fun v => lp_spec_l01Block_3 R L v2 v4 (cl v) 0)
  (fun v hv => by
   have hq : lp_spec_l01Block_2 R L v2 v4 (cl w) (cl kT) (cl v) (64 : Nat) = _ := round (by kernel_rfl) (q_spec_l01Block_2 R L v2 v4 (cl w) (cl kT) (cl v) (64 : Nat))
   show lp_spec_l01Block_2 R L v2 v4 (cl w) (cl kT) (cl v) (64 : Nat) = _
   rw [hq]; rfl)
  (fun v i hi hv => by
   have hq : lp_spec_l01Block_2 R L v2 v4 (cl w) (cl kT) (cl v) (i : Nat) = _ := round (by kernel_rfl) (q_spec_l01Block_2 R L v2 v4 (cl w) (cl kT) (cl v) (i : Nat))
   refine ⟨?_, stC_W hv⟩
   show lp_spec_l01Block_2 R L v2 v4 (cl w) (cl kT) (cl v) (i : Nat) = _
   have a0 := hv.g 0; have a1 := hv.g 1; have a2 := hv.g 2; have a3 := hv.g 3; have a4 := hv.g 4; have a5 := hv.g 5; have a6 := hv.g 6; have a7 := hv.g 7
   have ak := kT_W.g i; have aw := hw.g i
   have b1 := S1_lt a4; have b0 := S0_lt a0; have bc := ch_lt (f := v.getD 5 0) (g := v.getD 6 0) a4; have bm := mj_lt (c := v.getD 2 0) a0 a1
   rw [hq, show decide ((i : Int) < 64) = true from decide_eq_true (by omega), wrap_succ (by omega)]
   simp only [nn, tn, cond_true, blt_t (show i < 64 by omega), cl_getD, show Int.toNat 0 = 0 from rfl, show Int.toNat 1 = 1 from rfl, show Int.toNat 2 = 2 from rfl, show Int.toNat 3 = 3 from rfl, show Int.toNat 4 = 4 from rfl, show Int.toNat 5 = 5 from rfl, show Int.toNat 6 = 6 from rfl, show Int.toNat 7 = 7 from rfl]
   rw [R6 a4, R11 a4, R25 a4, R2 a0, R13 a0, R22 a0]
   simp only [Option.bind_some]
   rw [S1C .i64 (by decide) a4, S0C .i64 (by decide) a0, chC .i64 (by decide) a4 a5 a6, mjC .i64 (by decide) a0 a1 a2]
   rw [sumC (a := v.getD 7 0) (by simp only [kmax]; omega), sumC (b := ch _ _ _) (by simp only [kmax]; omega), sumC (b := kT.getD i 0) (by simp only [kmax]; omega), sumC (b := w.getD i 0) (by simp only [kmax]; omega), sumC (b := S0 _) (by simp only [kmax]; omega), sumC (b := mj _ _ _) (by simp only [kmax]; omega), sumC (a := v.getD 3 0) (by simp only [kmax]; omega), m32 (by omega), m32 (by omega)]
   rfl)
  v0 h0
theorem spec_D (v4 : List Int) (v h0 : List Nat) (hv : Wd 8 v) (hh : Wd 8 h0) :
  lp_spec_l01Block_3 R L (cl h0) v4 (cl v) 0 = some (cl (loopN (stD v) 8 0 h0), ()) ∧ Wd 8 (loopN (stD v) 8 0 h0) :=
 gen_for0 (fun (h : List Nat) i => lp_spec_l01Block_3 R L (cl h) v4 (cl v) i) (stD v) (fun _ h => Wd 8 h) 8 (fun h => some (cl h, ()))
  (fun h _ => by
   have hq : lp_spec_l01Block_3 R L (cl h) v4 (cl v) (8 : Nat) = _ := round (by kernel_rfl) (q_spec_l01Block_3 R L (cl h) v4 (cl v) (8 : Nat))
   show lp_spec_l01Block_3 R L (cl h) v4 (cl v) (8 : Nat) = _
   rw [hq]; rfl)
  (fun h i hi hh => by
   have hq : lp_spec_l01Block_3 R L (cl h) v4 (cl v) (i : Nat) = _ := round (by kernel_rfl) (q_spec_l01Block_3 R L (cl h) v4 (cl v) (i : Nat))
   refine ⟨?_, stD_W hh⟩
   show lp_spec_l01Block_3 R L (cl h) v4 (cl v) (i : Nat) = _
   have a := hh.g i; have b := hv.g i
   rw [hq, show decide ((i : Int) < 8) = true from decide_eq_true (by omega), wrap_succ (by omega)]
   simp only [nn, tn, cond_true, blt_t (show i < 8 from hi), cl_getD]
   rw [sumC (by simp only [kmax]; omega), m32 (by omega), cl_set]
   rfl)
  h0 hh
theorem p_specBlock (h : List Nat) (t : List UInt8) (hh : Wd 8 h) (ht : 64 ≤ t.length) : c_spec_l01Block R (cl h) t = some (cl (shaB kT h t), ()) ∧ Wd 8 (shaB kT h t) := by
 have hq : c_spec_l01Block R (cl h) t = _ := call (q_spec_l01Block R L (cl h) t)
 obtain ⟨a1, a2⟩ := spec_A t ht (cl h) (List.replicate 8 0)
 obtain ⟨b1, b2⟩ := spec_B (cl h) (List.replicate 8 0) _ a2
 obtain ⟨c1, c2⟩ := spec_C (cl h) (List.replicate 8 0) _ h b2 hh
 obtain ⟨d1, d2⟩ := spec_D (List.replicate 8 0) _ h c2 hh
 exact ⟨hq.trans (a1.trans (b1.trans (c1.trans d1))), d2⟩
end Go.Rf.S

end
section
namespace Go.Rf.S
set_option maxRecDepth 100000
set_option linter.unusedVariables false
set_option linter.unusedSimpArgs false
abbrev HS : Type := List Int × (List UInt8 × (Int × Unit))
theorem impl_A (v0 : HS) (t : List UInt8) (ht : 64 ≤ t.length) (v2 : List Int) :
  lp_pimpl_Hash_block_0 R L v0 t v2 (cl (List.replicate 64 0)) 0 = lp_pimpl_Hash_block_1 R L v0 v2 (cl (loopN (stA t) 16 0 (List.replicate 64 0))) 16 ∧ Wd 64 (loopN (stA t) 16 0 (List.replicate 64 0)) :=
 gen_for0 (fun (w : List Nat) i => lp_pimpl_Hash_block_0 R L v0 t v2 (cl w) i) (stA t) (fun _ w => Wd 64 w) 16 (fun w => lp_pimpl_Hash_block_1 R L v0 v2 (cl w) 16)
  (fun w hw => by
   have hq : lp_pimpl_Hash_block_0 R L v0 t v2 (cl w) (16 : Nat) = _ := round (by kernel_rfl) (q_pimpl_Hash_block_0 R L v0 t v2 (cl w) (16 : Nat))
   show lp_pimpl_Hash_block_0 R L v0 t v2 (cl w) (16 : Nat) = _
   rw [hq]; rfl)
  (fun w i hi hw => by
   have hq : lp_pimpl_Hash_block_0 R L v0 t v2 (cl w) (i : Nat) = _ := round (by kernel_rfl) (q_pimpl_Hash_block_0 R L v0 t v2 (cl w) (i : Nat))
   refine ⟨?_, stA_W hw⟩
   show lp_pimpl_Hash_block_0 R L v0 t v2 (cl w) (i : Nat) = _
   have e4 : IntKind.wrap .i64 ((4 : Int) * (i : Int)) = ((4 * i : Nat) : Int) := by rw [wrap_id (by omega) (by omega)]; omega
   have e1 : IntKind.wrap .i64 (((4 * i : Nat) : Int) + 1) = ((4 * i + 1 : Nat) : Int) := plusC 1 (by omega)
   have e2 : IntKind.wrap .i64 (((4 * i : Nat) : Int) + 2) = ((4 * i + 2 : Nat) : Int) := plusC 2 (by omega)
   have e3 : IntKind.wrap .i64 (((4 * i : Nat) : Int) + 3) = ((4 * i + 3 : Nat) : Int) := plusC 3 (by omega)
   rw [hq, show decide ((i : Int) < 16) = true from decide_eq_true (by omega), e4, e1, e2, e3, wrap_succ (by omega)]
   simp only [nn, tn, cond_true, blt_t (show 4 * i < t.length by omega), blt_t (show 4 * i + 1 < t.length by omega), blt_t (show 4 * i + 2 < t.length by omega), blt_t (show 4 * i + 3 < t.length by omega)]
   rw [wordBE .u32 (by decide) (by decide), blt_t (show i < 64 by omega), cl_set]
   rfl)
  (List.replicate 64 0) (Wd.rep 64)
theorem stB_mod (a b c d : Nat) : (((a + b) % 4294967296 + c) % 4294967296 + d) % 4294967296 = (a + b + c + d) % 4294967296 := by simp only [Nat.mod_add_mod]
theorem impl_B (v0 : HS) (v2 : List Int) (w0 : List Nat) (h0 : Wd 64 w0) :
  lp_pimpl_Hash_block_1 R L v0 v2 (cl w0) 16 = lp_pimpl_Hash_block_2 R L v0 v2 (cl (loopN stB 48 0 w0)) (List.replicate 8 0) v0.1 0 ∧ Wd 64 (loopN stB 48 0 w0) := by
 have h : lp_pimpl_Hash_block_1 R L v0 v2 (cl w0) (0 + 16) = lp_pimpl_Hash_block_2 R L v0 v2 (cl (loopN stB 48 0 w0)) (List.replicate 8 0) v0.1 0 ∧ Wd 64 (loopN stB 48 0 w0) :=
  gen_for0 (fun (w : List Nat) i => lp_pimpl_Hash_block_1 R L v0 v2 (cl w) (i + 16)) stB (fun _ w => Wd 64 w) 48 (fun w => lp_pimpl_Hash_block_2 R L v0 v2 (cl w) (List.replicate 8 0) v0.1 0)
  (fun w hw => by
   have hq : lp_pimpl_Hash_block_1 R L v0 v2 (cl w) (64 : Nat) = _ := round (by kernel_rfl) (q_pimpl_Hash_block_1 R L v0 v2 (cl w) (64 : Nat))
   show lp_pimpl_Hash_block_1 R L v0 v2 (cl w) (64 : Nat) = _
   rw [hq, show decide (((64 : Nat) : Int) < 64) = false from by decide]; rfl)
  (fun w i hi hw => by
   have hq : lp_pimpl_Hash_block_1 R L v0 v2 (cl w) ((i + 16 : Nat) : Int) = _ := round (by kernel_rfl) (q_pimpl_Hash_block_1 R L v0 v2 (cl w) ((i + 16 : Nat) : Int))
   refine ⟨?_, stB_W hw⟩
   show lp_pimpl_Hash_block_1 R L v0 v2 (cl w) ((i : Int) + 16) = lp_pimpl_Hash_block_1 R L v0 v2 (cl (stB i w)) (((i + 1 : Nat) : Int) + 16)
   rw [show (i : Int) + 16 = ((i + 16 : Nat) : Int) by omega, show ((i + 1 : Nat) : Int) + 16 = ((i + 16 + 1 : Nat) : Int) by omega]
   have e15 : IntKind.wrap .i64 (((i + 16 : Nat) : Int) - 15) = ((i + 1 : Nat) : Int) := subC (c := 15) (by omega) (by omega)
   have e2 : IntKind.wrap .i64 (((i + 16 : Nat) : Int) - 2) = ((i + 14 : Nat) : Int) := subC (c := 2) (by omega) (by omega)
   have e16 : IntKind.wrap .i64 (((i + 16 : Nat) : Int) - 16) = ((i : Nat) : Int) := subC (c := 16) (by omega) (by omega)
   have e7 : IntKind.wrap .i64 (((i + 16 : Nat) : Int) - 7) = ((i + 9 : Nat) : Int) := subC (c := 7) (by omega) (by omega)
   have a1 := hw.g (i + 1); have a14 := hw.g (i + 14); have a0 := hw.g i; have a9 := hw.g (i + 9)
   rw [hq, show decide (((i + 16 : Nat) : Int) < 64) = true from decide_eq_true (by omega), e15, e2, e16, e7, wrap_succ (by omega)]
   simp only [nn, tn, cond_true, blt_t (show i + 1 < 64 by omega), blt_t (show i + 14 < 64 by omega), blt_t (show i < 64 by omega), blt_t (show i + 9 < 64 by omega), blt_t (show i + 16 < 64 by omega), cl_getD]
   rw [T7 a1, T18 a1, T17 a14, T19 a14]
   simp only [Option.bind_some]
   rw [g0C .u32 (by decide) (by decide) a1, g1C .u32 (by decide) (by decide) a14, sumU, sumU, sumU, stB_mod, cl_set]
   rfl)
  w0 h0
 rw [Int.zero_add] at h
 exact h
theorem list8 {x : List Nat} (h : x.length = 8) : x = [x.getD 0 0, x.getD 1 0, x.getD 2 0, x.getD 3 0, x.getD 4 0, x.getD 5 0, x.getD 6 0, x.getD 7 0] := by
 match x, h with
 | [a, b, c, d, e, f, g, i], _ => rfl
theorem impl_E (v0 : HS) (v2 v6 : List Int) (h : List Nat) (hh : Wd 8 h) :
  lp_pimpl_Hash_block_2 R L v0 v2 v6 (List.replicate 8 0) (cl h) 0 = lp_pimpl_Hash_block_3 R L v0 v2 v6 (cl h) 0 := by
 have := (gen_for0 (fun (w : List Nat) i => lp_pimpl_Hash_block_2 R L v0 v2 v6 (cl w) (cl h) i) (fun i w => w.set i (h.getD i 0)) (fun _ w => True) 8 (fun w => lp_pimpl_Hash_block_3 R L v0 v2 v6 (cl w) 0)
  (fun w hw => by
   have hq : lp_pimpl_Hash_block_2 R L v0 v2 v6 (cl w) (cl h) (8 : Nat) = _ := round (by kernel_rfl) (q_pimpl_Hash_block_2 R L v0 v2 v6 (cl w) (cl h) (8 : Nat))
   show lp_pimpl_Hash_block_2 R L v0 v2 v6 (cl w) (cl h) (8 : Nat) = _
   rw [hq]; rfl)
  (fun w i hi hw => by
   have hq : lp_pimpl_Hash_block_2 R L v0 v2 v6 (cl w) (cl h) (i : Nat) = _ := round (by kernel_rfl) (q_pimpl_Hash_block_2 R L v0 v2 v6 (cl w) (cl h) (i : Nat))
   refine ⟨?_, trivial⟩
   show lp_pimpl_Hash_block_2 R L v0 v2 v6 (cl w) (cl h) (i : Nat) = _
   rw [hq, show decide ((i : Int) < 8) = true from decide_eq_true (by omega), wrap_succ (by omega)]
   simp only [nn, tn, cond_true, blt_t (show i < 8 from hi), cl_getD]
   rw [wrapN (k := .u32) (hh.g i), cl_set])
  (List.replicate 8 0) trivial).1
 refine this.trans ?_
 rw [list8 hh.1]
 rfl
theorem stC_mod (h s c k w a m : Nat) : (((((h + s) % 4294967296 + c) % 4294967296 + k) % 4294967296 + w) % 4294967296 + (a + m) % 4294967296) % 4294967296 = (h + s + c + k + w + a + m) % 4294967296 := by
 simp only [Nat.mod_add_mod, Nat.add_mod_mod, Nat.add_assoc]
theorem stC_mod2 (d h s c k w : Nat) : (d + ((((h + s) % 4294967296 + c) % 4294967296 + k) % 4294967296 + w) % 4294967296) % 4294967296 = (d + (h + s + c + k + w)) % 4294967296 := by
 simp only [Nat.mod_add_mod, Nat.add_mod_mod]
theorem impl_C (v0 : HS) (w v00 : List Nat) (hw : Wd 64 w) (h0 : Wd 8 v00) :
  lp_pimpl_Hash_block_3 R L v0 (cl kT) (cl w) (cl v00) 0 = lp_pimpl_Hash_block_4 R L v0 (cl (loopN (stC kT w) 64 0 v00)) 0 ∧ Wd 8 (loopN (stC kT w) 64 0 v00) :=
 gen_for0 (fun (v : List Nat) i => lp_pimpl_Hash_block_3 R L v0 (cl kT) (cl w) (cl v) i) (stC kT w) (fun _ v => Wd 8 v) 64 (fun v => lp_pimpl_Hash_block_4 R L v0 (cl v) 0)
  (fun v hv => by
   have hq : lp_pimpl_Hash_block_3 R L v0 (cl kT) (cl w) (cl v) (64 : Nat) = _ := round (by kernel_rfl) (q_pimpl_Hash_block_3 R L v0 (cl kT) (cl w) (cl v) (64 : Nat))
   show lp_pimpl_Hash_block_3 R L v0 (cl kT) (cl w) (cl v) (64 : Nat) = _
   rw [hq]; rfl)
  (fun v i hi hv => by
   have hq : lp_pimpl_Hash_block_3 R L v0 (cl kT) (cl w) (cl v) (i : Nat) = _ := round (by kernel_rfl) (q_pimpl_Hash_block_3 R L v0 (cl kT) (cl w) (cl v) (i : Nat))
   refine ⟨?_, stC_W hv⟩
   show lp_pimpl_Hash_block_3 R L v0 (cl kT) (cl w) (cl v) (i : Nat) = _
   have a0 := hv.g 0; have a1 := hv.g 1; have a2 := hv.g 2; have a3 := hv.g 3; have a4 := hv.g 4; have a5 := hv.g 5; have a6 := hv.g 6; have a7 := hv.g 7
   rw [hq, show decide ((i : Int) < 64) = true from decide_eq_true (by omega), wrap_succ (by omega), show ((2 : Int) ^ IntKind.bits .u32 - 1) = 4294967295 from by decide]
   simp only [nn, tn, cond_true, blt_t (show i < 64 by omega), cl_getD, show Int.toNat 0 = 0 from rfl, show Int.toNat 1 = 1 from rfl, show Int.toNat 2 = 2 from rfl, show Int.toNat 3 = 3 from rfl, show Int.toNat 4 = 4 from rfl, show Int.toNat 5 = 5 from rfl, show Int.toNat 6 = 6 from rfl, show Int.toNat 7 = 7 from rfl]
   rw [T6 a4, T11 a4, T25 a4, T2 a0, T13 a0, T22 a0]
   simp only [Option.bind_some]
   rw [S1C .u32 (by decide) a4, S0C .u32 (by decide) a0, chC .u32 (by decide) a4 a5 a6, mjC .u32 (by decide) a0 a1 a2]
   simp only [sumU]
   rw [stC_mod, stC_mod2]
   rfl)
  v00 h0
theorem impl_D (rest : List UInt8 × (Int × Unit)) (v h0 : List Nat) (hv : Wd 8 v) (hh : Wd 8 h0) :
  lp_pimpl_Hash_block_4 R L (cl h0, rest) (cl v) 0 = some ((cl (loopN (stD v) 8 0 h0), rest), ()) ∧ Wd 8 (loopN (stD v) 8 0 h0) :=
 gen_for0 (fun (h : List Nat) i => lp_pimpl_Hash_block_4 R L (cl h, rest) (cl v) i) (stD v) (fun _ h => Wd 8 h) 8 (fun h => some ((cl h, rest), ()))
  (fun h _ => by
   have hq : lp_pimpl_Hash_block_4 R L (cl h, rest) (cl v) (8 : Nat) = _ := round (by kernel_rfl) (q_pimpl_Hash_block_4 R L (cl h, rest) (cl v) (8 : Nat))
   show lp_pimpl_Hash_block_4 R L (cl h, rest) (cl v) (8 : Nat) = _
   rw [hq]; rfl)
  (fun h i hi hh => by
   have hq : lp_pimpl_Hash_block_4 R L (cl h, rest) (cl v) (i : Nat) = _ := round (by kernel_rfl) (q_pimpl_Hash_block_4 R L (cl h, rest) (cl v) (i : Nat))
   refine ⟨?_, stD_W hh⟩
   show lp_pimpl_Hash_block_4 R L (cl h, rest) (cl v) (i : Nat) = _
   have a := hh.g i; have b := hv.g i
   rw [hq, show decide ((i : Int) < 8) = true from decide_eq_true (by omega), wrap_succ (by omega)]
   simp only [nn, tn, cond_true, blt_t (show i < 8 from hi), cl_getD]
   rw [wrapN (k := .u32) a, sumU, wrapN_i64 (by omega), cl_set]
   rfl)
  h0 hh
theorem take_getD (t : List UInt8) {i n : Nat} (h : i < n) : (t.take n).getD i 0 = t.getD i 0 := by
 rw [List.getD_eq_getElem?_getD, List.getD_eq_getElem?_getD, List.getElem?_take, if_pos h]
theorem loopN_congr {α : Type} {f g : Nat → α → α} : ∀ (n i : Nat) (a : α), (∀ j b, i ≤ j → j < i + n → f j b = g j b) → loopN f n i a = loopN g n i a
 | 0, _, _, _ => rfl
 | n + 1, i, a, h => by
  show loopN f n (i + 1) (f i a) = loopN g n (i + 1) (g i a)
  rw [h i a (Nat.le_refl _) (by omega), loopN_congr n (i + 1) _ (fun j b h1 h2 => h j b (by omega) (by omega))]
theorem shaB_take (k h : List Nat) (t : List UInt8) : shaB k h (t.take 64) = shaB k h t := by
 have e : loopN (stA (t.take 64)) 16 0 (List.replicate 64 0) = loopN (stA t) 16 0 (List.replicate 64 0) := loopN_congr 16 0 _ fun j b h1 h2 => by
  unfold stA wBE bt
  rw [take_getD t (by omega), take_getD t (by omega), take_getD t (by omega), take_getD t (by omega)]
 unfold shaB shaW
 rw [e]
theorem p_block (h : List Nat) (rest : List UInt8 × (Int × Unit)) (t : List UInt8) (hh : Wd 8 h) (ht : 64 ≤ t.length) :
  c_pimpl_Hash_block R (cl h, rest) t (cl kT) = some ((cl (shaB kT h t), rest), ()) := by
 have hq : c_pimpl_Hash_block R (cl h, rest) t (cl kT) = _ := call (q_pimpl_Hash_block R L (cl h, rest) t (cl kT))
 obtain ⟨a1, a2⟩ := impl_A (cl h, rest) t ht (cl kT)
 obtain ⟨b1, b2⟩ := impl_B (cl h, rest) (cl kT) _ a2
 obtain ⟨c1, c2⟩ := impl_C (cl h, rest) _ h b2 hh
 obtain ⟨d1, d2⟩ := impl_D rest _ h c2 hh
 exact hq.trans (a1.trans (b1.trans ((impl_E _ _ _ h hh).trans (c1.trans d1))))
end Go.Rf.S

end
section
namespace Go.Rf.S
set_option maxRecDepth 100000
set_option linter.unusedVariables false
set_option linter.unusedSimpArgs false
theorem shaB_W {k h : List Nat} {t : List UInt8} (hh : Wd 8 h) : Wd 8 (shaB k h t) := by
 have : ∀ (v : List Nat) (n i : Nat) (x : List Nat), Wd 8 x → Wd 8 (loopN (stD v) n i x) := by
  intro v n
  induction n with
  | zero => intro i x hx; exact hx
  | succ n ih => intro i x hx; exact ih (i + 1) _ (stD_W hx)
 exact this _ _ _ _ hh
theorem shaM_W {k : List Nat} : ∀ {n : Nat} {h : List Nat} {t : List UInt8}, Wd 8 h → t.length < 64 * (n + 1) → Wd 8 (shaM k n h t).1 ∧ (shaM k n h t).2.length = t.length % 64
 | 0, h, t, hh, ht => ⟨hh, by show t.length = _; omega⟩
 | n + 1, h, t, hh, ht => by
  unfold shaM
  split
  ·rename_i h64
   have := shaM_W (k := k) (n := n) (h := shaB k h t) (t := t.drop 64) (shaB_W hh) (by rw [List.length_drop]; omega)
   refine ⟨this.1, this.2.trans ?_⟩
   rw [List.length_drop]
   omega
  ·exact ⟨hh, by show t.length = _; omega⟩
theorem ble_r {a b : Nat} (h : a ≤ b) : Nat.ble a b = true := by rw [Nat.ble_eq]; exact h
theorem spec_more (v4 : HS) (m : Int) : ∀ (n : Nat) (h : List Nat) (t : List UInt8), Wd 8 h → t.length < 64 * (n + 1) →
  lp_spec_l01More_0 R L (cl h, (t, (m, ()))) v4 = some ((cl (shaM kT n h t).1, ((shaM kT n h t).2, (m, ()))), ()) := by
 have stop : ∀ (h : List Nat) (t : List UInt8), t.length < 64 → lp_spec_l01More_0 R L (cl h, (t, (m, ()))) v4 = some ((cl h, (t, (m, ()))), ()) := by
  intro h t ht
  have hq : lp_spec_l01More_0 R L (cl h, (t, (m, ()))) v4 = _ := round (by kernel_rfl) (q_spec_l01More_0 R L (cl h, (t, (m, ()))) v4)
  rw [hq, decide_eq_false (show ¬ ((64 : Int) ≤ ((t.length : Nat) : Int)) by omega)]
  rfl
 intro n
 induction n with
 | zero => intro h t hh ht; exact stop h t (by omega)
 | succ n ih =>
  intro h t hh ht
  unfold shaM
  split
  ·rename_i h64
   have hq : lp_spec_l01More_0 R L (cl h, (t, (m, ()))) v4 = _ := round (by kernel_rfl) (q_spec_l01More_0 R L (cl h, (t, (m, ()))) v4)
   rw [hq, decide_eq_true (show (64 : Int) ≤ ((t.length : Nat) : Int) by omega), (p_specBlock h t hh h64).1]
   simp only [cond_true, Option.bind_some]
   rw [ble_r (Nat.le_refl _), show Int.toNat 64 = 64 from rfl, ble_r h64, List.take_length]
   exact ih (shaB kT h t) (t.drop 64) (shaB_W hh) (by rw [List.length_drop]; omega)
  ·rename_i h64
   exact stop h t (by omega)
theorem impl_more (v4 : HS) (m : Int) (old : List UInt8) : ∀ (n : Nat) (h : List Nat) (t : List UInt8), Wd 8 h → t.length < 64 * (n + 1) →
  lp_impl_Hash_more_0 R L t (cl h, (old, (m, ()))) v4 (cl kT) = some ((cl (shaM kT n h t).1, ((shaM kT n h t).2, (m, ()))), ()) := by
 have stop : ∀ (h : List Nat) (t : List UInt8), t.length < 64 → lp_impl_Hash_more_0 R L t (cl h, (old, (m, ()))) v4 (cl kT) = some ((cl h, (t, (m, ()))), ()) := by
  intro h t ht
  have hq : lp_impl_Hash_more_0 R L t (cl h, (old, (m, ()))) v4 (cl kT) = _ := round (by kernel_rfl) (q_impl_Hash_more_0 R L t (cl h, (old, (m, ()))) v4 (cl kT))
  rw [hq, decide_eq_false (show ¬ ((64 : Int) ≤ ((t.length : Nat) : Int)) by omega)]
  rfl
 intro n
 induction n with
 | zero => intro h t hh ht; exact stop h t (by omega)
 | succ n ih =>
  intro h t hh ht
  unfold shaM
  split
  ·rename_i h64
   have hq : lp_impl_Hash_more_0 R L t (cl h, (old, (m, ()))) v4 (cl kT) = _ := round (by kernel_rfl) (q_impl_Hash_more_0 R L t (cl h, (old, (m, ()))) v4 (cl kT))
   rw [hq, decide_eq_true (show (64 : Int) ≤ ((t.length : Nat) : Int) by omega), show Int.toNat 64 = 64 from rfl, ble_r h64, List.drop_zero, p_block h _ (t.take 64) hh (by rw [List.length_take]; omega), shaB_take]
   simp only [cond_true, Option.bind_some]
   rw [ble_r (Nat.le_refl _), List.take_length]
   exact ih (shaB kT h t) (t.drop 64) (shaB_W hh) (by rw [List.length_drop]; omega)
  ·rename_i h64
   exact stop h t (by omega)
def hS (h : List Nat) (r : List UInt8) (m : Nat) : HS := (cl h, (r, ((m : Int), ())))
def morH (h : List Nat) (r t : List UInt8) : List Nat × List UInt8 := shaM kT ((r ++ t).length / 64) h (r ++ t)
theorem fuel_ok (n : Nat) : n < 64 * (n / 64 + 1) := by omega
theorem p_specMore (h : List Nat) (r t : List UInt8) (m : Nat) (hh : Wd 8 h) (hr : r.length ≤ 1024) (ht : t.length ≤ 549755813888) (hm : m ≤ 549755813888) :
  c_spec_l01More R (hS h r m) t = some (hS (morH h r t).1 (morH h r t).2 (m + t.length), ()) := by
 have hq : c_spec_l01More R (hS h r m) t = _ := call (q_spec_l01More R L (hS h r m) t)
 rw [hq]
 unfold hS
 simp only
 rw [lenOK_t (by omega), sumC (by simp only [kmax]; omega)]
 simp only [cond_true]
 exact spec_more _ _ _ h (r ++ t) hh (fuel_ok _)
theorem p_more (h : List Nat) (r t : List UInt8) (m : Nat) (hh : Wd 8 h) (hr : r.length ≤ 1024) (ht : t.length ≤ 549755813888) (hm : m ≤ 549755813888) :
  c_impl_Hash_more R (hS h r m) t = some (hS (morH h r t).1 (morH h r t).2 (m + t.length), ()) := by
 have hq : c_impl_Hash_more R (hS h r m) t = _ := call (q_impl_Hash_more R L (hS h r m) t)
 rw [hq, p_constants]
 unfold hS
 simp only [Option.bind_some]
 rw [lenOK_t (by omega), sumC (by simp only [kmax]; omega)]
 simp only [cond_true]
 exact impl_more _ _ _ _ h (r ++ t) hh (fuel_ok _)
theorem morH_W {h : List Nat} {r t : List UInt8} (hh : Wd 8 h) : Wd 8 (morH h r t).1 ∧ (morH h r t).2.length = (r ++ t).length % 64 := shaM_W hh (fuel_ok _)
theorem cl_ub (l : List Nat) : List.map (fun n : Int => UInt8.ofNat (Int.toNat n)) (cl l) = ub l := by
 unfold cl ub
 rw [List.map_map]
 rfl
theorem cl_app (a b : List Nat) : cl a ++ cl b = cl (a ++ b) := by
 unfold cl; rw [List.map_append]
def padN (m : Nat) : Nat := (119 - m % 64) % 64
def lenB (b : Nat) : List Nat := [b / 2 ^ 56 % 256, b / 2 ^ 48 % 256, b / 2 ^ 40 % 256, b / 2 ^ 32 % 256, b / 2 ^ 24 % 256, b / 2 ^ 16 % 256, b / 2 ^ 8 % 256, b / 2 ^ 0 % 256]
def padL (m : Nat) : List Nat := 128 :: List.replicate (padN m) 0
def padT (m : Nat) : List UInt8 := ub (padL m ++ lenB (8 * m))
theorem padT_len (m : Nat) : (padT m).length = padN m + 9 := by
 unfold padT ub padL lenB
 rw [List.length_map, List.length_append, List.length_cons, List.length_replicate]
 rfl
def be4 (x : Nat) : List Nat := [x / 2 ^ 24 % 256, x / 2 ^ 16 % 256, x / 2 ^ 8 % 256, x % 256]
def outH (h : List Nat) : List Nat := loopN (fun i o => o ++ be4 (h.getD i 0)) 8 0 []
theorem tmodN (a b : Nat) : Int.tmod (a : Int) (b : Int) = ((a % b : Nat) : Int) := rfl
theorem spec_pad (v1 : HS) (v3 : Int) (m : Nat) (hv : v1.2.2.1 = (m : Int)) (hm : m ≤ 549755813888) : ∀ (k j : Nat), j + k = padN m →
  lp_spec_l01Sum_0 R L v1 v3 (cl (128 :: List.replicate j 0)) = lp_spec_l01Sum_1 R L v1 v3 (cl (padL m)) 7
 | 0, j, hj => by
  have hq : lp_spec_l01Sum_0 R L v1 v3 (cl (128 :: List.replicate j 0)) = _ := round (by kernel_rfl) (q_spec_l01Sum_0 R L v1 v3 (cl (128 :: List.replicate j 0)))
  have hp : padN m = (119 - m % 64) % 64 := rfl
  rw [hq, hv, cl_len, List.length_cons, List.length_replicate, sumC (by simp only [kmax]; omega), show Int.tmod ((m + (j + 1) : Nat) : Int) 64 = (((m + (j + 1)) % 64 : Nat) : Int) from tmodN _ 64,
   show eqI (((m + (j + 1)) % 64 : Nat) : Int) 56 = true from by rw [eqI_iff]; exact decide_eq_true (by omega)]
  have : j = padN m := by omega
  subst this
  rfl
 | k + 1, j, hj => by
  have hq : lp_spec_l01Sum_0 R L v1 v3 (cl (128 :: List.replicate j 0)) = _ := round (by kernel_rfl) (q_spec_l01Sum_0 R L v1 v3 (cl (128 :: List.replicate j 0)))
  have hp : padN m = (119 - m % 64) % 64 := rfl
  rw [hq, hv, cl_len, List.length_cons, List.length_replicate, sumC (by simp only [kmax]; omega), show Int.tmod ((m + (j + 1) : Nat) : Int) 64 = (((m + (j + 1)) % 64 : Nat) : Int) from tmodN _ 64,
   show eqI (((m + (j + 1)) % 64 : Nat) : Int) 56 = false from by rw [eqI_iff]; exact decide_eq_false (by omega)]
  simp only [Bool.not_false, cond_true]
  rw [lenOK_t (by simp only [List.length_cons, List.length_nil]; omega)]
  simp only [cond_true]
  have e : cl (128 :: List.replicate j 0) ++ [(0 : Int)] = cl (128 :: List.replicate (j + 1) 0) := by
   rw [show [(0 : Int)] = cl [0] from rfl, cl_app, List.replicate_succ', List.cons_append]
  rw [e]
  exact spec_pad v1 v3 m hv hm k (j + 1) (by omega)
theorem spec_len (v1 : HS) (b : Nat) (hb : b < 9223372036854775808) (p : List Nat) (hp : p.length ≤ 100) (j : Nat) (hj : j < 8) :
  lp_spec_l01Sum_1 R L v1 (b : Int) (cl p) (j : Int) = lp_spec_l01Sum_1 R L v1 (b : Int) (cl (p ++ [b / 2 ^ (8 * j) % 256])) (IntKind.wrap .i64 ((j : Int) - 1)) := by
 have hq : lp_spec_l01Sum_1 R L v1 (b : Int) (cl p) (j : Int) = _ := round (by kernel_rfl) (q_spec_l01Sum_1 R L v1 (b : Int) (cl p) (j : Int))
 have e8 : IntKind.wrap .i64 ((8 : Int) * (j : Int)) = ((8 * j : Nat) : Int) := by rw [wrap_id (by omega) (by omega)]; omega
 rw [hq, decide_eq_true (show (0 : Int) ≤ (j : Int) by omega), e8, decide_eq_false (show ¬ (((8 * j : Nat) : Int) < 0) by omega), tn, show Min.min (8 * j) (IntKind.bits .i64) = 8 * j from Nat.min_eq_left (by simp only [IntKind.bits]; omega), fdivN, wrapN_u8,
  lenOK_t (by rw [cl_len]; simp only [List.length_cons, List.length_nil]; omega)]
 simp only [cond_true, cond_false]
 rw [show [((b / 2 ^ (8 * j) % 256 : Nat) : Int)] = cl [b / 2 ^ (8 * j) % 256] from rfl, cl_app]
theorem impl_len (v1 : HS) (b : Nat) (hb : b < 9223372036854775808) (p : List Nat) (hp : p.length ≤ 100) (j : Nat) (hj : j < 8) :
  lp_impl_Hash_sum_0 R L v1 (b : Int) (ub p) (j : Int) = lp_impl_Hash_sum_0 R L v1 (b : Int) (ub (p ++ [b / 2 ^ (8 * j) % 256])) (IntKind.wrap .i64 ((j : Int) - 1)) := by
 have hq : lp_impl_Hash_sum_0 R L v1 (b : Int) (ub p) (j : Int) = _ := round (by kernel_rfl) (q_impl_Hash_sum_0 R L v1 (b : Int) (ub p) (j : Int))
 have e8 : IntKind.wrap .i64 ((8 : Int) * (j : Int)) = ((8 * j : Nat) : Int) := by rw [wrap_id (by omega) (by omega)]; omega
 have hl : (ub p).length = p.length := List.length_map _
 rw [hq, decide_eq_true (show (0 : Int) ≤ (j : Int) by omega), e8, decide_eq_false (show ¬ (((8 * j : Nat) : Int) < 0) by omega), tn, show Min.min (8 * j) (IntKind.bits .i64) = 8 * j from Nat.min_eq_left (by simp only [IntKind.bits]; omega), fdivN, wrapN_u8,
  lenOK_t (by rw [hl, List.length_map]; simp only [List.length_cons, List.length_nil]; omega)]
 simp only [cond_true, cond_false]
 rw [show [((b / 2 ^ (8 * j) % 256 : Nat) : Int)] = cl [b / 2 ^ (8 * j) % 256] from rfl, cl_ub]
 unfold ub
 rw [List.map_append]
theorem spec_lens (v1 : HS) (b : Nat) (hb : b < 9223372036854775808) (p : List Nat) (hp : p.length ≤ 64) :
  lp_spec_l01Sum_1 R L v1 (b : Int) (cl p) 7 = (c_spec_l01More R v1 (ub (p ++ lenB b))).bind fun r0 => lp_spec_l01Sum_2 R L r0.1 ([] : List Int) 0 := by
 have st := fun (q : List Nat) (hq : q.length ≤ 100) (j : Nat) hj => spec_len v1 b hb q hq j hj
 have e : lp_spec_l01Sum_1 R L v1 (b : Int) (cl p) 7 = lp_spec_l01Sum_1 R L v1 (b : Int) (cl (p ++ lenB b)) (-1) := by
  have d : ∀ j : Nat, j < 8 → IntKind.wrap .i64 (((j + 1 : Nat) : Int) - 1) = (j : Int) := fun j hj => subC (c := 1) (by omega) (by omega)
  have len : ∀ (q : List Nat) (x : Nat), (q ++ [x]).length = q.length + 1 := fun q x => by simp
  show lp_spec_l01Sum_1 R L v1 (b : Int) (cl p) ((7 : Nat) : Int) = _
  rw [st p (by omega) 7 (by decide), d 6 (by decide), st _ (by simp only [len]; omega) 6 (by decide), d 5 (by decide), st _ (by simp only [len]; omega) 5 (by decide), d 4 (by decide), st _ (by simp only [len]; omega) 4 (by decide), d 3 (by decide),
   st _ (by simp only [len]; omega) 3 (by decide), d 2 (by decide), st _ (by simp only [len]; omega) 2 (by decide), d 1 (by decide), st _ (by simp only [len]; omega) 1 (by decide), d 0 (by decide), st _ (by simp only [len]; omega) 0 (by decide)]
  simp only [List.append_assoc]
  rfl
 have hq : lp_spec_l01Sum_1 R L v1 (b : Int) (cl (p ++ lenB b)) (-1) = _ := round (by kernel_rfl) (q_spec_l01Sum_1 R L v1 (b : Int) (cl (p ++ lenB b)) (-1))
 rw [e, hq, show decide ((0 : Int) ≤ -1) = false from by decide, cl_ub]
 rfl
theorem impl_lens (v1 : HS) (b : Nat) (hb : b < 9223372036854775808) (p : List Nat) (hp : p.length ≤ 64) :
  lp_impl_Hash_sum_0 R L v1 (b : Int) (ub p) 7 = (c_impl_Hash_more R v1 (ub (p ++ lenB b))).bind fun r0 => lp_impl_Hash_sum_1 R L ([] : List Int) r0.1.1 0 := by
 have st := fun (q : List Nat) (hq : q.length ≤ 100) (j : Nat) hj => impl_len v1 b hb q hq j hj
 have e : lp_impl_Hash_sum_0 R L v1 (b : Int) (ub p) 7 = lp_impl_Hash_sum_0 R L v1 (b : Int) (ub (p ++ lenB b)) (-1) := by
  have d : ∀ j : Nat, j < 8 → IntKind.wrap .i64 (((j + 1 : Nat) : Int) - 1) = (j : Int) := fun j hj => subC (c := 1) (by omega) (by omega)
  have len : ∀ (q : List Nat) (x : Nat), (q ++ [x]).length = q.length + 1 := fun q x => by simp
  show lp_impl_Hash_sum_0 R L v1 (b : Int) (ub p) ((7 : Nat) : Int) = _
  rw [st p (by omega) 7 (by decide), d 6 (by decide), st _ (by simp only [len]; omega) 6 (by decide), d 5 (by decide), st _ (by simp only [len]; omega) 5 (by decide), d 4 (by decide), st _ (by simp only [len]; omega) 4 (by decide), d 3 (by decide),
   st _ (by simp only [len]; omega) 3 (by decide), d 2 (by decide), st _ (by simp only [len]; omega) 2 (by decide), d 1 (by decide), st _ (by simp only [len]; omega) 1 (by decide), d 0 (by decide), st _ (by simp only [len]; omega) 0 (by decide)]
  simp only [List.append_assoc]
  rfl
 have hq : lp_impl_Hash_sum_0 R L v1 (b : Int) (ub (p ++ lenB b)) (-1) = _ := round (by kernel_rfl) (q_impl_Hash_sum_0 R L v1 (b : Int) (ub (p ++ lenB b)) (-1))
 rw [e, hq, show decide ((0 : Int) ≤ -1) = false from by decide]
 rfl
end Go.Rf.S

end
