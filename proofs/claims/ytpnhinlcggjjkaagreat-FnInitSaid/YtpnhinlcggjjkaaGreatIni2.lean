/- What the program computes, in plain words: part 5. No condition. -/
import Derived.Test.YtpnhinlcggjjkaaGreatProg
import Derived.KernelRfl
import Derived.Test.YtpnhinlcggjjkaaGreatRfC
import Derived.Test.YtpnhinlcggjjkaaGreatIni1
set_option linter.unusedVariables false
set_option linter.unusedSimpArgs false
section
open Go Go.Rf
set_option maxRecDepth 100000
namespace Go.Rf.S
def mvD (l : List (Nat × Nat)) (d : List (Nat × List Nat)) : List (Nat × Nat) := l ++ d.flatMap fun x => x.2.map fun s => (4000000 + x.1, s)
abbrev t0 : Ty := (.pair .bool .unit)
abbrev t1 : Ty := (.sl (.int .i64))
abbrev t2 : Ty := (.pair t1 (.pair (.int .i64) (.pair .bool .unit)))
abbrev t3 : Ty := (.pair .bool (.pair (.ptr t2) .unit))
abbrev t4 : Ty := (.pair (.int .i64) (.pair (.int .i64) (.pair (.int .i64) .unit)))
abbrev t5 : Ty := (.sl (.sl t4))
abbrev t6 : Ty := (.pair t1 (.pair (.sl t4) (.pair t5 .unit)))
abbrev t7 : Ty := (.pair t1 (.pair t6 .unit))
abbrev t8 : Ty := (.pair (.int .i64) (.pair t1 .unit))
abbrev t9 : Ty := (.pair t7 (.pair (.sl t8) (.pair .bool .unit)))
abbrev t10 : Ty := (.pair (.sl t4) (.pair .bool .unit))
abbrev t11 : Ty := (.pair (.int .i64) (.pair (.int .i64) (.pair (.int .i64) (.pair (.int .i64) (.pair .str (.pair .str (.pair .str .unit)))))))
abbrev t12 : Ty := (.pair (.int .i64) (.pair .str .unit))
abbrev t13 : Ty := (.pair (.sl .str) (.pair (.sl t12) .unit))
abbrev t14 : Ty := (.pair .str (.pair t11 (.pair t13 (.pair .bool (.pair .bool .unit)))))
abbrev t15 : Ty := (.pair t14 (.pair (.sl t8) (.pair (.int .i64) .unit)))
abbrev t16 : Ty := (.pair (.sl t4) .unit)
abbrev t17 : Ty := (.pair (.sl t16) (.pair t1 (.pair .bool .unit)))
abbrev t18 : Ty := (.pair t13 (.pair t11 (.pair (.sl t8) (.pair (.int .i64) .unit))))
abbrev t19 : Ty := (.pair t14 (.pair (.int .i64) .unit))
abbrev t20 : Ty := (.sl (.int .u8))
abbrev t21 : Ty := (.pair t20 (.pair (.int .i64) (.pair (.int .i64) .unit)))
abbrev t22 : Ty := (.pair (.ptr t21) .unit)
abbrev t23 : Ty := (.pair (.int .i64) (.pair (.ptr t21) .unit))
abbrev t24 : Ty := (.pair .str (.pair (.ptr t21) .unit))
abbrev t25 : Ty := (.pair .str .unit)
abbrev t26 : Ty := (.pair t1 (.pair (.ptr t21) .unit))
abbrev t27 : Ty := (.pair t1 .unit)
abbrev t28 : Ty := (.pair t7 (.pair (.sl t8) (.pair t1 .unit)))
abbrev t29 : Ty := (.pair t14 .unit)
abbrev t30 : Ty := (.pair (.int .i64) (.pair (.int .i64) .unit))
abbrev t31 : Ty := (.pair (.sl t30) (.pair (.int .i64) .unit))
abbrev t32 : Ty := (.pair (.int .i64) .unit)
abbrev t33 : Ty := (.ptr (.int .i64))
abbrev t34 : Ty := (.pair (.ptr t2) .unit)
abbrev t35 : Ty := (.pair (.int .i64) (.pair (.ptr t2) .unit))
abbrev t36 : Ty := (.pair t1 (.pair (.ptr t2) .unit))
abbrev t37 : Ty := (.pair (.sl t4) (.pair (.ptr t2) .unit))
abbrev t38 : Ty := (.pair (.sl t30) .unit)
abbrev t39 : Ty := (.pair t20 .unit)
abbrev t40 : Ty := (.arr 8 (.int .i64))
abbrev t41 : Ty := (.pair t40 .unit)
abbrev t42 : Ty := (.pair t40 (.pair .str (.pair (.int .i64) .unit)))
abbrev t43 : Ty := (.pair t42 .unit)
abbrev t44 : Ty := (.arr 64 (.int .i64))
abbrev t45 : Ty := (.pair t44 .unit)
abbrev t46 : Ty := (.arr 64 (.int .u32))
abbrev t47 : Ty := (.pair t46 .unit)
abbrev t48 : Ty := (.pair (.int .u32) .unit)
abbrev t49 : Ty := (.pair (.ptr t42) .unit)
abbrev t50 : Ty := (.pair (.int .u32) (.pair (.int .u32) (.pair (.int .u32) (.pair (.int .u32) .unit))))
abbrev t51 : Ty := (.arr 4 (.int .i64))
abbrev t52 : Ty := (.pair t51 .unit)
abbrev t53 : Ty := (.arr 16 (.int .i64))
abbrev t54 : Ty := (.pair t53 .unit)
abbrev t55 : Ty := (.arr 5 (.int .i64))
abbrev t56 : Ty := (.pair t55 .unit)
abbrev t57 : Ty := (.pair t13 .unit)
abbrev t58 : Ty := (.arr 5 (.int .u64))
abbrev t59 : Ty := (.pair t58 .unit)
abbrev t60 : Ty := (.pair (.sl .str) .unit)
abbrev t61 : Ty := (.pair (.sl t12) .unit)
abbrev t62 : Ty := (.pair t6 .unit)
abbrev t63 : Ty := (.pair t6 (.pair (.int .i64) .unit))
abbrev t64 : Ty := (.pair t7 (.pair (.int .i64) .unit))
abbrev t65 : Ty := (.sl (.sl .str))
abbrev t66 : Ty := (.pair t65 .unit)
abbrev t67 : Ty := (.pair .str (.pair .bool .unit))
abbrev t68 : Ty := (.pair (.int .i64) (.pair .bool .unit))
abbrev d69 : Type := (Bool × Unit)
abbrev d70 : Type := (List Int × (Int × (Bool × Unit)))
abbrev d71 : Type := (Bool × (d70 × Unit))
abbrev d72 : Type := (Int × (Int × (Int × Unit)))
abbrev d73 : Type := (List Int × (List d72 × (List (List d72) × Unit)))
abbrev d74 : Type := (List Int × (d73 × Unit))
abbrev d75 : Type := (Int × (List Int × Unit))
abbrev d76 : Type := (d74 × (List d75 × (Bool × Unit)))
abbrev d77 : Type := (List d72 × (Bool × Unit))
abbrev d78 : Type := (Int × (Int × (Int × (Int × (List UInt8 × (List UInt8 × (List UInt8 × Unit)))))))
abbrev d79 : Type := (Int × (List UInt8 × Unit))
abbrev d80 : Type := (List (List UInt8) × (List d79 × Unit))
abbrev d81 : Type := (List UInt8 × (d78 × (d80 × (Bool × (Bool × Unit)))))
abbrev d82 : Type := (d81 × (List d75 × (Int × Unit)))
abbrev d83 : Type := (List d72 × Unit)
abbrev d84 : Type := (List d83 × (List Int × (Bool × Unit)))
abbrev d85 : Type := (d80 × (d78 × (List d75 × (Int × Unit))))
abbrev d86 : Type := (d81 × (Int × Unit))
abbrev d87 : Type := (List Int × (Int × (Int × Unit)))
abbrev d88 : Type := (d87 × Unit)
abbrev d89 : Type := (Int × (d87 × Unit))
abbrev d90 : Type := (List UInt8 × (d87 × Unit))
abbrev d91 : Type := (List UInt8 × Unit)
abbrev d92 : Type := (List Int × (d87 × Unit))
abbrev d93 : Type := (List Int × Unit)
abbrev d94 : Type := (d74 × (List d75 × (List Int × Unit)))
abbrev d95 : Type := (d81 × Unit)
abbrev d96 : Type := (Int × (Int × Unit))
abbrev d97 : Type := (List d96 × (Int × Unit))
abbrev d98 : Type := (Int × Unit)
abbrev d99 : Type := (d70 × Unit)
abbrev Bk5 : Type := (Int × (d70 × Unit))
abbrev Bi8 : Type := (List Int × (d70 × Unit))
abbrev Bh9 : Type := (List d72 × (d70 × Unit))
abbrev Bf8 : Type := (List d96 × Unit)
abbrev AA9 : Type := (List Int × (List UInt8 × (Int × Unit)))
abbrev A6p : Type := (AA9 × Unit)
abbrev Bi0 : Type := (Int × (Int × (Int × (Int × Unit))))
abbrev A9Q : Type := (d80 × Unit)
abbrev A9S : Type := (List (List UInt8) × Unit)
abbrev Bk1 : Type := (List d79 × Unit)
abbrev Bk6 : Type := (d73 × Unit)
abbrev Bi3 : Type := (d73 × (Int × Unit))
abbrev Bi4 : Type := (d74 × (Int × Unit))
abbrev Bc5 : Type := (List (List (List UInt8)) × Unit)
abbrev Bj1 : Type := (List UInt8 × (Bool × Unit))
abbrev Bl0 : Type := (Int × (Bool × Unit))
abbrev Bk4 : Ty := (.arr 12 .bool)
abbrev Bf6 : Ty := (.arr 8 (.int .u32))
abbrev Bk0 : Ty := (.arr 2 (.int .i64))
abbrev Bk3 : Ty := (.arr 2 Bk0)
abbrev A9G : Ty := (.arr 16 (.int .u32))
noncomputable def BT7 : List (Nat × FCfg) := [
(148, ⟨[.ro (.int .i64)], 1, t0, .sh, [0, 2], [(1, 2)]⟩),
(108, ⟨[.io (.ptr t2) (.own (.pr (.own .sh) .sh)) (.own .sh) 0 []], 1, t3, (.pr .sh (.pr (.own .sh) .sh)), [0, 2], [(1, 17), (1, 0), (1, 6), (1, 10)]⟩),
(62, ⟨[.ro .str], 3, t9, (.pr (.pr (.own .sh) (.pr (.pr (.own .sh) (.pr (.own .sh) (.pr (.own (.own .sh)) .sh))) .sh)) (.pr (.own (.pr .sh (.pr (.own .sh) .sh))) .sh)), [0, 2, 3, 4, 5, 6, 7, 8, 9, 23, 24, 25, 50], mvD [(12, 2), (12, 3), (12, 4), (11, 1), (11, 2), (11, 3), (1, 2), (2, 5), (2, 7), (3, 3), (3, 5), (7, 2), (8, 6), (8, 7), (8, 8), (8, 9), (2, 0), (2, 2), (3, 0), (8, 2), (8, 3), (11, 0)] [(34, [0, 3, 4, 6, 9, 25, 50])]⟩),
(63, ⟨[.ro .str], 2, t10, (.pr (.own .sh) .sh), [0, 2, 3, 4, 5], [(3, 3), (3, 4), (1, 2), (2, 2)]⟩),
(28, ⟨[.ro t14], 3, t9, (.pr (.pr (.own .sh) (.pr (.pr (.own .sh) (.pr (.own .sh) (.pr (.own (.own .sh)) .sh))) .sh)) (.pr (.own (.pr .sh (.pr (.own .sh) .sh))) .sh)), [0, 1, 2, 3, 4, 5, 6, 7, 8, 9, 10, 11, 12, 13, 14, 15, 16, 24, 54, 59, 60, 61, 91], mvD [(3, 1), (3, 2), (3, 3), (8, 1), (8, 2), (8, 3), (18, 4), (18, 5), (18, 6), (15, 1), (15, 2), (15, 3), (1, 2), (5, 13), (5, 14), (6, 7), (6, 8), (6, 9), (12, 18), (12, 19), (13, 5), (13, 6), (16, 6), (3, 0), (8, 0), (15, 0)] [(116, [0, 3, 4, 7, 8, 11, 12, 13, 14, 15, 16, 24, 54, 61, 91])]⟩),
(8, ⟨[.ro t14], 3, t15, (.pr (.pr .sh (.pr .sh (.pr (.pr (.own .sh) (.pr (.own .sh) .sh)) .sh))) (.pr (.own (.pr .sh (.pr (.own .sh) .sh))) .sh)), [0, 1, 2, 3, 4, 5, 7, 8, 11, 16, 27], [(2, 1), (2, 2), (2, 3), (5, 3), (5, 4), (5, 5), (9, 3), (9, 4), (9, 5), (8, 2), (8, 3), (8, 4), (3, 2), (6, 7), (6, 8), (6, 9), (2, 0)]⟩),
(112, ⟨[.ro .str], 3, t17, (.pr (.own (.pr (.own .sh) .sh)) (.pr (.own .sh) .sh)), [0, 2, 3, 4, 5, 6, 7, 8, 14, 15, 16, 18, 19, 20, 46], mvD [(15, 2), (15, 3), (15, 4), (14, 0), (14, 1), (14, 2), (1, 2), (2, 2), (9, 8), (9, 9), (9, 12), (11, 3), (11, 4), (9, 2), (9, 4), (9, 6)] [(76, [0, 2, 3, 4, 8, 16, 18, 19, 20, 46]), (30, [0, 2, 3, 4, 16, 20, 46])]⟩),
(64, ⟨[.ro t14], 3, t17, (.pr (.own (.pr (.own .sh) .sh)) (.pr (.own .sh) .sh)), [0, 1, 2, 3, 4, 5, 6, 7, 8, 9, 10, 25, 31, 45], [(5, 0), (5, 1), (5, 2), (8, 0), (8, 1), (8, 2), (12, 5), (12, 6), (12, 7), (11, 0), (11, 1), (11, 2), (2, 2), (9, 12), (9, 13)]⟩),
(30, ⟨[.ro t14], 4, t18, .sh, [0, 1, 2, 3, 4, 5, 6, 7, 9, 10, 11, 12, 13, 15, 16, 17, 18, 19, 23, 30, 45, 55, 103, 104, 105, 106], mvD [(3, 3), (3, 4), (3, 5), (3, 6), (5, 2), (5, 3), (5, 4), (5, 5), (8, 2), (8, 3), (8, 4), (8, 5), (11, 2), (11, 3), (11, 4), (11, 5), (25, 3), (25, 4), (25, 5), (25, 6), (1, 2), (6, 7), (6, 8), (6, 9), (9, 6), (9, 7), (9, 8), (12, 9), (12, 10), (12, 11), (14, 13), (17, 9), (18, 3), (23, 8), (3, 0), (3, 1), (5, 0), (5, 1), (8, 0), (8, 1), (11, 0), (11, 1)] [(94, [0, 1, 4, 5, 6, 7, 9, 10, 11, 12, 16, 18, 19, 23, 30, 45, 55, 106])]⟩),
(9, ⟨[.ro t14], 3, t15, (.pr (.pr .sh (.pr .sh (.pr (.pr (.own .sh) (.pr (.own .sh) .sh)) .sh))) .sh), [0, 1, 2, 3, 4, 5, 6, 7, 8, 11, 21], [(2, 1), (2, 2), (2, 3), (5, 4), (5, 5), (5, 6), (7, 2), (7, 3), (7, 4), (3, 9), (3, 10), (3, 11), (3, 12), (6, 4), (2, 0)]⟩),
(12, ⟨[.ro t14], 2, t19, (.pr (.pr .sh (.pr .sh (.pr (.pr (.own .sh) (.pr (.own .sh) .sh)) .sh))) .sh), [0, 1, 2, 3, 6, 7, 8, 13, 18, 23, 42], [(2, 1), (2, 2), (4, 2), (4, 3), (6, 2), (6, 3), (8, 2), (8, 3), (11, 2), (11, 3), (15, 1), (15, 2), (9, 7), (9, 8), (9, 9), (12, 3), (2, 0)]⟩),
(3, ⟨[.ro t20, .ro t20], 1, t0, .sh, [0, 1, 4, 5, 6, 7, 8, 9, 11, 12, 13, 16, 17, 18, 19, 20, 22, 30], [(2, 0), (12, 55)]⟩),
(16, ⟨[.ro t20], 1, t22, (.pr (.own .sh) .sh), [0, 2], [(1, 6), (1, 4), (1, 5)]⟩),
(79, ⟨[.io (.ptr t21) (.own .sh) (.own .sh) 0 []], 1, t23, (.pr .sh (.pr (.own .sh) .sh)), [0, 2, 19, 59], [(4, 12), (6, 0), (8, 6), (2, 0), (2, 4), (3, 0), (3, 1), (3, 6), (3, 10), (4, 0), (4, 4), (7, 0), (7, 1)]⟩),
(43, ⟨[.io (.ptr t21) (.own .sh) (.own .sh) 0 [], .ro (.int .i64)], 1, t23, (.pr .sh (.pr (.own .sh) .sh)), [0, 1, 4, 5, 6, 7, 9, 11], [(2, 0), (4, 4), (8, 9), (5, 2), (6, 2), (7, 2)]⟩),
(42, ⟨[.io (.ptr t21) (.own .sh) (.own .sh) 0 [], .ro (.int .i64)], 1, t24, (.pr .sh (.pr (.own .sh) .sh)), [0, 1, 4, 5, 6, 10], mvD [(6, 2), (1, 1), (5, 6)] [(15, [4, 10])]⟩),
(17, ⟨[.io (.ptr t21) (.own .sh) (.own .sh) 0 []], 1, t24, (.pr .sh (.pr (.own .sh) .sh)), [0, 2], [(1, 2)]⟩),
(4, ⟨[.ro t20], 1, t25, .sh, [0, 2], [(1, 3)]⟩),
(18, ⟨[.io (.ptr t21) (.own .sh) (.own .sh) 0 [], .ro (.int .i64)], 1, t26, (.pr (.own .sh) (.pr (.own .sh) .sh)), [0, 1, 4, 5, 6, 10], mvD [(6, 1), (1, 1), (5, 3), (5, 5)] [(15, [4, 10])]⟩),
(5, ⟨[.ro t20, .ro (.int .i64)], 1, t27, (.pr (.own .sh) .sh), [0, 1, 4], [(1, 4)]⟩),
(7, ⟨[.ro .str, .ro t1], 2, t19, (.pr (.pr .sh (.pr .sh (.pr (.pr (.own .sh) (.pr (.own .sh) .sh)) .sh))) .sh), [0, 1, 4, 5, 13, 22, 26], [(2, 1), (2, 2), (4, 1), (4, 2), (7, 3), (7, 4), (6, 1), (6, 2), (2, 0), (4, 0), (6, 0)]⟩),
(65, ⟨[.ro t7, .ro (.sl t16), .ro t1], 3, t28, .sh, [], []⟩),
(31, ⟨[.ro t14, .ro (.int .i64)], 1, t29, (.pr (.pr .sh (.pr .sh (.pr (.pr (.own .sh) (.pr (.own .sh) .sh)) .sh))) .sh), [0, 1, 2, 4, 6], [(3, 2), (2, 2)]⟩),
(11, ⟨[.ro t7], 2, t31, (.pr (.own .sh) .sh), [0, 1, 2, 3, 6], [(3, 2), (3, 3), (2, 0), (2, 1)]⟩),
(77, ⟨[.ro (.sl .str), .ro (.sl .str)], 1, t0, .sh, [0, 1, 4, 5, 10, 14, 25], [(2, 0), (8, 0), (7, 0)]⟩),
(37, ⟨[.ro t13, .ro t13], 1, t0, .sh, [0, 1, 2, 3, 4, 5, 20, 25, 38], [(2, 0), (8, 0), (7, 0)]⟩),
(13, ⟨[.ro t14, .ro t14], 1, t0, .sh, [0, 1, 2, 3, 4], [(1, 33)]⟩),
(39, ⟨[.ro (.int .i64), .ro (.int .i64), .ro (.int .i64)], 1, t0, .sh, [0, 1, 2, 6], [(1, 8)]⟩),
(72, ⟨[.ro (.int .i64)], 1, t0, .sh, [0, 2], [(1, 2)]⟩),
(157, ⟨[.ro (.int .i64), .ro (.ptr .fn)], 1, t0, .sh, [0, 1, 3], [(1, 4)]⟩),
(199, ⟨[.ro t1, .ro .fn], 1, t32, .sh, [0, 1, 4, 5, 7, 8, 9, 16], [(7, 0), (5, 1)]⟩),
(156, ⟨[.ro t1, .ro .fn], 1, t0, .sh, [0, 1, 4], [(1, 4)]⟩),
(116, ⟨[.ro t1, .ro .fn], 1, t0, .sh, [0, 1, 3, 4], [(1, 4)]⟩),
(117, ⟨[.ro (.int .i64)], 1, t0, .sh, [0, 2], [(1, 2)]⟩),
(201, ⟨[.io t1 (.own .sh) (.own .sh) 0 []], 0, t27, (.pr (.own .sh) .sh), [], []⟩),
(161, ⟨[.ro (.int .i64)], 1, t27, (.pr (.own .sh) .sh), [0, 2, 3, 4, 15], mvD [(7, 1), (4, 4)] [(30, [0, 2, 15])]⟩),
(192, ⟨[.ro t1, .ro (.int .i64)], 1, t32, .sh, [0, 1, 4, 5, 7, 8, 9, 16], mvD [(7, 0), (5, 1)] [(25, [4, 5, 9, 16])]⟩),
(160, ⟨[.ro t1, .ro (.int .i64)], 1, t0, .sh, [0, 1, 4], [(1, 4)]⟩),
(120, ⟨[.ro (.int .i64), .ro (.int .i64)], 1, t0, .sh, [0, 1, 4], [(1, 4)]⟩),
(119, ⟨[.ro t4, .ro t33], 1, t0, .sh, [0, 1, 2, 3], [(1, 9)]⟩),
(159, ⟨[.ro t4, .ro (.ptr .fn)], 1, t0, .sh, [0, 1, 2, 3], [(1, 4)]⟩),
(200, ⟨[.ro (.sl t4), .ro .fn], 1, t32, .sh, [0, 1, 4, 5, 7, 8, 9, 16], mvD [(7, 0), (5, 1)] [(25, [4, 5, 9, 16])]⟩),
(158, ⟨[.ro (.sl t4), .ro .fn], 1, t0, .sh, [0, 1, 4], [(1, 4)]⟩),
(118, ⟨[.ro (.sl t4), .ro .fn], 1, t0, .sh, [0, 1, 3, 4], [(1, 4)]⟩),
(162, ⟨[.ro (.sl t4)], 1, t16, (.pr (.own .sh) .sh), [900000, 0, 2, 4], [(3, 3), (2, 0), (3, 0)]⟩),
(202, ⟨[.mv (.sl t4) (.own .sh), .ro (.int .i64)], 1, t16, (.pr (.own .sh) .sh), [], []⟩),
(163, ⟨[.ro t5], 1, t16, (.pr (.own .sh) .sh), [0, 2, 3, 5, 6, 8, 9, 10, 11, 12, 20, 25, 26, 27, 28], mvD [(15, 1), (9, 2), (13, 3)] [(39, [2, 5, 6, 8, 12, 20, 25, 26, 27, 28]), (54, [0, 2, 3, 5, 8, 9, 10, 11, 12, 20, 28])]⟩),
(121, ⟨[.ro t6], 1, t16, (.pr (.own .sh) .sh), [0, 1, 2], [(1, 7)]⟩),
(164, ⟨[.ro (.int .i64)], 1, t0, .sh, [0, 2], [(1, 2)]⟩),
(165, ⟨[.ro (.int .i64)], 1, t0, .sh, [0, 2], [(1, 2)]⟩),
(122, ⟨[.ro t4], 1, t0, .sh, [0, 1, 2], [(1, 13)]⟩),
(73, ⟨[.ro t6], 1, t0, .sh, [0, 1, 2, 3, 4, 5, 7, 23, 25, 26, 27, 28, 40, 43, 44, 45, 46, 68], mvD [(2, 0), (7, 0), (17, 0), (14, 0)] [(35, [0, 2, 3, 4, 5, 7, 23, 28, 40, 43, 44, 45, 46, 68]), (87, [0, 2, 3, 4, 7, 23, 25, 26, 27, 28, 40, 46, 68])]⟩),
(104, ⟨[.ro .str, .ro (.int .i64)], 1, t34, (.pr (.own (.pr (.own .sh) .sh)) .sh), [0, 1, 4, 9], [(3, 4), (2, 2), (3, 2), (3, 3), (2, 0), (2, 1)]⟩),
(107, ⟨[.io (.ptr t2) (.own (.pr (.own .sh) .sh)) (.own (.pr (.own .sh) .sh)) 0 [], .ro (.int .i64), .ro (.int .i64)], 1, t35, (.pr .sh (.pr (.own (.pr (.own .sh) .sh)) .sh)), [0, 1, 2, 6, 38], [(3, 0), (5, 11), (1, 0), (1, 5), (1, 9), (1, 17), (1, 21), (5, 0), (5, 4)]⟩),
(105, ⟨[.io (.ptr t2) (.own (.pr (.own .sh) .sh)) (.own (.pr (.own .sh) .sh)) 0 [], .ro (.int .i64), .ro (.int .i64), .ro (.int .i64)], 1, t36, (.pr (.own .sh) (.pr (.own (.pr (.own .sh) .sh)) .sh)), [0, 1, 2, 3, 8, 9, 10, 11, 12], mvD [(6, 1), (4, 5), (4, 7)] [(15, [1, 8, 12])]⟩),
(106, ⟨[.io (.ptr t2) (.own (.pr (.own .sh) .sh)) (.own (.pr (.own .sh) .sh)) 0 [], .ro (.int .i64)], 1, t37, (.pr (.own .sh) (.pr (.own (.pr (.own .sh) .sh)) .sh)), [0, 1, 4, 5, 8, 9, 10], mvD [(6, 1), (4, 7), (4, 8), (4, 10)] [(15, [1, 4, 10])]⟩),
(76, ⟨[.ro t6, .ro (.int .i64)], 1, t32, .sh, [0, 1, 2, 4, 6, 8, 9, 10, 11, 17], mvD [(7, 0), (5, 2)] [(25, [0, 2, 4, 6, 11, 17])]⟩),
(35, ⟨[.ro t7], 1, t38, (.pr (.own .sh) .sh), [0, 1, 2, 3, 4, 5, 6, 9, 10, 11, 12, 17], mvD [(9, 1), (6, 6), (6, 7), (7, 7), (7, 8), (7, 10)] [(39, [0, 2, 4, 5, 6, 12, 17])]⟩),
(71, ⟨[.ro t1], 1, t27, (.pr (.own .sh) .sh), [900000, 0, 2, 4], [(3, 3), (2, 0)]⟩),
(135, ⟨[.ro t1], 1, t25, .sh, [], []⟩),
(85, ⟨[.mv t1 (.own .sh), .ro (.int .i64)], 1, t25, .sh, [0, 1, 4], [(1, 7)]⟩),
(84, ⟨[.ro (.sl t4)], 1, t27, (.pr (.own .sh) .sh), [0, 2, 3, 5, 9, 10, 11, 12], mvD [(7, 1)] [(22, [0, 2, 5, 12])]⟩),
(47, ⟨[.ro t7, .ro (.sl t8)], 1, t25, .sh, [0, 1, 2, 4, 5, 7, 26, 27, 28, 29], mvD [(9, 2)] [(30, [0, 1, 2, 4, 7, 29])]⟩),
(48, ⟨[.ro (.sl t4)], 1, t25, .sh, [0, 2], [(1, 3)]⟩),
(221, ⟨[.mv t20 (.own .sh), .ro (.int .i64)], 1, t39, (.pr (.own .sh) .sh), [0, 1, 4], [(1, 14)]⟩),
(183, ⟨[.ro t1], 1, t25, .sh, [0, 2, 3, 4, 9], mvD [(6, 2)] [(15, [2, 9])]⟩),
(142, ⟨[.mv t1 (.own .sh), .ro (.int .i64)], 1, t25, .sh, [0, 1, 4, 8], mvD [(3, 2)] [(5, [4, 8])]⟩),
(93, ⟨[.ro t7, .ro (.sl t8)], 1, t25, .sh, [0, 1, 2, 4, 5, 6, 7, 25, 64], mvD [(14, 2)] [(18, [0, 4, 7, 25, 64]), (50, [0, 2, 4, 6, 25, 64])]⟩),
(94, ⟨[.ro (.sl t4)], 1, t25, .sh, [0, 2, 3, 4, 11], mvD [(6, 2)] [(15, [2, 11])]⟩),
(144, ⟨[], 1, t41, .sh, [0], [(1, 1)]⟩),
(97, ⟨[], 1, t43, .sh, [0], [(1, 2)]⟩),
(184, ⟨[.ro .str, .ro (.int .i64)], 1, t32, .sh, [0, 1, 4], [(1, 25)]⟩),
(185, ⟨[.ro (.int .i64), .ro (.int .i64)], 1, t32, .sh, [0, 1, 4], [(1, 9)]⟩),
(186, ⟨[], 1, t45, .sh, [0], [(1, 1)]⟩),
(143, ⟨[.ro t40, .ro .str], 1, t41, .sh, [0, 1, 2, 4, 5, 6, 7, 8, 9, 10, 11, 12, 13, 14, 15, 16, 17, 18, 21, 31, 87, 180], mvD [(27, 1)] [(15, [0, 7, 8, 9, 10, 11, 12, 13, 14, 15, 16, 17, 18, 21, 31, 87, 180]), (50, [0, 1, 6, 8, 9, 10, 11, 12, 13, 14, 15, 16, 17, 18, 21, 31, 87, 180]), (156, [0, 1, 6, 7, 8, 9, 13, 14, 15, 16, 17, 18, 21, 31, 87, 180]), (78, [0, 1, 5, 6, 7, 8, 9, 10, 12, 13, 14, 15, 16, 17, 21, 31, 87, 180])]⟩),
(96, ⟨[.ro t42, .ro .str], 1, t43, .sh, [0, 1, 2, 4, 19], mvD [(6, 1)] [(15, [0, 1, 19])]⟩),
(95, ⟨[.ro t42], 1, t25, .sh, [0, 1, 2, 3, 4, 5, 6, 7, 8, 19, 24, 41, 45], mvD [(18, 2)] [(9, [0, 2, 5, 6, 7, 8, 19, 24, 41, 45]), (24, [0, 2, 6, 7, 8, 19, 24, 41, 45]), (93, [0, 2, 3, 4, 5, 8, 19, 24, 41, 45]), (51, [0, 2, 3, 4, 5, 19, 24, 41, 45])]⟩),
(54, ⟨[.ro .str], 1, t25, .sh, [0, 2], [(1, 4)]⟩),
(86, ⟨[], 1, t43, .sh, [0], [(1, 2)]⟩),
(136, ⟨[], 1, t47, .sh, [0], [(1, 1)]⟩),
(213, ⟨[.ro (.int .u32), .ro (.int .i64)], 1, t48, .sh, [0, 1, 4, 5], [(2, 8)]⟩),
(175, ⟨[.ro (.int .u32), .ro (.int .i64)], 1, t48, .sh, [0, 1, 4], [(1, 4)]⟩),
(137, ⟨[.io (.ptr t42) (.own .sh) (.own .sh) 0 [], .ro .str, .ro (.ptr t46)], 0, t49, (.pr (.own .sh) .sh), [0, 1, 2, 6, 7, 8, 9, 10, 11, 12, 13, 14, 15, 16, 17, 18, 19, 20, 21, 22, 23, 24, 25, 26, 61, 104, 105, 106, 114, 115, 194, 195, 196], mvD [] [(18, [7, 8, 9, 10, 11, 12, 13, 14, 15, 16, 17, 18, 19, 20, 21, 22, 23, 24, 26, 61, 104, 105, 106, 114, 115, 194, 195, 196]), (38, [1, 7, 9, 10, 11, 12, 13, 14, 15, 16, 17, 18, 19, 20, 21, 22, 23, 24, 25, 26, 61, 104, 105, 106, 114, 115, 194, 195, 196]), (62, [1, 7, 8, 9, 10, 12, 13, 14, 15, 16, 17, 18, 19, 20, 21, 22, 23, 24, 25, 26, 61, 106, 114, 115, 194, 195, 196]), (154, [1, 7, 8, 9, 10, 12, 13, 14, 15, 16, 17, 18, 19, 20, 21, 22, 23, 24, 25, 26, 61, 104, 105, 106, 115, 194, 195, 196]), (114, [1, 2, 6, 7, 8, 9, 10, 11, 12, 13, 14, 15, 16, 17, 18, 19, 20, 21, 22, 23, 24, 25, 26, 61, 104, 105, 106, 114, 115, 196])]⟩),
(87, ⟨[.ro t42, .ro .str], 1, t43, .sh, [0, 1, 2, 4, 5, 19], mvD [(8, 1)] [(18, [0, 19])]⟩),
(138, ⟨[.ro .str, .ro (.int .i64)], 1, t25, .sh, [], []⟩),
(88, ⟨[.ro t42], 1, t25, .sh, [0, 1, 2, 3, 4, 5, 6, 8, 20, 35, 36, 37], mvD [(13, 2)] [(18, [0, 2, 6, 8, 20, 35, 36, 37]), (46, [0, 1, 2, 3, 4, 5, 8, 20, 37])]⟩),
(49, ⟨[.ro .str], 1, t25, .sh, [0, 2], [(1, 4)]⟩),
(134, ⟨[.ro (.int .i64), .ro (.int .i64)], 1, t25, .sh, [0, 1, 4, 5, 6, 7, 8, 9], mvD [(7, 2)] [(22, [1, 4, 6, 9])]⟩),
(110, ⟨[.ro .str], 1, t48, .sh, [0, 2], [(1, 18)]⟩),
(206, ⟨[.ro (.int .u32), .ro (.int .u32), .ro (.int .u32), .ro (.int .u32)], 4, t50, .sh, [0, 1, 2, 3, 8, 9, 10, 11, 13, 16, 17, 18], mvD [(9, 4), (9, 5), (9, 6), (9, 7)] [(42, [8, 9, 10, 11, 13, 18])]⟩),
(171, ⟨[.ro .str, .ro .str, .ro (.int .i64)], 1, t25, .sh, [0, 1, 2, 6, 7, 8, 9, 10, 11, 12, 13, 14, 15, 16, 17, 25, 26, 41, 42, 43, 44, 46, 47, 95, 96], mvD [(28, 1)] [(35, [0, 1, 2, 6, 10, 11, 12, 13, 14, 15, 16, 17, 26, 41, 42, 43, 44, 46, 47, 95, 96]), (198, [0, 1, 2, 6, 7, 10, 11, 12, 13, 14, 15, 16, 17, 25, 26, 42, 43, 44, 46, 47, 95, 96]), (153, [0, 1, 2, 6, 7, 10, 11, 12, 13, 14, 15, 16, 17, 25, 26, 42, 44, 46, 47, 95, 96]), (90, [0, 1, 2, 6, 7, 10, 12, 13, 14, 15, 16, 17, 25, 26, 42, 44, 47, 95, 96]), (106, [0, 1, 2, 6, 7, 10, 11, 12, 13, 14, 15, 17, 25, 26, 41, 42, 43, 44, 46, 47, 96])]⟩),
(238, ⟨[.ro .str, .ro (.int .i64)], 1, t32, .sh, [0, 1, 4], [(1, 25)]⟩),
(258, ⟨[.ro (.int .i64), .ro (.int .i64)], 1, t32, .sh, [0, 1, 4], [(1, 9)]⟩),
(253, ⟨[.ro (.int .i64), .ro (.int .i64), .ro (.int .i64), .ro (.int .i64)], 1, t52, .sh, [0, 1, 2, 3, 8], [(9, 5)]⟩),
(239, ⟨[.ro t53, .ro (.int .i64), .ro (.int .i64), .ro (.int .i64), .ro (.int .i64)], 1, t54, .sh, [0, 1, 2, 3, 4, 5, 10, 11], [(6, 1)]⟩),
(218, ⟨[.ro .str, .ro .str, .ro (.int .i64)], 1, t25, .sh, [0, 1, 2, 6, 7, 8, 9, 10, 11, 12, 13, 14, 15, 16, 19, 28, 41, 53, 57, 70, 90], mvD [(32, 2)] [(15, [6, 9, 10, 11, 12, 13, 14, 15, 16, 19, 28, 41, 53, 57, 70, 90]), (27, [6, 8, 10, 11, 12, 13, 14, 15, 16, 19, 28, 41, 53, 57, 70, 90]), (42, [0, 2, 6, 8, 9, 11, 12, 13, 14, 15, 16, 19, 28, 41, 53, 57, 70, 90]), (225, [0, 1, 2, 6, 8, 9, 10, 13, 14, 15, 16, 19, 28, 41, 53, 57, 70, 90]), (66, [0, 1, 2, 6, 8, 9, 10, 14, 15, 16, 19, 28, 41, 53, 57, 70, 90]), (78, [0, 1, 2, 6, 8, 9, 10, 13, 15, 16, 19, 28, 41, 53, 57, 70, 90]), (93, [0, 1, 2, 6, 8, 9, 10, 12, 13, 14, 19, 28, 41, 53, 57, 70, 90])]⟩),
(170, ⟨[.ro .str, .ro .str], 1, t25, .sh, [0, 1, 4, 5, 6, 10, 11, 12], mvD [(7, 2)] [(22, [0, 4, 6, 12])]⟩),
(181, ⟨[.ro .str, .ro .str, .ro (.int .i64), .ro .str], 1, t25, .sh, [0, 1, 2, 3, 8, 9, 10, 11, 16, 21], mvD [(9, 2)] [(35, [8, 16, 21])]⟩),
(51, ⟨[.ro (.int .i64), .ro (.int .i64), .ro (.int .i64)], 1, t0, .sh, [0, 1, 2, 6], [(1, 8)]⟩),
(24, ⟨[.ro t1], 1, t0, .sh, [0, 2, 3, 7, 15], mvD [(6, 0), (5, 0)] [(18, [2, 7, 15])]⟩),
(180, ⟨[.ro (.int .i64)], 1, t25, .sh, [0, 2, 3, 4, 7], mvD [(6, 2)] [(15, [2, 7])]⟩),
(140, ⟨[.ro (.int .i64), .ro (.int .i64), .ro (.int .i64)], 1, t25, .sh, [0, 1, 2, 6], [(1, 12)]⟩),
(220, ⟨[.ro .str], 1, t25, .sh, [0, 2, 6], mvD [(3, 1)] [(5, [2, 6])]⟩),
(241, ⟨[.ro .str], 1, t25, .sh, [0, 2, 3, 4, 5, 10, 20], mvD [(10, 2)] [(15, [0, 2, 5, 10, 20]), (27, [0, 2, 4, 10, 20])]⟩),
(240, ⟨[.ro .str], 1, t56, .sh, [0, 2, 3, 4, 5, 6, 9, 36], mvD [(10, 1)] [(49, [5, 6, 9, 36])]⟩),
(244, ⟨[.ro t55], 1, t56, .sh, [0, 1, 2, 3, 4, 6, 10], mvD [(11, 1)] [(63, [0, 4, 6, 10]), (30, [0, 6, 10])]⟩),
(242, ⟨[.ro t55, .ro t55], 1, t56, .sh, [0, 1, 2, 3, 4, 5, 6, 7, 8, 11, 15, 28], mvD [(12, 2)] [(72, [0, 1, 7, 8, 11, 15, 28]), (57, [0, 1, 8, 11, 15, 28])]⟩),
(243, ⟨[.ro t55], 1, t56, .sh, [0, 1, 2, 3, 4, 11, 32], mvD [(9, 1), (11, 1)] [(26, [0, 11, 32])]⟩),
(219, ⟨[.ro .str, .ro .str], 1, t25, .sh, [0, 1, 4, 5, 6, 7, 8, 9, 10, 11, 12, 13, 14, 15, 24, 38, 44, 63, 77], mvD [(28, 2)] [(110, [4, 8, 9, 10, 11, 12, 13, 14, 15, 24, 38, 44, 63, 77]), (17, [4, 9, 10, 11, 12, 13, 14, 15, 24, 38, 44, 63, 77]), (39, [4, 8, 11, 12, 13, 14, 15, 24, 38, 44, 63, 77]), (216, [1, 4, 5, 7, 8, 9, 10, 14, 15, 24, 38, 44, 63, 77])]⟩),
(182, ⟨[.ro .str, .ro .str, .ro .str, .ro .str], 1, t25, .sh, [0, 1, 2, 3, 8, 9], [(2, 15)]⟩),
(141, ⟨[.ro .str, .ro .str, .ro .str, .ro .str], 1, t25, .sh, [0, 1, 2, 3, 8, 9], [(2, 7)]⟩),
(92, ⟨[.ro .str, .ro (.int .i64), .ro (.int .i64), .ro (.int .i64), .ro .str], 1, t25, .sh, [0, 1, 2, 3, 4, 10, 11], [(2, 4)]⟩),
(100, ⟨[.ro t13, .ro (.int .i64), .ro .str], 1, t57, (.pr (.pr .sh (.pr (.own .sh) .sh)) .sh), [0, 1, 2, 3, 6], [(2, 1)]⟩),
(56, ⟨[.ro t13], 1, t57, (.pr (.pr (.own .sh) (.pr (.own .sh) .sh)) .sh), [0, 1, 2, 3, 4, 15], mvD [(6, 1)] [(15, [0, 15])]⟩),
(40, ⟨[.ro .str], 1, t0, .sh, [0, 2], [(1, 3)]⟩),
(41, ⟨[.ro t11], 1, t32, .sh, [0, 1, 2], [(1, 5)]⟩),
(15, ⟨[.ro t11], 1, t0, .sh, [0, 1, 2], [(1, 51)]⟩),
(81, ⟨[.ro .str, .ro (.ptr .fn)], 1, t0, .sh, [0, 1, 3], [(1, 4)]⟩),
(131, ⟨[.ro (.sl .str), .ro .fn], 1, t32, .sh, [0, 1, 4, 5, 7, 8, 9, 16], [(7, 0), (5, 1)]⟩),
(80, ⟨[.ro (.sl .str), .ro .fn], 1, t0, .sh, [0, 1, 4], [(1, 4)]⟩),
(44, ⟨[.ro (.sl .str), .ro .fn], 1, t0, .sh, [0, 1, 3, 4], [(1, 4)]⟩),
(127, ⟨[.ro .str], 1, t0, .sh, [0, 2], [(1, 3)]⟩),
(168, ⟨[.ro t12, .ro (.ptr .fn)], 1, t0, .sh, [0, 1, 2, 3], [(1, 4)]⟩),
(204, ⟨[.ro (.sl t12), .ro .fn], 1, t32, .sh, [0, 1, 4, 5, 7, 8, 9, 16], [(7, 0), (5, 1)]⟩),
(167, ⟨[.ro (.sl t12), .ro .fn], 1, t0, .sh, [0, 1, 4], [(1, 4)]⟩),
(128, ⟨[.ro (.sl t12), .ro .fn], 1, t0, .sh, [0, 1, 3, 4], [(1, 4)]⟩),
(130, ⟨[.ro (.int .i64)], 1, t0, .sh, [0, 2], [(1, 2)]⟩),
(129, ⟨[.ro t12], 1, t0, .sh, [0, 1, 2], [(1, 8)]⟩),
(78, ⟨[.ro t13], 1, t0, .sh, [0, 1, 2], [(1, 20)]⟩),
(38, ⟨[.ro t13], 1, t0, .sh, [0, 1, 2], [(1, 8)]⟩),
(14, ⟨[.ro t14], 1, t0, .sh, [0, 1, 2], [(1, 23)]⟩),
(224, ⟨[.ro t16, .ro (.ptr .fn)], 1, t0, .sh, [0, 1, 2, 3], [(1, 4)]⟩),
(245, ⟨[.ro (.sl t16), .ro .fn], 1, t32, .sh, [0, 1, 4, 5, 7, 8, 9, 16], [(7, 0), (5, 1)]⟩),
(223, ⟨[.ro (.sl t16), .ro .fn], 1, t0, .sh, [0, 1, 4], [(1, 4)]⟩),
(190, ⟨[.ro (.sl t16), .ro .fn], 1, t0, .sh, [0, 1, 3, 4], [(1, 4)]⟩),
(247, ⟨[.ro t4, .ro (.ptr .fn)], 1, t0, .sh, [0, 1, 2, 3], [(1, 4)]⟩),
(254, ⟨[.ro (.sl t4), .ro .fn], 1, t32, .sh, [0, 1, 4, 5, 7, 8, 9, 16], [(7, 0), (5, 1)]⟩),
(246, ⟨[.ro (.sl t4), .ro .fn], 1, t0, .sh, [0, 1, 4], [(1, 4)]⟩),
(225, ⟨[.ro (.sl t4), .ro .fn], 1, t0, .sh, [0, 1, 3, 4], [(1, 4)]⟩),
(248, ⟨[.ro (.int .i64)], 1, t0, .sh, [0, 2], [(1, 6)]⟩),
(226, ⟨[.ro t4], 1, t0, .sh, [0, 1, 2, 12, 13, 20], [(2, 0), (7, 3), (4, 3), (6, 3)]⟩),
(191, ⟨[.ro t16], 1, t0, .sh, [0, 1, 2], [(1, 9)]⟩),
(151, ⟨[.ro (.sl t16)], 1, t0, .sh, [0, 2], [(1, 7)]⟩),
(26, ⟨[.ro t14], 1, t32, .sh, [0, 1, 2, 3, 6], [(5, 0), (2, 0), (4, 0)]⟩),
(67, ⟨[.ro (.int .i64)], 1, t32, .sh, [0, 2], [(1, 3)]⟩),
(111, ⟨[.ro (.int .i64), .ro (.int .i64)], 1, t32, .sh, [0, 1, 4], [(1, 4)]⟩),
(83, ⟨[.ro (.int .i64), .ro (.int .i64), .ro (.int .i64)], 1, t25, .sh, [0, 1, 2, 6], [(1, 10)]⟩),
(132, ⟨[.ro .str, .ro .str, .ro (.int .i64), .ro .str], 1, t25, .sh, [], []⟩),
(174, ⟨[.ro .str], 1, t25, .sh, [0, 2], [(1, 8)]⟩),
(208, ⟨[.ro .str], 1, t25, .sh, [0, 2, 3, 4, 5, 10, 20], mvD [(10, 2)] [(15, [0, 2, 5, 10, 20]), (27, [0, 2, 4, 10, 20])]⟩),
(207, ⟨[.ro .str], 1, t59, .sh, [0, 2, 3, 4, 5, 6, 7, 9, 10, 11, 12, 16, 17, 27], mvD [(13, 1)] [(85, [0, 4, 5, 6, 7, 12, 16, 17, 27]), (57, [0, 6, 7, 12, 17, 27])]⟩),
(236, ⟨[.ro t58], 1, t59, .sh, [0, 1, 2, 3, 4, 5, 6, 7, 8], mvD [(13, 1)] [(88, [0, 3, 4, 6, 7, 8]), (51, [0, 4, 6, 8])]⟩),
(209, ⟨[.ro t58, .ro t58], 1, t59, .sh, [0, 1, 2, 3, 4, 5, 6, 7], mvD [(6, 2)] [(18, [0, 1, 5, 7])]⟩),
(210, ⟨[.ro t58, .ro t58], 1, t59, .sh, [0, 1, 2, 3, 4, 5, 6, 7, 8, 9, 10, 11, 12, 15, 16, 17, 23], mvD [(13, 2)] [(85, [0, 1, 2, 6, 7, 8, 9, 12, 15, 16, 17, 23]), (57, [0, 1, 2, 8, 9, 12, 17, 23])]⟩),
(211, ⟨[.ro t58], 1, t59, .sh, [0, 1, 2, 3, 4, 5, 10, 19, 26, 28, 29], mvD [(8, 1), (14, 1)] [(35, [0, 5, 10, 19, 26, 28, 29]), (50, [0, 4, 5, 10, 19, 26, 29])]⟩),
(212, ⟨[.ro t58, .ro .str], 1, t25, .sh, [0, 1, 2, 4, 5, 6, 7, 8, 9, 10, 13, 14, 15, 17, 18], mvD [(17, 2)] [(143, [0, 4, 7, 8, 9, 10, 15, 17, 18]), (55, [0, 4, 9, 10, 15, 18])]⟩),
(173, ⟨[.ro .str, .ro .str], 1, t25, .sh, [0, 1, 4, 5, 6, 7, 14], mvD [(7, 5)] [(18, [4, 14])]⟩),
(133, ⟨[.ro .str, .ro .str, .ro .str, .ro .str], 1, t25, .sh, [0, 1, 2, 3, 8], [(1, 18)]⟩),
(82, ⟨[.ro .str, .ro .str, .ro .str, .ro .str], 1, t25, .sh, [0, 1, 2, 3, 8, 9], [(2, 7)]⟩),
(46, ⟨[.ro .str, .ro (.int .i64), .ro (.int .i64), .ro (.int .i64), .ro .str], 1, t25, .sh, [0, 1, 2, 3, 4, 10], [(1, 7)]⟩),
(66, ⟨[.ro .str, .ro .str], 1, t25, .sh, [0, 1, 4], [(1, 5)]⟩),
(101, ⟨[.ro (.sl .str)], 1, t60, (.pr (.own .sh) .sh), [900000, 0, 2, 4], [(3, 3), (2, 0)]⟩),
(102, ⟨[.ro (.sl t12)], 1, t61, (.pr (.own .sh) .sh), [900000, 0, 2, 4], [(3, 3), (2, 0)]⟩),
(59, ⟨[.ro t13], 1, t57, (.pr (.pr (.own .sh) (.pr (.own .sh) .sh)) .sh), [0, 1, 2], [(1, 7)]⟩),
(68, ⟨[.ro t13, .ro (.int .i64), .ro .str], 1, t57, (.pr (.pr (.own .sh) (.pr (.own .sh) .sh)) .sh), [0, 1, 2, 3, 6, 7], [(3, 1)]⟩),
(27, ⟨[.ro t14], 1, t29, (.pr (.pr .sh (.pr .sh (.pr (.pr (.own .sh) (.pr (.own .sh) .sh)) .sh))) .sh), [0, 1, 2], [(2, 1)]⟩),
(69, ⟨[.ro t13, .ro t1], 1, t57, (.pr (.pr (.own .sh) (.pr (.own .sh) .sh)) .sh), [0, 1, 2, 4, 5, 6, 7, 8, 9, 10, 16, 17, 18, 19, 25, 33, 34, 43], mvD [(16, 1)] [(130, [0, 2, 6, 7, 8, 9, 10, 19, 25, 33, 34, 43])]⟩),
(32, ⟨[.ro t13], 1, t57, (.pr (.pr (.own .sh) (.pr (.own .sh) .sh)) .sh), [0, 1, 2], [(1, 3)]⟩),
(139, ⟨[.ro t1], 1, t62, (.pr (.pr (.own .sh) (.pr (.own .sh) (.pr (.own (.own .sh)) .sh))) .sh), [0, 2], [(1, 6)]⟩),
(91, ⟨[.ro t1], 2, t63, (.pr (.pr (.own .sh) (.pr (.own .sh) (.pr (.own .sh) .sh))) .sh), [0, 2, 3, 6, 10, 14], [(2, 1), (2, 2), (4, 1), (4, 2), (7, 2), (7, 3), (6, 1), (6, 2)]⟩),
(52, ⟨[.ro t1], 2, t64, (.pr (.pr (.own .sh) .sh) .sh), [0, 2, 3, 4, 5, 8, 16], [(2, 1), (2, 2), (6, 3), (6, 4), (5, 2), (5, 3)]⟩),
(53, ⟨[.ro .str, .ro (.int .i64), .ro (.int .i64), .ro t7, .ro (.sl t8)], 1, t60, (.pr (.own .sh) .sh), [0, 1, 2, 3, 4, 8, 10, 11, 12, 23], mvD [(6, 1)] [(15, [3, 4, 10, 23])]⟩),
(145, ⟨[.ro (.int .i64), .ro .str], 1, t25, .sh, [0, 1, 4], [(1, 7)]⟩),
(98, ⟨[.ro (.sl .str)], 1, t60, (.pr (.own .sh) .sh), [0, 2, 3, 4, 9], mvD [(6, 1)] [(15, [2, 9])]⟩),
(146, ⟨[.ro .str, .ro .str], 1, t25, .sh, [0, 1, 4], [(1, 5)]⟩),
(99, ⟨[.ro (.sl .str)], 1, t60, (.pr (.own .sh) .sh), [0, 2, 3, 4, 10], mvD [(6, 1)] [(15, [2, 10])]⟩),
(55, ⟨[.ro (.sl .str)], 1, t25, .sh, [0, 2, 3, 8], mvD [(4, 3)] [(7, [0, 2, 8])]⟩),
(58, ⟨[], 1, t57, (.pr (.pr (.own .sh) (.pr (.own .sh) .sh)) .sh), [0], [(1, 3)]⟩),
(57, ⟨[.ro t13, .ro (.int .i64), .ro (.sl .str)], 1, t57, .sh, [0, 1, 2, 3, 6, 7, 11], mvD [(5, 1)] [(12, [0, 11])]⟩),
(25, ⟨[.ro .str, .ro t1], 1, t29, (.pr (.pr .sh (.pr .sh (.pr (.pr (.own .sh) (.pr (.own .sh) .sh)) .sh))) .sh), [0, 1, 4, 5, 7, 8], [(4, 11)]⟩),
(45, ⟨[.ro .str], 1, t0, .sh, [0, 2], [(1, 3)]⟩),
(19, ⟨[.ro (.sl .str)], 1, t0, .sh, [0, 2], [(1, 2)]⟩),
(70, ⟨[.ro t1], 1, t32, .sh, [0, 2, 3, 7, 11], [(7, 0), (2, 0), (4, 0), (6, 0)]⟩),
(33, ⟨[.ro t1], 2, t63, (.pr (.pr (.own .sh) (.pr (.own .sh) (.pr (.own .sh) .sh))) .sh), [0, 2, 3, 4, 8], [(4, 4), (4, 5), (3, 2), (3, 3)]⟩),
(10, ⟨[.ro t1], 2, t64, (.pr (.pr (.own .sh) .sh) .sh), [0, 2, 3, 4, 5, 12], [(4, 3), (4, 4), (3, 2), (3, 3)]⟩),
(20, ⟨[], 1, t57, (.pr (.pr (.own .sh) (.pr (.own .sh) .sh)) .sh), [0], [(1, 2)]⟩),
(21, ⟨[.ro .str, .ro (.int .i64), .ro t7, .ro (.sl t8), .ro (.int .i64)], 1, t60, (.pr (.own .sh) .sh), [0, 1, 2, 3, 4, 7, 10, 11, 12, 13, 14, 27, 28, 29, 30], mvD [(8, 1)] [(26, [1, 2, 3, 7, 10, 13, 14, 30])]⟩),
(22, ⟨[], 1, t25, .sh, [0], [(1, 1)]⟩),
(89, ⟨[.ro (.int .i64), .ro .str], 1, t25, .sh, [0, 1, 4], [(1, 7)]⟩),
(90, ⟨[.ro .str, .ro .str], 1, t25, .sh, [0, 1, 4], [(1, 5)]⟩),
(50, ⟨[.ro (.sl .str)], 1, t66, (.pr (.own .sh) .sh), [0, 2, 3, 4, 5, 6, 7, 8, 9, 10, 11, 12, 27, 31], mvD [(16, 1)] [(22, [0, 2, 4, 5, 6, 7, 8, 12, 27, 31]), (100, [0, 2, 4, 5, 7, 8, 9, 10, 11, 12, 27, 31]), (39, [0, 2, 4, 5, 9, 10, 11, 12, 27, 31])]⟩),
(23, ⟨[.ro (.sl .str)], 1, t25, .sh, [0, 2], [(1, 6)]⟩),
(6, ⟨[.ro .str, .ro t1], 2, t19, (.pr (.pr .sh (.pr .sh (.pr (.pr (.own .sh) (.pr (.own .sh) .sh)) .sh))) .sh), [0, 1, 4, 5, 6, 7, 8, 9, 10, 21, 32], [(2, 1), (2, 2), (4, 1), (4, 2), (7, 2), (7, 3), (12, 1), (12, 2)]⟩),
(60, ⟨[.ro t14], 1, t60, .sh, [0, 1, 2], [(1, 13)]⟩),
(103, ⟨[.ro .str, .ro .str, .ro .str, .ro .str], 2, t67, .sh, [0, 1, 2, 3, 8, 9, 10, 11, 14, 31], [(2, 0), (2, 1), (6, 4), (6, 5), (5, 0), (5, 1)]⟩),
(61, ⟨[.ro .str, .ro (.int .i64), .ro (.int .i64), .ro (.int .i64), .ro .str], 2, t67, .sh, [0, 1, 2, 3, 4, 10, 11], [(1, 9), (1, 10)]⟩),
(147, ⟨[.ro .str], 1, t27, (.pr (.own .sh) .sh), [0, 2, 3, 4, 8], mvD [(6, 1)] [(15, [2, 8])]⟩),
(34, ⟨[.ro t7], 1, t0, .sh, [], []⟩),
(188, ⟨[.ro t8, .ro (.ptr .fn)], 1, t0, .sh, [0, 1, 2, 3], [(1, 4)]⟩),
(222, ⟨[.ro (.sl t8), .ro .fn], 1, t32, .sh, [0, 1, 4, 5, 7, 8, 9, 16], [(7, 0), (5, 1)]⟩),
(187, ⟨[.ro (.sl t8), .ro .fn], 1, t0, .sh, [0, 1, 4], [(1, 4)]⟩),
(149, ⟨[.ro (.sl t8), .ro .fn], 1, t0, .sh, [0, 1, 3, 4], [(1, 4)]⟩),
(189, ⟨[.ro (.int .i64)], 1, t0, .sh, [0, 2], [(1, 2)]⟩),
(150, ⟨[.ro t8], 1, t0, .sh, [0, 1, 2], [(1, 25)]⟩),
(109, ⟨[.ro (.sl t8)], 1, t0, .sh, [0, 2], [(1, 7)]⟩),
(36, ⟨[.ro t14], 1, t0, .sh, [0, 1, 2, 3, 4, 16], mvD [(6, 5)] [(15, [0, 2, 16])]⟩),
(29, ⟨[.ro t14], 1, t29, (.pr (.pr .sh (.pr .sh (.pr (.pr (.own .sh) (.pr (.own .sh) .sh)) .sh))) .sh), [0, 1, 2], [(3, 1)]⟩),
(123, ⟨[.ro (.sl t30), .ro (.int .i64), .ro .fn], 2, t68, .sh, [0, 1, 2, 6, 7, 8, 9, 10, 11, 17, 31], mvD [(8, 14), (8, 15)] [(30, [6, 7, 11, 17, 31])]⟩),
(124, ⟨[.ro t30, .ro (.int .i64)], 1, t32, .sh, [0, 1, 2, 4], [(1, 4)]⟩),
(74, ⟨[.ro (.sl t30), .ro (.int .i64)], 2, t68, .sh, [0, 1, 4, 5], [(1, 5), (1, 6)]⟩),
(75, ⟨[.mv (.sl t30) (.own .sh), .ro (.int .i64), .ro (.sl t30)], 1, t38, (.pr (.own .sh) .sh), [], []⟩)]
noncomputable def EE : Env := ⟨Go.Proofs.Tryz.prog, A3E BT7⟩
variable (R : Run EE) (L : lT)
noncomputable def oY (x0 : Int) : Option d69 := R 148 [⟨(.int .i64), x0⟩]
noncomputable def sM (x0 : d70) : Option d71 := R 108 [⟨(.ptr t2), x0⟩]
noncomputable def gE (x0 : List UInt8) : Option d76 := R 62 [⟨.str, x0⟩]
noncomputable def iC (x0 : List UInt8) : Option d77 := R 63 [⟨.str, x0⟩]
noncomputable def rS (x0 : d81) : Option d76 := R 28 [⟨t14, x0⟩]
noncomputable def rY (x0 : d81) : Option d82 := R 8 [⟨t14, x0⟩]
noncomputable def Ag3 (x0 : d81) : Option d84 := R 64 [⟨t14, x0⟩]
noncomputable def qO (x0 : d81) : Option d85 := R 30 [⟨t14, x0⟩]
noncomputable def bP (x0 : d81) : Option d82 := R 9 [⟨t14, x0⟩]
noncomputable def bM (x0 : d81) : Option d86 := R 12 [⟨t14, x0⟩]
noncomputable def AV2 (x0 x1 : List Int) : Option d69 := R 3 [⟨t20, x0⟩, ⟨t20, x1⟩]
noncomputable def kI (x0 : List Int) : Option d88 := R 16 [⟨t20, x0⟩]
noncomputable def vK (x0 : d87) : Option d89 := R 79 [⟨(.ptr t21), x0⟩]
noncomputable def vL (x0 : d87) (x1 : Int) : Option d89 := R 43 [⟨(.ptr t21), x0⟩, ⟨(.int .i64), x1⟩]
noncomputable def nV (x0 : d87) (x1 : Int) : Option d90 := R 42 [⟨(.ptr t21), x0⟩, ⟨(.int .i64), x1⟩]
noncomputable def kJ (x0 : d87) : Option d90 := R 17 [⟨(.ptr t21), x0⟩]
noncomputable def AO5 (x0 : List Int) : Option d91 := R 4 [⟨t20, x0⟩]
noncomputable def rJ (x0 : d87) (x1 : Int) : Option d92 := R 18 [⟨(.ptr t21), x0⟩, ⟨(.int .i64), x1⟩]
noncomputable def fZ (x0 : List Int) (x1 : Int) : Option d93 := R 5 [⟨t20, x0⟩, ⟨(.int .i64), x1⟩]
noncomputable def Ad3 (x0 : List UInt8) (x1 : List Int) : Option d86 := R 7 [⟨.str, x0⟩, ⟨t1, x1⟩]
noncomputable def Aw3 (x0 : d74) (x1 : List d83) (x2 : List Int) : Option d94 := R 65 [⟨t7, x0⟩, ⟨(.sl t16), x1⟩, ⟨t1, x2⟩]
noncomputable def mM (x0 : d81) (x1 : Int) : Option d95 := R 31 [⟨t14, x0⟩, ⟨(.int .i64), x1⟩]
noncomputable def AN5 (x0 : d74) : Option d97 := R 11 [⟨t7, x0⟩]
noncomputable def gG (x0 x1 : List (List UInt8)) : Option d69 := R 77 [⟨(.sl .str), x0⟩, ⟨(.sl .str), x1⟩]
noncomputable def jZ (x0 x1 : d80) : Option d69 := R 37 [⟨t13, x0⟩, ⟨t13, x1⟩]
noncomputable def nD (x0 x1 : d81) : Option d69 := R 13 [⟨t14, x0⟩, ⟨t14, x1⟩]
noncomputable def tM (x0 x1 x2 : Int) : Option d69 := R 39 [⟨(.int .i64), x0⟩, ⟨(.int .i64), x1⟩, ⟨(.int .i64), x2⟩]
noncomputable def Ag5 (x0 : Int) : Option d69 := R 72 [⟨(.int .i64), x0⟩]
noncomputable def kX (x0 : Int) (x1 : FnVal) : Option d69 := R 157 [⟨(.int .i64), x0⟩, ⟨(.ptr .fn), x1⟩]
noncomputable def vH (x0 : List Int) (x1 : FnVal) : Option d98 := R 199 [⟨t1, x0⟩, ⟨.fn, x1⟩]
noncomputable def wF (x0 : List Int) (x1 : FnVal) : Option d69 := R 156 [⟨t1, x0⟩, ⟨.fn, x1⟩]
noncomputable def wI (x0 : List Int) (x1 : FnVal) : Option d69 := R 116 [⟨t1, x0⟩, ⟨.fn, x1⟩]
noncomputable def lD (x0 : Int) : Option d69 := R 117 [⟨(.int .i64), x0⟩]
noncomputable def oS (x0 : List Int) : Option d93 := R 201 [⟨t1, x0⟩]
noncomputable def AF1 (x0 : Int) : Option d93 := R 161 [⟨(.int .i64), x0⟩]
noncomputable def tF (x0 : List Int) (x1 : Int) : Option d98 := R 192 [⟨t1, x0⟩, ⟨(.int .i64), x1⟩]
noncomputable def tZ (x0 : List Int) (x1 : Int) : Option d69 := R 160 [⟨t1, x0⟩, ⟨(.int .i64), x1⟩]
noncomputable def iJ (x0 x1 : Int) : Option d69 := R 120 [⟨(.int .i64), x0⟩, ⟨(.int .i64), x1⟩]
noncomputable def AM0 (x0 : d72) (x1 : Int) : Option d69 := R 119 [⟨t4, x0⟩, ⟨t33, x1⟩]
noncomputable def oM (x0 : d72) (x1 : FnVal) : Option d69 := R 159 [⟨t4, x0⟩, ⟨(.ptr .fn), x1⟩]
noncomputable def xH (x0 : List d72) (x1 : FnVal) : Option d98 := R 200 [⟨(.sl t4), x0⟩, ⟨.fn, x1⟩]
noncomputable def yV (x0 : List d72) (x1 : FnVal) : Option d69 := R 158 [⟨(.sl t4), x0⟩, ⟨.fn, x1⟩]
noncomputable def qN (x0 : List d72) (x1 : FnVal) : Option d69 := R 118 [⟨(.sl t4), x0⟩, ⟨.fn, x1⟩]
noncomputable def wC (x0 : List d72) : Option d83 := R 162 [⟨(.sl t4), x0⟩]
noncomputable def sS (x0 : List (List d72)) : Option d83 := R 163 [⟨t5, x0⟩]
noncomputable def eT (x0 : d73) : Option d83 := R 121 [⟨t6, x0⟩]
noncomputable def Ac9 (x0 : Int) : Option d69 := R 164 [⟨(.int .i64), x0⟩]
noncomputable def fY (x0 : Int) : Option d69 := R 165 [⟨(.int .i64), x0⟩]
noncomputable def bU (x0 : d72) : Option d69 := R 122 [⟨t4, x0⟩]
noncomputable def AV1 (x0 : d73) : Option d69 := R 73 [⟨t6, x0⟩]
noncomputable def oU (x0 : List UInt8) (x1 : Int) : Option d99 := R 104 [⟨.str, x0⟩, ⟨(.int .i64), x1⟩]
noncomputable def yL (x0 : d70) (x1 x2 : Int) : Option Bk5 := R 107 [⟨(.ptr t2), x0⟩, ⟨(.int .i64), x1⟩, ⟨(.int .i64), x2⟩]
noncomputable def xG (x0 : d70) (x1 x2 x3 : Int) : Option Bi8 := R 105 [⟨(.ptr t2), x0⟩, ⟨(.int .i64), x1⟩, ⟨(.int .i64), x2⟩, ⟨(.int .i64), x3⟩]
noncomputable def wM (x0 : d70) (x1 : Int) : Option Bh9 := R 106 [⟨(.ptr t2), x0⟩, ⟨(.int .i64), x1⟩]
noncomputable def Aa4 (x0 : d73) (x1 : Int) : Option d98 := R 76 [⟨t6, x0⟩, ⟨(.int .i64), x1⟩]
noncomputable def eA (x0 : d74) : Option Bf8 := R 35 [⟨t7, x0⟩]
noncomputable def vB (x0 : List Int) : Option d93 := R 71 [⟨t1, x0⟩]
noncomputable def AA6 (x0 : List Int) : Option d91 := R 135 [⟨t1, x0⟩]
noncomputable def nJ (x0 : List Int) (x1 : Int) : Option d91 := R 85 [⟨t1, x0⟩, ⟨(.int .i64), x1⟩]
noncomputable def mG (x0 : List d72) : Option d93 := R 84 [⟨(.sl t4), x0⟩]
noncomputable def gO (x0 : d74) (x1 : List d75) : Option d91 := R 47 [⟨t7, x0⟩, ⟨(.sl t8), x1⟩]
noncomputable def mC (x0 : List d72) : Option d91 := R 48 [⟨(.sl t4), x0⟩]
noncomputable def iR (x0 : List Int) (x1 : Int) : Option d93 := R 221 [⟨t20, x0⟩, ⟨(.int .i64), x1⟩]
noncomputable def fW (x0 : List Int) : Option d91 := R 183 [⟨t1, x0⟩]
noncomputable def sK (x0 : List Int) (x1 : Int) : Option d91 := R 142 [⟨t1, x0⟩, ⟨(.int .i64), x1⟩]
noncomputable def dE (x0 : d74) (x1 : List d75) : Option d91 := R 93 [⟨t7, x0⟩, ⟨(.sl t8), x1⟩]
noncomputable def lN (x0 : List d72) : Option d91 := R 94 [⟨(.sl t4), x0⟩]
noncomputable def AC7 : Option d93 := R 144 []
noncomputable def bX : Option A6p := R 97 []
noncomputable def cZ (x0 : List UInt8) (x1 : Int) : Option d98 := R 184 [⟨.str, x0⟩, ⟨(.int .i64), x1⟩]
noncomputable def yE (x0 x1 : Int) : Option d98 := R 185 [⟨(.int .i64), x0⟩, ⟨(.int .i64), x1⟩]
noncomputable def AD4 : Option d93 := R 186 []
noncomputable def eJ (x0 : List Int) (x1 : List UInt8) : Option d93 := R 143 [⟨t40, x0⟩, ⟨.str, x1⟩]
noncomputable def mW (x0 : AA9) (x1 : List UInt8) : Option A6p := R 96 [⟨t42, x0⟩, ⟨.str, x1⟩]
noncomputable def AE3 (x0 : AA9) : Option d91 := R 95 [⟨t42, x0⟩]
noncomputable def eC (x0 : List UInt8) : Option d91 := R 54 [⟨.str, x0⟩]
noncomputable def AM4 : Option A6p := R 86 []
noncomputable def bW : Option d93 := R 136 []
noncomputable def yT (x0 x1 : Int) : Option d98 := R 213 [⟨(.int .u32), x0⟩, ⟨(.int .i64), x1⟩]
noncomputable def xM (x0 x1 : Int) : Option d98 := R 175 [⟨(.int .u32), x0⟩, ⟨(.int .i64), x1⟩]
noncomputable def pQ (x0 : AA9) (x1 : List UInt8) (x2 : List Int) : Option A6p := R 137 [⟨(.ptr t42), x0⟩, ⟨.str, x1⟩, ⟨(.ptr t46), x2⟩]
noncomputable def qI (x0 : AA9) (x1 : List UInt8) : Option A6p := R 87 [⟨t42, x0⟩, ⟨.str, x1⟩]
noncomputable def qS (x0 : List UInt8) (x1 : Int) : Option d91 := R 138 [⟨.str, x0⟩, ⟨(.int .i64), x1⟩]
noncomputable def eU (x0 : AA9) : Option d91 := R 88 [⟨t42, x0⟩]
noncomputable def jF (x0 : List UInt8) : Option d91 := R 49 [⟨.str, x0⟩]
noncomputable def wY (x0 x1 : Int) : Option d91 := R 134 [⟨(.int .i64), x0⟩, ⟨(.int .i64), x1⟩]
noncomputable def mI (x0 : List UInt8) : Option d98 := R 110 [⟨.str, x0⟩]
noncomputable def bE (x0 x1 x2 x3 : Int) : Option Bi0 := R 206 [⟨(.int .u32), x0⟩, ⟨(.int .u32), x1⟩, ⟨(.int .u32), x2⟩, ⟨(.int .u32), x3⟩]
noncomputable def cL (x0 x1 : List UInt8) (x2 : Int) : Option d91 := R 171 [⟨.str, x0⟩, ⟨.str, x1⟩, ⟨(.int .i64), x2⟩]
noncomputable def mV (x0 : List UInt8) (x1 : Int) : Option d98 := R 238 [⟨.str, x0⟩, ⟨(.int .i64), x1⟩]
noncomputable def sL (x0 x1 : Int) : Option d98 := R 258 [⟨(.int .i64), x0⟩, ⟨(.int .i64), x1⟩]
noncomputable def iE (x0 x1 x2 x3 : Int) : Option d93 := R 253 [⟨(.int .i64), x0⟩, ⟨(.int .i64), x1⟩, ⟨(.int .i64), x2⟩, ⟨(.int .i64), x3⟩]
noncomputable def iQ (x0 : List Int) (x1 x2 x3 x4 : Int) : Option d93 := R 239 [⟨t53, x0⟩, ⟨(.int .i64), x1⟩, ⟨(.int .i64), x2⟩, ⟨(.int .i64), x3⟩, ⟨(.int .i64), x4⟩]
noncomputable def qG (x0 x1 : List UInt8) (x2 : Int) : Option d91 := R 218 [⟨.str, x0⟩, ⟨.str, x1⟩, ⟨(.int .i64), x2⟩]
noncomputable def A34 (x0 x1 : List UInt8) : Option d91 := R 170 [⟨.str, x0⟩, ⟨.str, x1⟩]
noncomputable def fA (x0 x1 : List UInt8) (x2 : Int) (x3 : List UInt8) : Option d91 := R 181 [⟨.str, x0⟩, ⟨.str, x1⟩, ⟨(.int .i64), x2⟩, ⟨.str, x3⟩]
noncomputable def AP1 (x0 x1 x2 : Int) : Option d69 := R 51 [⟨(.int .i64), x0⟩, ⟨(.int .i64), x1⟩, ⟨(.int .i64), x2⟩]
noncomputable def lU (x0 : List Int) : Option d69 := R 24 [⟨t1, x0⟩]
noncomputable def mX (x0 : Int) : Option d91 := R 180 [⟨(.int .i64), x0⟩]
noncomputable def eW (x0 x1 x2 : Int) : Option d91 := R 140 [⟨(.int .i64), x0⟩, ⟨(.int .i64), x1⟩, ⟨(.int .i64), x2⟩]
noncomputable def dV (x0 : List UInt8) : Option d91 := R 220 [⟨.str, x0⟩]
noncomputable def eP (x0 : List UInt8) : Option d91 := R 241 [⟨.str, x0⟩]
noncomputable def lH (x0 : List UInt8) : Option d93 := R 240 [⟨.str, x0⟩]
noncomputable def oQ (x0 : List Int) : Option d93 := R 244 [⟨t55, x0⟩]
noncomputable def lC (x0 x1 : List Int) : Option d93 := R 242 [⟨t55, x0⟩, ⟨t55, x1⟩]
noncomputable def bQ (x0 : List Int) : Option d93 := R 243 [⟨t55, x0⟩]
noncomputable def gR (x0 x1 : List UInt8) : Option d91 := R 219 [⟨.str, x0⟩, ⟨.str, x1⟩]
noncomputable def AF7 (x0 x1 x2 x3 : List UInt8) : Option d91 := R 182 [⟨.str, x0⟩, ⟨.str, x1⟩, ⟨.str, x2⟩, ⟨.str, x3⟩]
noncomputable def fQ (x0 x1 x2 x3 : List UInt8) : Option d91 := R 141 [⟨.str, x0⟩, ⟨.str, x1⟩, ⟨.str, x2⟩, ⟨.str, x3⟩]
noncomputable def mR (x0 : List UInt8) (x1 x2 x3 : Int) (x4 : List UInt8) : Option d91 := R 92 [⟨.str, x0⟩, ⟨(.int .i64), x1⟩, ⟨(.int .i64), x2⟩, ⟨(.int .i64), x3⟩, ⟨.str, x4⟩]
noncomputable def lG (x0 : d80) (x1 : Int) (x2 : List UInt8) : Option A9Q := R 100 [⟨t13, x0⟩, ⟨(.int .i64), x1⟩, ⟨.str, x2⟩]
noncomputable def cW (x0 : d80) : Option A9Q := R 56 [⟨t13, x0⟩]
noncomputable def lE (x0 : List UInt8) : Option d69 := R 40 [⟨.str, x0⟩]
noncomputable def uN (x0 : d78) : Option d98 := R 41 [⟨t11, x0⟩]
noncomputable def mA (x0 : d78) : Option d69 := R 15 [⟨t11, x0⟩]
noncomputable def nR (x0 : List UInt8) (x1 : FnVal) : Option d69 := R 81 [⟨.str, x0⟩, ⟨(.ptr .fn), x1⟩]
noncomputable def xS (x0 : List (List UInt8)) (x1 : FnVal) : Option d98 := R 131 [⟨(.sl .str), x0⟩, ⟨.fn, x1⟩]
noncomputable def xC (x0 : List (List UInt8)) (x1 : FnVal) : Option d69 := R 80 [⟨(.sl .str), x0⟩, ⟨.fn, x1⟩]
noncomputable def tN (x0 : List (List UInt8)) (x1 : FnVal) : Option d69 := R 44 [⟨(.sl .str), x0⟩, ⟨.fn, x1⟩]
noncomputable def kG (x0 : List UInt8) : Option d69 := R 127 [⟨.str, x0⟩]
noncomputable def lS (x0 : d79) (x1 : FnVal) : Option d69 := R 168 [⟨t12, x0⟩, ⟨(.ptr .fn), x1⟩]
noncomputable def wP (x0 : List d79) (x1 : FnVal) : Option d98 := R 204 [⟨(.sl t12), x0⟩, ⟨.fn, x1⟩]
noncomputable def xY (x0 : List d79) (x1 : FnVal) : Option d69 := R 167 [⟨(.sl t12), x0⟩, ⟨.fn, x1⟩]
noncomputable def mN (x0 : List d79) (x1 : FnVal) : Option d69 := R 128 [⟨(.sl t12), x0⟩, ⟨.fn, x1⟩]
noncomputable def eR (x0 : Int) : Option d69 := R 130 [⟨(.int .i64), x0⟩]
noncomputable def jY (x0 : d79) : Option d69 := R 129 [⟨t12, x0⟩]
noncomputable def eZ (x0 : d80) : Option d69 := R 78 [⟨t13, x0⟩]
noncomputable def AG0 (x0 : d80) : Option d69 := R 38 [⟨t13, x0⟩]
noncomputable def mS (x0 : d81) : Option d69 := R 14 [⟨t14, x0⟩]
noncomputable def qW (x0 : d81) : Option d98 := R 26 [⟨t14, x0⟩]
noncomputable def Ag9 (x0 : Int) : Option d98 := R 67 [⟨(.int .i64), x0⟩]
noncomputable def fK (x0 x1 x2 : Int) : Option d91 := R 83 [⟨(.int .i64), x0⟩, ⟨(.int .i64), x1⟩, ⟨(.int .i64), x2⟩]
noncomputable def cM (x0 x1 : List UInt8) (x2 : Int) (x3 : List UInt8) : Option d91 := R 132 [⟨.str, x0⟩, ⟨.str, x1⟩, ⟨(.int .i64), x2⟩, ⟨.str, x3⟩]
noncomputable def cF (x0 : List UInt8) : Option d91 := R 174 [⟨.str, x0⟩]
noncomputable def bZ (x0 : List UInt8) : Option d91 := R 208 [⟨.str, x0⟩]
noncomputable def jV (x0 : List UInt8) : Option d93 := R 207 [⟨.str, x0⟩]
noncomputable def xZ (x0 : List Int) : Option d93 := R 236 [⟨t58, x0⟩]
noncomputable def iD (x0 x1 : List Int) : Option d93 := R 209 [⟨t58, x0⟩, ⟨t58, x1⟩]
noncomputable def kD (x0 x1 : List Int) : Option d93 := R 210 [⟨t58, x0⟩, ⟨t58, x1⟩]
noncomputable def nL (x0 : List Int) : Option d93 := R 211 [⟨t58, x0⟩]
noncomputable def lL (x0 : List Int) (x1 : List UInt8) : Option d91 := R 212 [⟨t58, x0⟩, ⟨.str, x1⟩]
noncomputable def Ag6 (x0 x1 : List UInt8) : Option d91 := R 173 [⟨.str, x0⟩, ⟨.str, x1⟩]
noncomputable def cA (x0 x1 x2 x3 : List UInt8) : Option d91 := R 133 [⟨.str, x0⟩, ⟨.str, x1⟩, ⟨.str, x2⟩, ⟨.str, x3⟩]
noncomputable def AO7 (x0 x1 x2 x3 : List UInt8) : Option d91 := R 82 [⟨.str, x0⟩, ⟨.str, x1⟩, ⟨.str, x2⟩, ⟨.str, x3⟩]
noncomputable def jR (x0 : List UInt8) (x1 x2 x3 : Int) (x4 : List UInt8) : Option d91 := R 46 [⟨.str, x0⟩, ⟨(.int .i64), x1⟩, ⟨(.int .i64), x2⟩, ⟨(.int .i64), x3⟩, ⟨.str, x4⟩]
noncomputable def A8A (x0 x1 : List UInt8) : Option d91 := R 66 [⟨.str, x0⟩, ⟨.str, x1⟩]
noncomputable def wQ (x0 : List (List UInt8)) : Option A9S := R 101 [⟨(.sl .str), x0⟩]
noncomputable def uL (x0 : List d79) : Option Bk1 := R 102 [⟨(.sl t12), x0⟩]
noncomputable def iG (x0 : d80) : Option A9Q := R 59 [⟨t13, x0⟩]
noncomputable def uJ (x0 : d81) : Option d95 := R 27 [⟨t14, x0⟩]
noncomputable def Af3 (x0 : d80) : Option A9Q := R 32 [⟨t13, x0⟩]
noncomputable def AF6 (x0 : List Int) : Option Bk6 := R 139 [⟨t1, x0⟩]
noncomputable def bF (x0 : List Int) : Option Bi3 := R 91 [⟨t1, x0⟩]
noncomputable def AE2 (x0 : List Int) : Option Bi4 := R 52 [⟨t1, x0⟩]
noncomputable def fO (x0 : List UInt8) (x1 x2 : Int) (x3 : d74) (x4 : List d75) : Option A9S := R 53 [⟨.str, x0⟩, ⟨(.int .i64), x1⟩, ⟨(.int .i64), x2⟩, ⟨t7, x3⟩, ⟨(.sl t8), x4⟩]
noncomputable def bO (x0 : Int) (x1 : List UInt8) : Option d91 := R 145 [⟨(.int .i64), x0⟩, ⟨.str, x1⟩]
noncomputable def gJ (x0 : List (List UInt8)) : Option A9S := R 98 [⟨(.sl .str), x0⟩]
noncomputable def cU (x0 x1 : List UInt8) : Option d91 := R 146 [⟨.str, x0⟩, ⟨.str, x1⟩]
noncomputable def eY (x0 : List (List UInt8)) : Option A9S := R 99 [⟨(.sl .str), x0⟩]
noncomputable def aJ (x0 : List (List UInt8)) : Option d91 := R 55 [⟨(.sl .str), x0⟩]
noncomputable def aM : Option A9Q := R 58 []
noncomputable def dW (x0 : d80) (x1 : Int) (x2 : List (List UInt8)) : Option A9Q := R 57 [⟨t13, x0⟩, ⟨(.int .i64), x1⟩, ⟨(.sl .str), x2⟩]
noncomputable def cT (x0 : List UInt8) (x1 : List Int) : Option d95 := R 25 [⟨.str, x0⟩, ⟨t1, x1⟩]
noncomputable def dO (x0 : List UInt8) : Option d69 := R 45 [⟨.str, x0⟩]
noncomputable def eK (x0 : List (List UInt8)) : Option d69 := R 19 [⟨(.sl .str), x0⟩]
noncomputable def dC (x0 : List Int) : Option d98 := R 70 [⟨t1, x0⟩]
noncomputable def bH (x0 : List Int) : Option Bi3 := R 33 [⟨t1, x0⟩]
noncomputable def dX (x0 : List Int) : Option Bi4 := R 10 [⟨t1, x0⟩]
noncomputable def bG : Option A9Q := R 20 []
noncomputable def qB (x0 : List UInt8) (x1 : Int) (x2 : d74) (x3 : List d75) (x4 : Int) : Option A9S := R 21 [⟨.str, x0⟩, ⟨(.int .i64), x1⟩, ⟨t7, x2⟩, ⟨(.sl t8), x3⟩, ⟨(.int .i64), x4⟩]
noncomputable def iS : Option d91 := R 22 []
noncomputable def jX (x0 : Int) (x1 : List UInt8) : Option d91 := R 89 [⟨(.int .i64), x0⟩, ⟨.str, x1⟩]
noncomputable def Ad0 (x0 x1 : List UInt8) : Option d91 := R 90 [⟨.str, x0⟩, ⟨.str, x1⟩]
noncomputable def Ab9 (x0 : List (List UInt8)) : Option Bc5 := R 50 [⟨(.sl .str), x0⟩]
noncomputable def AG8 (x0 : List (List UInt8)) : Option d91 := R 23 [⟨(.sl .str), x0⟩]
noncomputable def Ac3 (x0 : List UInt8) (x1 : List Int) : Option d86 := R 6 [⟨.str, x0⟩, ⟨t1, x1⟩]
noncomputable def nN (x0 : d81) : Option A9S := R 60 [⟨t14, x0⟩]
noncomputable def AG6 (x0 x1 x2 x3 : List UInt8) : Option Bj1 := R 103 [⟨.str, x0⟩, ⟨.str, x1⟩, ⟨.str, x2⟩, ⟨.str, x3⟩]
noncomputable def jA (x0 : List UInt8) (x1 x2 x3 : Int) (x4 : List UInt8) : Option Bj1 := R 61 [⟨.str, x0⟩, ⟨(.int .i64), x1⟩, ⟨(.int .i64), x2⟩, ⟨(.int .i64), x3⟩, ⟨.str, x4⟩]
noncomputable def eX (x0 : List UInt8) : Option d93 := R 147 [⟨.str, x0⟩]
noncomputable def AO3 (x0 : d74) : Option d69 := R 34 [⟨t7, x0⟩]
noncomputable def pL (x0 : d75) (x1 : FnVal) : Option d69 := R 188 [⟨t8, x0⟩, ⟨(.ptr .fn), x1⟩]
noncomputable def xA (x0 : List d75) (x1 : FnVal) : Option d98 := R 222 [⟨(.sl t8), x0⟩, ⟨.fn, x1⟩]
noncomputable def yQ (x0 : List d75) (x1 : FnVal) : Option d69 := R 187 [⟨(.sl t8), x0⟩, ⟨.fn, x1⟩]
noncomputable def rQ (x0 : List d75) (x1 : FnVal) : Option d69 := R 149 [⟨(.sl t8), x0⟩, ⟨.fn, x1⟩]
noncomputable def AE7 (x0 : Int) : Option d69 := R 189 [⟨(.int .i64), x0⟩]
noncomputable def eL (x0 : d75) : Option d69 := R 150 [⟨t8, x0⟩]
noncomputable def iA (x0 : List d75) : Option d69 := R 109 [⟨(.sl t8), x0⟩]
noncomputable def dR (x0 : d81) : Option d69 := R 36 [⟨t14, x0⟩]
noncomputable def tU (x0 : d81) : Option d95 := R 29 [⟨t14, x0⟩]
noncomputable def A95 (x0 : List d96) (x1 : Int) : Option Bl0 := R 74 [⟨(.sl t30), x0⟩, ⟨(.int .i64), x1⟩]
noncomputable def lI (x0 : List d96) (x1 : Int) (x2 : List d96) : Option Bf8 := R 75 [⟨(.sl t30), x0⟩, ⟨(.int .i64), x1⟩, ⟨(.sl t30), x2⟩]
noncomputable def sZ (v2 : d74) (v5 : d70) (v7 : d74) (v8 : List d75) (v23 v24 : Int) (p : List Nat := [1, 1, 1, 1, 1, 0, 1, 0]) : Option d76 := yC EE R L 62 Go.Proofs.Tryz.f62 p (mk 54 [(2, .dat ⟨(.ptr t7), v2, (.own (.pr (.own .sh) (.pr (.pr (.own .sh) (.pr (.own .sh) (.pr (.own .sh) .sh))) .sh)))⟩), (5, .dat ⟨(.ptr t2), v5, (.own (.pr (.own .sh) .sh))⟩), (7, .dat ⟨(.ptr t7), v7, (.own (.pr (.own .sh) (.pr (.pr (.own .sh) (.pr (.own .sh) (.pr (.own (.own .sh)) .sh))) .sh)))⟩), (8, .dat ⟨(.sl t8), v8, (.own (.pr .sh (.pr (.own .sh) .sh)))⟩), (23, .dat ⟨(.int .i64), v23, .sh⟩), (24, .dat ⟨(.int .i64), v24, .sh⟩)])
noncomputable def tQ (v1 : d81) (v2 : d74) (v5 : List (List UInt8)) (v6 : Int) (v9 : d74) (v10 : List d75) (v59 v60 : Int) (p : List Nat := [1, 1, 1, 1, 1, 1, 1, 0, 1, 0]) : Option d76 := yC EE R L 28 Go.Proofs.Tryz.f28 p (mk 104 [(1, .dat ⟨(.ptr t14), v1, (.own .sh)⟩), (2, .dat ⟨(.ptr t7), v2, (.own (.pr (.own .sh) (.pr (.pr (.own .sh) (.pr (.own .sh) (.pr (.own .sh) .sh))) .sh)))⟩), (5, .dat ⟨(.sl .str), v5, .sh⟩), (6, .dat ⟨(.int .i64), v6, .sh⟩), (9, .dat ⟨(.ptr t7), v9, (.own (.pr (.own .sh) (.pr (.pr (.own .sh) (.pr (.own .sh) (.pr (.own (.own .sh)) .sh))) .sh)))⟩), (10, .dat ⟨(.sl t8), v10, (.own (.pr .sh (.pr (.own .sh) .sh)))⟩), (59, .dat ⟨(.int .i64), v59, .sh⟩), (60, .dat ⟨(.int .i64), v60, .sh⟩)])
noncomputable def AA1 (v2 : d80) (v3 : d78) (v13 : List d75) (v15 : d78) (v16 : List (List UInt8)) (v17 : d80) (v104 v105 : Int) (p : List Nat := [1, 1, 1, 1, 1, 1, 1, 1, 1, 1, 1, 1, 1, 1, 1, 0, 1, 0]) : Option d85 := yC EE R L 30 Go.Proofs.Tryz.f30 p (mk 122 [(2, .dat ⟨(.ptr t13), v2, (.own (.pr (.own .sh) (.pr (.own .sh) .sh)))⟩), (3, .dat ⟨(.ptr t11), v3, (.own .sh)⟩), (13, .dat ⟨(.sl t8), v13, .sh⟩), (15, .dat ⟨(.ptr t11), v15, (.own .sh)⟩), (16, .dat ⟨(.sl .str), v16, (.own .sh)⟩), (17, .dat ⟨(.ptr t13), v17, (.own .sh)⟩), (103, .als 16 [] 0 0), (104, .dat ⟨(.int .i64), v104, .sh⟩), (105, .dat ⟨(.int .i64), v105, .sh⟩)])
noncomputable def xR (v0 : d87) (v1 : Int) (v5 : List Int) (v6 : Int) (p : List Nat := [1, 1, 0, 1, 0]) : Option d90 := yC EE R L 42 Go.Proofs.Tryz.f42 p (mk 21 [(0, .dat ⟨(.ptr t21), v0, (.pin 0 (.own .sh))⟩), (1, .dat ⟨(.int .i64), v1, .sh⟩), (5, .dat ⟨t20, v5, (.own .sh)⟩), (6, .dat ⟨(.int .i64), v6, .sh⟩)])
noncomputable def yN (v0 : d87) (v1 : Int) (v5 : List Int) (v6 : Int) (p : List Nat := [1, 1, 0, 1, 0]) : Option d92 := yC EE R L 18 Go.Proofs.Tryz.f18 p (mk 19 [(0, .dat ⟨(.ptr t21), v0, (.pin 0 (.own .sh))⟩), (1, .dat ⟨(.int .i64), v1, .sh⟩), (5, .dat ⟨t1, v5, (.own .sh)⟩), (6, .dat ⟨(.int .i64), v6, .sh⟩)])
noncomputable def rB (v0 v1 : List (List UInt8)) (v4 : Bool) (v5 : Int) (p : List Nat := [1, 1, 0, 1, 0]) : Option d69 := yC EE R L 77 Go.Proofs.Tryz.f77 p (mk 26 [(0, .dat ⟨(.sl .str), v0, .sh⟩), (1, .dat ⟨(.sl .str), v1, .sh⟩), (4, .dat ⟨.bool, v4, .sh⟩), (5, .dat ⟨(.int .i64), v5, .sh⟩)])
noncomputable def qD (v0 v1 v2 v3 : d80) (v4 : Bool) (v5 : Int) (p : List Nat := [1, 1, 0, 1, 0]) : Option d69 := yC EE R L 37 Go.Proofs.Tryz.f37 p (mk 39 [(0, .dat ⟨t13, v0, .sh⟩), (1, .dat ⟨t13, v1, .sh⟩), (2, .dat ⟨(.ptr t13), v2, (.own .sh)⟩), (3, .dat ⟨(.ptr t13), v3, (.own .sh)⟩), (4, .dat ⟨.bool, v4, .sh⟩), (5, .dat ⟨(.int .i64), v5, .sh⟩)])
noncomputable def uO (v0 : List Int) (v1 : FnVal) (v4 v7 v8 : Int) (p : List Nat := [1, 0, 1, 0]) : Option d98 := yC EE R L 199 Go.Proofs.Tryz.f199 p (mk 19 [(0, .dat ⟨t1, v0, .sh⟩), (1, .dat ⟨.fn, v1, .sh⟩), (4, .dat ⟨(.int .i64), v4, .sh⟩), (7, .dat ⟨(.int .i64), v7, .sh⟩), (8, .dat ⟨(.int .i64), v8, .sh⟩)])
noncomputable def zN (v0 : List Int) (v1 : FnVal) (v4 v5 v7 v8 : Int) (p : List Nat := [1, 0, 1, 0]) : Option d98 := yC EE R L 199 Go.Proofs.Tryz.f199 p (mk 19 [(0, .dat ⟨t1, v0, .sh⟩), (1, .dat ⟨.fn, v1, .sh⟩), (4, .dat ⟨(.int .i64), v4, .sh⟩), (5, .dat ⟨(.int .i64), v5, .sh⟩), (7, .dat ⟨(.int .i64), v7, .sh⟩), (8, .dat ⟨(.int .i64), v8, .sh⟩)])
noncomputable def lO (v3 : List Int) (v4 : Int) (p : List Nat := [1, 1, 1, 0]) : Option d93 := yC EE R L 161 Go.Proofs.Tryz.f161 p (mk 19 [(3, .dat ⟨t1, v3, (.own .sh)⟩), (4, .dat ⟨(.int .i64), v4, .sh⟩)])
noncomputable def xD (v0 : List Int) (v1 v7 v8 : Int) (p : List Nat := [1, 0, 1, 0]) : Option d98 := yC EE R L 192 Go.Proofs.Tryz.f192 p (mk 19 [(0, .dat ⟨t1, v0, .sh⟩), (1, .dat ⟨(.int .i64), v1, .sh⟩), (7, .dat ⟨(.int .i64), v7, .sh⟩), (8, .dat ⟨(.int .i64), v8, .sh⟩)])
noncomputable def zH (v0 : List d72) (v1 : FnVal) (v7 v8 : Int) (p : List Nat := [1, 0, 1, 0]) : Option d98 := yC EE R L 200 Go.Proofs.Tryz.f200 p (mk 19 [(0, .dat ⟨(.sl t4), v0, .sh⟩), (1, .dat ⟨.fn, v1, .sh⟩), (7, .dat ⟨(.int .i64), v7, .sh⟩), (8, .dat ⟨(.int .i64), v8, .sh⟩)])
noncomputable def qL (v1 : d73) (v25 : List (List d72)) (v26 v27 : Int) (p : List Nat := [1, 1, 0, 1, 0]) : Option d69 := yC EE R L 73 Go.Proofs.Tryz.f73 p (mk 73 [(1, .dat ⟨(.ptr t6), v1, (.own .sh)⟩), (25, .dat ⟨t5, v25, .sh⟩), (26, .dat ⟨(.int .i64), v26, .sh⟩), (27, .dat ⟨(.int .i64), v27, .sh⟩)])
noncomputable def nG (v1 : d73) (v5 : List Bool) (v43 : List d72) (v44 v45 : Int) (p : List Nat := [1, 1, 1, 1, 0, 1, 0]) : Option d69 := yC EE R L 73 Go.Proofs.Tryz.f73 p (mk 73 [(1, .dat ⟨(.ptr t6), v1, (.own .sh)⟩), (5, .dat ⟨(.ptr Bk4), v5, (.own .sh)⟩), (43, .dat ⟨(.sl t4), v43, (.own .sh)⟩), (44, .dat ⟨(.int .i64), v44, .sh⟩), (45, .dat ⟨(.int .i64), v45, .sh⟩)])
noncomputable def wA (v0 : d70) (v2 v3 : Int) (v9 : List Int) (v10 v11 : Int) (p : List Nat := [1, 1, 0, 1, 0]) : Option Bi8 := yC EE R L 105 Go.Proofs.Tryz.f105 p (mk 22 [(0, .dat ⟨(.ptr t2), v0, (.pin 0 (.own (.pr (.own .sh) .sh)))⟩), (2, .dat ⟨(.int .i64), v2, .sh⟩), (3, .dat ⟨(.int .i64), v3, .sh⟩), (9, .dat ⟨t1, v9, (.own .sh)⟩), (10, .dat ⟨(.int .i64), v10, .sh⟩), (11, .dat ⟨(.int .i64), v11, .sh⟩)])
noncomputable def wD (v0 : d70) (v5 : List d72) (v8 v9 : Int) (p : List Nat := [1, 1, 0, 1, 0]) : Option Bh9 := yC EE R L 106 Go.Proofs.Tryz.f106 p (mk 23 [(0, .dat ⟨(.ptr t2), v0, (.pin 0 (.own (.pr (.own .sh) .sh)))⟩), (5, .dat ⟨(.sl t4), v5, (.own .sh)⟩), (8, .dat ⟨(.int .i64), v8, .sh⟩), (9, .dat ⟨(.int .i64), v9, .sh⟩)])
noncomputable def wV (v1 : d74) (v3 : List d96) (v9 : List Int) (v10 v11 : Int) (p : List Nat := [1, 1, 0, 1, 0]) : Option Bf8 := yC EE R L 35 Go.Proofs.Tryz.f35 p (mk 36 [(1, .dat ⟨(.ptr t7), v1, (.own .sh)⟩), (3, .dat ⟨(.sl t30), v3, (.own .sh)⟩), (9, .dat ⟨t1, v9, .sh⟩), (10, .dat ⟨(.int .i64), v10, .sh⟩), (11, .dat ⟨(.int .i64), v11, .sh⟩)])
noncomputable def sD (v3 : List Int) (v9 : List d72) (v10 v11 : Int) (p : List Nat := [1, 1, 0, 1, 0]) : Option d93 := yC EE R L 84 Go.Proofs.Tryz.f84 p (mk 26 [(3, .dat ⟨t1, v3, (.own .sh)⟩), (9, .dat ⟨(.sl t4), v9, .sh⟩), (10, .dat ⟨(.int .i64), v10, .sh⟩), (11, .dat ⟨(.int .i64), v11, .sh⟩)])
noncomputable def sW (v5 : List Int) (v26 : List d75) (v27 v28 : Int) (p : List Nat := [1, 1, 1, 1, 0, 1, 0]) : Option d91 := yC EE R L 47 Go.Proofs.Tryz.f47 p (mk 46 [(5, .dat ⟨t1, v5, (.own .sh)⟩), (26, .dat ⟨(.sl t8), v26, .sh⟩), (27, .dat ⟨(.int .i64), v27, .sh⟩), (28, .dat ⟨(.int .i64), v28, .sh⟩)])
noncomputable def pH (v0 v3 : List Int) (v4 : Int) (p : List Nat := [1, 1, 0, 1, 0]) : Option d91 := yC EE R L 183 Go.Proofs.Tryz.f183 p (mk 20 [(0, .dat ⟨t1, v0, .sh⟩), (3, .dat ⟨t20, v3, (.own .sh)⟩), (4, .dat ⟨(.int .i64), v4, .sh⟩)])
noncomputable def pF (v0 : List Int) (v1 : Int) (p : List Nat := [1, 0, 0]) : Option d91 := yC EE R L 142 Go.Proofs.Tryz.f142 p (mk 14 [(0, .dat ⟨t1, v0, (.own .sh)⟩), (1, .dat ⟨(.int .i64), v1, .sh⟩)])
noncomputable def rU (v1 : List d75) (v2 : d74) (v5 : List Int) (v6 : Int) (p : List Nat := [1, 1, 1, 0, 1, 0]) : Option d91 := yC EE R L 93 Go.Proofs.Tryz.f93 p (mk 90 [(1, .dat ⟨(.sl t8), v1, .sh⟩), (2, .dat ⟨(.ptr t7), v2, (.own .sh)⟩), (5, .dat ⟨t1, v5, (.own .sh)⟩), (6, .dat ⟨(.int .i64), v6, .sh⟩)])
noncomputable def sF (v1 : List d75) (v5 : List Int) (v7 : Int) (p : List Nat := [1, 1, 1, 1, 1, 1, 0, 1, 0]) : Option d91 := yC EE R L 93 Go.Proofs.Tryz.f93 p (mk 90 [(1, .dat ⟨(.sl t8), v1, .sh⟩), (5, .dat ⟨t1, v5, (.own .sh)⟩), (7, .dat ⟨(.int .i64), v7, .sh⟩)])
noncomputable def sY (v0 : List d72) (v3 : List Int) (v4 : Int) (p : List Nat := [1, 1, 0, 1, 0]) : Option d91 := yC EE R L 94 Go.Proofs.Tryz.f94 p (mk 34 [(0, .dat ⟨(.sl t4), v0, .sh⟩), (3, .dat ⟨t1, v3, (.own .sh)⟩), (4, .dat ⟨(.int .i64), v4, .sh⟩)])
noncomputable def uG (v1 : List UInt8) (v2 v4 v5 : List Int) (v6 : Int) (p : List Nat := [1, 1, 0, 1, 0]) : Option d93 := yC EE R L 143 Go.Proofs.Tryz.f143 p (mk 194 [(1, .dat ⟨.str, v1, .sh⟩), (2, .dat ⟨(.ptr t40), v2, (.own .sh)⟩), (4, .dat ⟨(.ptr t40), v4, (.own .sh)⟩), (5, .dat ⟨(.ptr t44), v5, (.own .sh)⟩), (6, .dat ⟨(.int .i64), v6, .sh⟩)])
noncomputable def xL (v2 v4 v5 : List Int) (v7 : Int) (p : List Nat := [1, 1, 1, 0, 1, 0]) : Option d93 := yC EE R L 143 Go.Proofs.Tryz.f143 p (mk 194 [(2, .dat ⟨(.ptr t40), v2, (.own .sh)⟩), (4, .dat ⟨(.ptr t40), v4, (.own .sh)⟩), (5, .dat ⟨(.ptr t44), v5, (.own .sh)⟩), (7, .dat ⟨(.int .i64), v7, .sh⟩)])
noncomputable def xX (v2 v4 v5 v10 v11 : List Int) (v12 : Int) (p : List Nat := [1, 1, 1, 1, 1, 1, 0, 1, 0]) : Option d93 := yC EE R L 143 Go.Proofs.Tryz.f143 p (mk 194 [(2, .dat ⟨(.ptr t40), v2, (.own .sh)⟩), (4, .dat ⟨(.ptr t40), v4, (.own .sh)⟩), (5, .dat ⟨(.ptr t44), v5, (.own .sh)⟩), (10, .dat ⟨(.ptr t44), v10, (.own .sh)⟩), (11, .dat ⟨(.ptr t40), v11, (.own .sh)⟩), (12, .dat ⟨(.int .i64), v12, .sh⟩)])
noncomputable def wH (v2 v4 v11 : List Int) (v18 : Int) (p : List Nat := [1, 1, 1, 1, 1, 1, 1, 0, 1, 0]) : Option d93 := yC EE R L 143 Go.Proofs.Tryz.f143 p (mk 194 [(2, .dat ⟨(.ptr t40), v2, (.own .sh)⟩), (4, .dat ⟨(.ptr t40), v4, (.own .sh)⟩), (11, .dat ⟨(.ptr t40), v11, (.own .sh)⟩), (18, .dat ⟨(.int .i64), v18, .sh⟩)])
noncomputable def rN (v2 v4 : AA9) (p : List Nat := [1, 1, 1, 0, 0]) : Option A6p := yC EE R L 96 Go.Proofs.Tryz.f96 p (mk 31 [(2, .dat ⟨(.ptr t42), v2, (.own .sh)⟩), (4, .dat ⟨(.ptr t42), v4, (.own .sh)⟩)])
noncomputable def qM (v1 : AA9) (v3 : Int) (v4 : List Int) (p : List Nat := [1, 1, 1, 0, 0]) : Option d91 := yC EE R L 95 Go.Proofs.Tryz.f95 p (mk 61 [(1, .dat ⟨(.ptr t42), v1, (.own .sh)⟩), (3, .dat ⟨(.int .i64), v3, .sh⟩), (4, .dat ⟨t20, v4, (.own .sh)⟩)])
noncomputable def vI (v1 : AA9) (v3 : Int) (v4 : List Int) (v5 : Int) (p : List Nat := [1, 1, 1, 1, 0, 1, 0]) : Option d91 := yC EE R L 95 Go.Proofs.Tryz.f95 p (mk 61 [(1, .dat ⟨(.ptr t42), v1, (.own .sh)⟩), (3, .dat ⟨(.int .i64), v3, .sh⟩), (4, .dat ⟨t20, v4, (.own .sh)⟩), (5, .dat ⟨(.int .i64), v5, .sh⟩)])
noncomputable def vG (v1 : AA9) (v6 : List Int) (v7 : Int) (p : List Nat := [1, 1, 1, 1, 1, 1, 1, 0, 1, 0]) : Option d91 := yC EE R L 95 Go.Proofs.Tryz.f95 p (mk 61 [(1, .dat ⟨(.ptr t42), v1, (.own .sh)⟩), (6, .dat ⟨t20, v6, (.own .sh)⟩), (7, .dat ⟨(.int .i64), v7, .sh⟩)])
noncomputable def uY (v1 : AA9) (v6 : List Int) (v7 v8 : Int) (p : List Nat := [1, 1, 1, 1, 1, 1, 1, 0, 1, 0, 0, 1, 0, 0, 1, 0]) : Option d91 := yC EE R L 95 Go.Proofs.Tryz.f95 p (mk 61 [(1, .dat ⟨(.ptr t42), v1, (.own .sh)⟩), (6, .dat ⟨t20, v6, (.own .sh)⟩), (7, .dat ⟨(.int .i64), v7, .sh⟩), (8, .dat ⟨(.int .i64), v8, .sh⟩)])
noncomputable def yY (v0 : AA9) (v1 : List UInt8) (v2 v6 : List Int) (v25 : Int) (p : List Nat := [1, 0, 1, 0]) : Option A6p := yC EE R L 137 Go.Proofs.Tryz.f137 p (mk 215 [(0, .dat ⟨(.ptr t42), v0, (.pin 0 (.own .sh))⟩), (1, .dat ⟨.str, v1, .sh⟩), (2, .dat ⟨(.ptr t46), v2, .sh⟩), (6, .dat ⟨(.ptr t46), v6, (.own .sh)⟩), (25, .dat ⟨(.int .i64), v25, .sh⟩)])
noncomputable def zT (v0 : AA9) (v2 v6 : List Int) (v8 : Int) (p : List Nat := [1, 1, 0, 1, 0]) : Option A6p := yC EE R L 137 Go.Proofs.Tryz.f137 p (mk 215 [(0, .dat ⟨(.ptr t42), v0, (.pin 0 (.own .sh))⟩), (2, .dat ⟨(.ptr t46), v2, .sh⟩), (6, .dat ⟨(.ptr t46), v6, (.own .sh)⟩), (8, .dat ⟨(.int .i64), v8, .sh⟩)])
noncomputable def zV (v0 : AA9) (v2 v6 v11 v104 : List Int) (v105 : Int) (p : List Nat := [1, 1, 1, 1, 0, 1, 0]) : Option A6p := yC EE R L 137 Go.Proofs.Tryz.f137 p (mk 215 [(0, .dat ⟨(.ptr t42), v0, (.pin 0 (.own .sh))⟩), (2, .dat ⟨(.ptr t46), v2, .sh⟩), (6, .dat ⟨(.ptr t46), v6, (.own .sh)⟩), (11, .dat ⟨(.ptr Bf6), v11, (.own .sh)⟩), (104, .dat ⟨t40, v104, .sh⟩), (105, .dat ⟨(.int .i64), v105, .sh⟩)])
noncomputable def yF (v0 : AA9) (v2 v6 v11 : List Int) (v114 : Int) (p : List Nat := [1, 1, 1, 1, 1, 0, 1, 0]) : Option A6p := yC EE R L 137 Go.Proofs.Tryz.f137 p (mk 215 [(0, .dat ⟨(.ptr t42), v0, (.pin 0 (.own .sh))⟩), (2, .dat ⟨(.ptr t46), v2, .sh⟩), (6, .dat ⟨(.ptr t46), v6, (.own .sh)⟩), (11, .dat ⟨(.ptr Bf6), v11, (.own .sh)⟩), (114, .dat ⟨(.int .i64), v114, .sh⟩)])
noncomputable def yG (v0 : AA9) (v194 : List Int) (v195 : Int) (p : List Nat := [1, 1, 1, 1, 1, 1, 1, 0]) : Option A6p := yC EE R L 137 Go.Proofs.Tryz.f137 p (mk 215 [(0, .dat ⟨(.ptr t42), v0, (.pin 0 (.own .sh))⟩), (194, .dat ⟨Bf6, v194, .sh⟩), (195, .dat ⟨(.int .i64), v195, .sh⟩)])
noncomputable def tV (v1 : List UInt8) (v2 v4 : AA9) (v5 : List Int) (p : List Nat := [1, 1, 1, 1, 0, 0]) : Option A6p := yC EE R L 87 Go.Proofs.Tryz.f87 p (mk 28 [(1, .dat ⟨.str, v1, .sh⟩), (2, .dat ⟨(.ptr t42), v2, (.own .sh)⟩), (4, .dat ⟨(.ptr t42), v4, (.own .sh)⟩), (5, .dat ⟨(.ptr t46), v5, (.own .sh)⟩)])
noncomputable def xV (v1 : AA9) (v3 : Int) (v4 : List UInt8) (v5 : Int) (p : List Nat := [1, 1, 1, 0, 1, 0]) : Option d91 := yC EE R L 88 Go.Proofs.Tryz.f88 p (mk 56 [(1, .dat ⟨(.ptr t42), v1, (.own .sh)⟩), (3, .dat ⟨(.int .i64), v3, .sh⟩), (4, .dat ⟨.str, v4, .sh⟩), (5, .dat ⟨(.int .i64), v5, .sh⟩)])
noncomputable def vA (v6 v35 : List Int) (v36 : Int) (p : List Nat := [1, 1, 1, 1, 1, 0, 1, 0]) : Option d91 := yC EE R L 88 Go.Proofs.Tryz.f88 p (mk 56 [(6, .dat ⟨t20, v6, (.own .sh)⟩), (35, .dat ⟨t40, v35, .sh⟩), (36, .dat ⟨(.int .i64), v36, .sh⟩)])
noncomputable def sA (v0 : Int) (v5 : List Int) (v7 v8 : Int) (p : List Nat := [1, 1, 0, 1, 0]) : Option d91 := yC EE R L 134 Go.Proofs.Tryz.f134 p (mk 22 [(0, .dat ⟨(.int .i64), v0, .sh⟩), (5, .dat ⟨t20, v5, (.own .sh)⟩), (7, .dat ⟨(.int .i64), v7, .sh⟩), (8, .dat ⟨(.int .i64), v8, .sh⟩)])
noncomputable def tH (v0 v1 v2 v3 : Int) (v16 : List (List Int)) (v17 : Int) (p : List Nat := [1, 0, 1, 0]) : Option Bi0 := yC EE R L 206 Go.Proofs.Tryz.f206 p (mk 43 [(0, .dat ⟨(.int .u32), v0, .sh⟩), (1, .dat ⟨(.int .u32), v1, .sh⟩), (2, .dat ⟨(.int .u32), v2, .sh⟩), (3, .dat ⟨(.int .u32), v3, .sh⟩), (16, .dat ⟨Bk3, v16, .sh⟩), (17, .dat ⟨(.int .i64), v17, .sh⟩)])
noncomputable def tA (v7 : List UInt8) (v8 v9 : List Int) (v25 : Int) (p : List Nat := [1, 1, 1, 0, 1, 0]) : Option d91 := yC EE R L 171 Go.Proofs.Tryz.f171 p (mk 111 [(7, .dat ⟨.str, v7, .sh⟩), (8, .dat ⟨(.ptr A9G), v8, (.own .sh)⟩), (9, .dat ⟨(.ptr A9G), v9, (.own .sh)⟩), (25, .dat ⟨(.int .i64), v25, .sh⟩)])
noncomputable def uK (v8 v9 : List Int) (v41 : Int) (p : List Nat := [1, 1, 1, 1, 0, 1, 0]) : Option d91 := yC EE R L 171 Go.Proofs.Tryz.f171 p (mk 111 [(8, .dat ⟨(.ptr A9G), v8, (.own .sh)⟩), (9, .dat ⟨(.ptr A9G), v9, (.own .sh)⟩), (41, .dat ⟨(.int .i64), v41, .sh⟩)])
noncomputable def nH (v8 v9 : List Int) (v41 v43 : Int) (p : List Nat := [1, 1, 1, 1, 0, 1, 0, 0, 1, 1, 0, 0, 1, 0]) : Option d91 := yC EE R L 171 Go.Proofs.Tryz.f171 p (mk 111 [(8, .dat ⟨(.ptr A9G), v8, (.own .sh)⟩), (9, .dat ⟨(.ptr A9G), v9, (.own .sh)⟩), (41, .dat ⟨(.int .i64), v41, .sh⟩), (43, .dat ⟨(.int .i64), v43, .sh⟩)])
noncomputable def uC (v8 v9 : List Int) (v16 : List UInt8) (v95 : Int) (p : List Nat := [1, 1, 1, 1, 1, 1, 0, 1, 0]) : Option d91 := yC EE R L 171 Go.Proofs.Tryz.f171 p (mk 111 [(8, .dat ⟨(.ptr A9G), v8, (.own .sh)⟩), (9, .dat ⟨(.ptr A9G), v9, (.own .sh)⟩), (16, .dat ⟨.str, v16, .sh⟩), (95, .dat ⟨(.int .i64), v95, .sh⟩)])
noncomputable def tX (v8 v9 : List Int) (v11 v41 v43 v46 : Int) (p : List Nat := [1, 1, 1, 1, 0, 1, 0, 0, 1, 1, 0, 0, 1, 0, 0, 1, 1, 0, 0, 1, 1, 0]) : Option d91 := yC EE R L 171 Go.Proofs.Tryz.f171 p (mk 111 [(8, .dat ⟨(.ptr A9G), v8, (.own .sh)⟩), (9, .dat ⟨(.ptr A9G), v9, (.own .sh)⟩), (11, .dat ⟨(.int .i64), v11, .sh⟩), (41, .dat ⟨(.int .i64), v41, .sh⟩), (43, .dat ⟨(.int .i64), v43, .sh⟩), (46, .dat ⟨(.int .i64), v46, .sh⟩)])
noncomputable def uE (v0 v1 : List UInt8) (v2 : Int) (v7 : List Int) (v8 : Int) (p : List Nat := [1, 1, 0, 1, 0]) : Option d91 := yC EE R L 218 Go.Proofs.Tryz.f218 p (mk 105 [(0, .dat ⟨.str, v0, .sh⟩), (1, .dat ⟨.str, v1, .sh⟩), (2, .dat ⟨(.int .i64), v2, .sh⟩), (7, .dat ⟨(.ptr t53), v7, (.own .sh)⟩), (8, .dat ⟨(.int .i64), v8, .sh⟩)])
noncomputable def wK (v0 v1 : List UInt8) (v2 : Int) (v7 : List Int) (v9 : Int) (p : List Nat := [1, 1, 1, 0, 1, 0]) : Option d91 := yC EE R L 218 Go.Proofs.Tryz.f218 p (mk 105 [(0, .dat ⟨.str, v0, .sh⟩), (1, .dat ⟨.str, v1, .sh⟩), (2, .dat ⟨(.int .i64), v2, .sh⟩), (7, .dat ⟨(.ptr t53), v7, (.own .sh)⟩), (9, .dat ⟨(.int .i64), v9, .sh⟩)])
noncomputable def wL (v1 : List UInt8) (v7 : List Int) (v10 : Int) (p : List Nat := [1, 1, 1, 1, 1, 0, 1, 0]) : Option d91 := yC EE R L 218 Go.Proofs.Tryz.f218 p (mk 105 [(1, .dat ⟨.str, v1, .sh⟩), (7, .dat ⟨(.ptr t53), v7, (.own .sh)⟩), (10, .dat ⟨(.int .i64), v10, .sh⟩)])
noncomputable def yX (v7 v11 : List Int) (v12 : Int) (p : List Nat := [1, 1, 1, 1, 1, 1, 1, 0, 1, 0]) : Option d91 := yC EE R L 218 Go.Proofs.Tryz.f218 p (mk 105 [(7, .dat ⟨(.ptr t53), v7, (.own .sh)⟩), (11, .dat ⟨(.ptr t53), v11, (.own .sh)⟩), (12, .dat ⟨(.int .i64), v12, .sh⟩)])
noncomputable def uF (v7 v11 : List Int) (v12 v13 : Int) (p : List Nat := [1, 1, 1, 1, 1, 1, 1, 0, 1, 0, 0, 1, 0, 0, 0, 1, 0]) : Option d91 := yC EE R L 218 Go.Proofs.Tryz.f218 p (mk 105 [(7, .dat ⟨(.ptr t53), v7, (.own .sh)⟩), (11, .dat ⟨(.ptr t53), v11, (.own .sh)⟩), (12, .dat ⟨(.int .i64), v12, .sh⟩), (13, .dat ⟨(.int .i64), v13, .sh⟩)])
noncomputable def wG (v7 v11 v15 : List Int) (v16 : Int) (p : List Nat := [1, 1, 1, 1, 1, 1, 1, 1, 1, 0, 1, 0]) : Option d91 := yC EE R L 218 Go.Proofs.Tryz.f218 p (mk 105 [(7, .dat ⟨(.ptr t53), v7, (.own .sh)⟩), (11, .dat ⟨(.ptr t53), v11, (.own .sh)⟩), (15, .dat ⟨t20, v15, (.own .sh)⟩), (16, .dat ⟨(.int .i64), v16, .sh⟩)])
noncomputable def wJ (v7 v11 : List Int) (v12 v14 : Int) (p : List Nat := [1, 1, 1, 1, 1, 1, 1, 0, 1, 0, 0, 1, 0, 0, 1, 1, 0]) : Option d91 := yC EE R L 218 Go.Proofs.Tryz.f218 p (mk 105 [(7, .dat ⟨(.ptr t53), v7, (.own .sh)⟩), (11, .dat ⟨(.ptr t53), v11, (.own .sh)⟩), (12, .dat ⟨(.int .i64), v12, .sh⟩), (14, .dat ⟨(.int .i64), v14, .sh⟩)])
noncomputable def mY (v1 : List UInt8) (v5 : List Int) (v10 v11 : Int) (p : List Nat := [1, 1, 0, 1, 0]) : Option d91 := yC EE R L 170 Go.Proofs.Tryz.f170 p (mk 26 [(1, .dat ⟨.str, v1, .sh⟩), (5, .dat ⟨t20, v5, (.own .sh)⟩), (10, .dat ⟨(.int .i64), v10, .sh⟩), (11, .dat ⟨(.int .i64), v11, .sh⟩)])
noncomputable def tY (v0 v1 : List UInt8) (v2 : Int) (v3 : List UInt8) (v9 : List Int) (v10 : List UInt8) (v11 : Int) (p : List Nat := [1, 1, 1, 0, 1, 0]) : Option d91 := yC EE R L 181 Go.Proofs.Tryz.f181 p (mk 42 [(0, .dat ⟨.str, v0, .sh⟩), (1, .dat ⟨.str, v1, .sh⟩), (2, .dat ⟨(.int .i64), v2, .sh⟩), (3, .dat ⟨.str, v3, .sh⟩), (9, .dat ⟨t20, v9, (.own .sh)⟩), (10, .dat ⟨.str, v10, .sh⟩), (11, .dat ⟨(.int .i64), v11, .sh⟩)])
noncomputable def sV (v0 : List Int) (v3 : Int) (p : List Nat := [1, 0, 1, 0]) : Option d69 := yC EE R L 24 Go.Proofs.Tryz.f24 p (mk 16 [(0, .dat ⟨t1, v0, .sh⟩), (3, .dat ⟨(.int .i64), v3, .sh⟩)])
noncomputable def tJ (v0 : Int) (v3 : List Int) (v4 : Int) (p : List Nat := [1, 1, 0, 1, 0]) : Option d91 := yC EE R L 180 Go.Proofs.Tryz.f180 p (mk 20 [(0, .dat ⟨(.int .i64), v0, .sh⟩), (3, .dat ⟨t20, v3, (.own .sh)⟩), (4, .dat ⟨(.int .i64), v4, .sh⟩)])
noncomputable def kF (v0 : List UInt8) (p : List Nat := [1, 0, 0]) : Option d91 := yC EE R L 220 Go.Proofs.Tryz.f220 p (mk 10 [(0, .dat ⟨.str, v0, .sh⟩)])
noncomputable def uI (v3 : List Int) (v4 : Int) (p : List Nat := [1, 1, 0, 1, 0]) : Option d91 := yC EE R L 241 Go.Proofs.Tryz.f241 p (mk 31 [(3, .dat ⟨t20, v3, (.own .sh)⟩), (4, .dat ⟨(.int .i64), v4, .sh⟩)])
noncomputable def uA (v3 : List Int) (v5 : Int) (p : List Nat := [1, 1, 1, 0, 1, 0]) : Option d91 := yC EE R L 241 Go.Proofs.Tryz.f241 p (mk 31 [(3, .dat ⟨t20, v3, (.own .sh)⟩), (5, .dat ⟨(.int .i64), v5, .sh⟩)])
noncomputable def vD (v0 : List UInt8) (v2 v3 : List Int) (v4 : Int) (p : List Nat := [1, 1, 0, 1, 0]) : Option d93 := yC EE R L 240 Go.Proofs.Tryz.f240 p (mk 50 [(0, .dat ⟨.str, v0, .sh⟩), (2, .dat ⟨(.ptr t55), v2, (.own .sh)⟩), (3, .dat ⟨(.ptr t55), v3, (.own .sh)⟩), (4, .dat ⟨(.int .i64), v4, .sh⟩)])
noncomputable def rT (v1 v2 : List Int) (v3 : Int) (p : List Nat := [1, 0, 1, 0]) : Option d93 := yC EE R L 244 Go.Proofs.Tryz.f244 p (mk 41 [(1, .dat ⟨(.ptr t55), v1, (.own .sh)⟩), (2, .dat ⟨(.ptr t55), v2, (.own .sh)⟩), (3, .dat ⟨(.int .i64), v3, .sh⟩)])
noncomputable def uH (v1 v2 : List Int) (v3 v4 : Int) (p : List Nat := [1, 0, 1, 0, 0, 1, 0, 0, 0, 1, 0]) : Option d93 := yC EE R L 244 Go.Proofs.Tryz.f244 p (mk 41 [(1, .dat ⟨(.ptr t55), v1, (.own .sh)⟩), (2, .dat ⟨(.ptr t55), v2, (.own .sh)⟩), (3, .dat ⟨(.int .i64), v3, .sh⟩), (4, .dat ⟨(.int .i64), v4, .sh⟩)])
noncomputable def wZ (v2 v3 v4 v5 : List Int) (v6 : Int) (p : List Nat := [1, 1, 0, 1, 0]) : Option d93 := yC EE R L 242 Go.Proofs.Tryz.f242 p (mk 42 [(2, .dat ⟨(.ptr t55), v2, (.own .sh)⟩), (3, .dat ⟨(.ptr t55), v3, (.own .sh)⟩), (4, .dat ⟨(.ptr t55), v4, (.own .sh)⟩), (5, .dat ⟨(.ptr t55), v5, (.own .sh)⟩), (6, .dat ⟨(.int .i64), v6, .sh⟩)])
noncomputable def vC (v2 v3 v4 v5 : List Int) (v6 v7 : Int) (p : List Nat := [1, 1, 0, 1, 0, 0, 1, 0, 0, 1, 0]) : Option d93 := yC EE R L 242 Go.Proofs.Tryz.f242 p (mk 42 [(2, .dat ⟨(.ptr t55), v2, (.own .sh)⟩), (3, .dat ⟨(.ptr t55), v3, (.own .sh)⟩), (4, .dat ⟨(.ptr t55), v4, (.own .sh)⟩), (5, .dat ⟨(.ptr t55), v5, (.own .sh)⟩), (6, .dat ⟨(.int .i64), v6, .sh⟩), (7, .dat ⟨(.int .i64), v7, .sh⟩)])
noncomputable def sC (v1 v2 v3 : List Int) (v4 : Int) (p : List Nat := [1, 1, 1, 0, 1, 0]) : Option d93 := yC EE R L 243 Go.Proofs.Tryz.f243 p (mk 39 [(1, .dat ⟨(.ptr t55), v1, (.own .sh)⟩), (2, .dat ⟨(.ptr t55), v2, (.own .sh)⟩), (3, .dat ⟨(.ptr t55), v3, (.own .sh)⟩), (4, .dat ⟨(.int .i64), v4, .sh⟩)])
noncomputable def tW (v0 v1 : List UInt8) (v5 v6 : List Int) (v7 : Int) (p : List Nat := [1, 1, 1, 0, 1, 0]) : Option d91 := yC EE R L 219 Go.Proofs.Tryz.f219 p (mk 108 [(0, .dat ⟨.str, v0, .sh⟩), (1, .dat ⟨.str, v1, .sh⟩), (5, .dat ⟨(.ptr t55), v5, (.own .sh)⟩), (6, .dat ⟨(.ptr t55), v6, (.own .sh)⟩), (7, .dat ⟨(.int .i64), v7, .sh⟩)])
noncomputable def qJ (v0 v1 : List UInt8) (v5 v6 : List Int) (v7 : Int) (v8 : List UInt8) (p : List Nat := [1, 1, 1, 0, 1, 0, 0, 1, 0, 0, 1, 0, 0]) : Option d91 := yC EE R L 219 Go.Proofs.Tryz.f219 p (mk 108 [(0, .dat ⟨.str, v0, .sh⟩), (1, .dat ⟨.str, v1, .sh⟩), (5, .dat ⟨(.ptr t55), v5, (.own .sh)⟩), (6, .dat ⟨(.ptr t55), v6, (.own .sh)⟩), (7, .dat ⟨(.int .i64), v7, .sh⟩), (8, .dat ⟨.str, v8, .sh⟩)])
noncomputable def vZ (v0 : List UInt8) (v6 v11 : List Int) (v12 v13 : Int) (p : List Nat := [1, 1, 1, 1, 1, 1, 1, 0, 1, 0]) : Option d91 := yC EE R L 219 Go.Proofs.Tryz.f219 p (mk 108 [(0, .dat ⟨.str, v0, .sh⟩), (6, .dat ⟨(.ptr t55), v6, (.own .sh)⟩), (11, .dat ⟨t20, v11, (.own .sh)⟩), (12, .dat ⟨(.int .i64), v12, .sh⟩), (13, .dat ⟨(.int .i64), v13, .sh⟩)])
noncomputable def tC (v0 v1 : List UInt8) (v5 v6 : List Int) (v7 : Int) (v9 : List Int) (v10 : Int) (p : List Nat := [1, 1, 1, 0, 1, 0, 0, 1, 0, 0, 1, 1, 1, 0, 1, 0]) : Option d91 := yC EE R L 219 Go.Proofs.Tryz.f219 p (mk 108 [(0, .dat ⟨.str, v0, .sh⟩), (1, .dat ⟨.str, v1, .sh⟩), (5, .dat ⟨(.ptr t55), v5, (.own .sh)⟩), (6, .dat ⟨(.ptr t55), v6, (.own .sh)⟩), (7, .dat ⟨(.int .i64), v7, .sh⟩), (9, .dat ⟨(.ptr t55), v9, (.own .sh)⟩), (10, .dat ⟨(.int .i64), v10, .sh⟩)])
noncomputable def pD (v1 v2 v3 : d80) (v4 : Int) (p : List Nat := [1, 1, 0, 1, 0]) : Option A9Q := yC EE R L 56 Go.Proofs.Tryz.f56 p (mk 34 [(1, .dat ⟨(.ptr t13), v1, (.own .sh)⟩), (2, .dat ⟨(.ptr t13), v2, (.own (.pr (.own .sh) (.pr (.own .sh) .sh)))⟩), (3, .dat ⟨(.ptr t13), v3, (.own (.pr (.own .sh) (.pr (.own .sh) .sh)))⟩), (4, .dat ⟨(.int .i64), v4, .sh⟩)])
noncomputable def wR (v0 : List (List UInt8)) (v1 : FnVal) (v4 v7 v8 : Int) (p : List Nat := [1, 0, 1, 0]) : Option d98 := yC EE R L 131 Go.Proofs.Tryz.f131 p (mk 19 [(0, .dat ⟨(.sl .str), v0, .sh⟩), (1, .dat ⟨.fn, v1, .sh⟩), (4, .dat ⟨(.int .i64), v4, .sh⟩), (7, .dat ⟨(.int .i64), v7, .sh⟩), (8, .dat ⟨(.int .i64), v8, .sh⟩)])
noncomputable def zG (v0 : List (List UInt8)) (v1 : FnVal) (v4 v5 v7 v8 : Int) (p : List Nat := [1, 0, 1, 0]) : Option d98 := yC EE R L 131 Go.Proofs.Tryz.f131 p (mk 19 [(0, .dat ⟨(.sl .str), v0, .sh⟩), (1, .dat ⟨.fn, v1, .sh⟩), (4, .dat ⟨(.int .i64), v4, .sh⟩), (5, .dat ⟨(.int .i64), v5, .sh⟩), (7, .dat ⟨(.int .i64), v7, .sh⟩), (8, .dat ⟨(.int .i64), v8, .sh⟩)])
noncomputable def vU (v0 : List d79) (v1 : FnVal) (v4 v7 v8 : Int) (p : List Nat := [1, 0, 1, 0]) : Option d98 := yC EE R L 204 Go.Proofs.Tryz.f204 p (mk 19 [(0, .dat ⟨(.sl t12), v0, .sh⟩), (1, .dat ⟨.fn, v1, .sh⟩), (4, .dat ⟨(.int .i64), v4, .sh⟩), (7, .dat ⟨(.int .i64), v7, .sh⟩), (8, .dat ⟨(.int .i64), v8, .sh⟩)])
noncomputable def zK (v0 : List d79) (v1 : FnVal) (v4 v5 v7 v8 : Int) (p : List Nat := [1, 0, 1, 0]) : Option d98 := yC EE R L 204 Go.Proofs.Tryz.f204 p (mk 19 [(0, .dat ⟨(.sl t12), v0, .sh⟩), (1, .dat ⟨.fn, v1, .sh⟩), (4, .dat ⟨(.int .i64), v4, .sh⟩), (5, .dat ⟨(.int .i64), v5, .sh⟩), (7, .dat ⟨(.int .i64), v7, .sh⟩), (8, .dat ⟨(.int .i64), v8, .sh⟩)])
noncomputable def uZ (v3 : List Int) (v4 : Int) (p : List Nat := [1, 1, 0, 1, 0]) : Option d91 := yC EE R L 208 Go.Proofs.Tryz.f208 p (mk 31 [(3, .dat ⟨t20, v3, (.own .sh)⟩), (4, .dat ⟨(.int .i64), v4, .sh⟩)])
noncomputable def tG (v3 : List Int) (v5 : Int) (p : List Nat := [1, 1, 1, 0, 1, 0]) : Option d91 := yC EE R L 208 Go.Proofs.Tryz.f208 p (mk 31 [(3, .dat ⟨t20, v3, (.own .sh)⟩), (5, .dat ⟨(.int .i64), v5, .sh⟩)])
noncomputable def wN (v2 v3 v9 : List Int) (v10 v11 : Int) (p : List Nat := [1, 1, 0, 1, 0]) : Option d93 := yC EE R L 207 Go.Proofs.Tryz.f207 p (mk 40 [(2, .dat ⟨(.ptr t58), v2, (.own .sh)⟩), (3, .dat ⟨(.ptr t58), v3, (.own .sh)⟩), (9, .dat ⟨t20, v9, (.own .sh)⟩), (10, .dat ⟨(.int .i64), v10, .sh⟩), (11, .dat ⟨(.int .i64), v11, .sh⟩)])
noncomputable def vE (v2 v3 : List Int) (v4 v5 : Int) (v9 : List Int) (v10 v11 v16 : Int) (p : List Nat := [1, 1, 0, 1, 0, 0, 1, 1, 0, 0, 1, 1, 0]) : Option d93 := yC EE R L 207 Go.Proofs.Tryz.f207 p (mk 40 [(2, .dat ⟨(.ptr t58), v2, (.own .sh)⟩), (3, .dat ⟨(.ptr t58), v3, (.own .sh)⟩), (4, .dat ⟨(.int .i64), v4, .sh⟩), (5, .dat ⟨(.int .u8), v5, .sh⟩), (9, .dat ⟨t20, v9, (.own .sh)⟩), (10, .dat ⟨(.int .i64), v10, .sh⟩), (11, .dat ⟨(.int .i64), v11, .sh⟩), (16, .dat ⟨(.int .i64), v16, .sh⟩)])
noncomputable def uM (v1 v2 : List Int) (v5 : Int) (p : List Nat := [1, 0, 1, 0]) : Option d93 := yC EE R L 236 Go.Proofs.Tryz.f236 p (mk 34 [(1, .dat ⟨(.ptr t58), v1, (.own .sh)⟩), (2, .dat ⟨(.ptr t58), v2, (.own .sh)⟩), (5, .dat ⟨(.int .i64), v5, .sh⟩)])
noncomputable def xI (v1 v2 : List Int) (v3 v5 v7 : Int) (p : List Nat := [1, 0, 1, 0, 0, 1, 1, 0, 0, 1, 0, 1, 0]) : Option d93 := yC EE R L 236 Go.Proofs.Tryz.f236 p (mk 34 [(1, .dat ⟨(.ptr t58), v1, (.own .sh)⟩), (2, .dat ⟨(.ptr t58), v2, (.own .sh)⟩), (3, .dat ⟨(.int .u64), v3, .sh⟩), (5, .dat ⟨(.int .i64), v5, .sh⟩), (7, .dat ⟨(.int .i64), v7, .sh⟩)])
noncomputable def vO (v2 v3 v4 : List Int) (v6 : Int) (p : List Nat := [1, 0, 1, 0]) : Option d93 := yC EE R L 209 Go.Proofs.Tryz.f209 p (mk 20 [(2, .dat ⟨(.ptr t58), v2, (.own .sh)⟩), (3, .dat ⟨(.ptr t58), v3, (.own .sh)⟩), (4, .dat ⟨(.ptr t58), v4, (.own .sh)⟩), (6, .dat ⟨(.int .i64), v6, .sh⟩)])
noncomputable def xN (v3 v4 v5 v10 : List Int) (v11 : Int) (p : List Nat := [1, 1, 0, 1, 0]) : Option d93 := yC EE R L 210 Go.Proofs.Tryz.f210 p (mk 50 [(3, .dat ⟨(.ptr t58), v3, (.own .sh)⟩), (4, .dat ⟨(.ptr t58), v4, (.own .sh)⟩), (5, .dat ⟨(.ptr t58), v5, (.own .sh)⟩), (10, .dat ⟨t58, v10, .sh⟩), (11, .dat ⟨(.int .i64), v11, .sh⟩)])
noncomputable def xQ (v3 v4 v5 : List Int) (v6 v7 : Int) (v10 : List Int) (v11 : Int) (v15 : List Int) (v16 : Int) (p : List Nat := [1, 1, 0, 1, 0, 0, 1, 1, 0, 0, 1, 1, 0]) : Option d93 := yC EE R L 210 Go.Proofs.Tryz.f210 p (mk 50 [(3, .dat ⟨(.ptr t58), v3, (.own .sh)⟩), (4, .dat ⟨(.ptr t58), v4, (.own .sh)⟩), (5, .dat ⟨(.ptr t58), v5, (.own .sh)⟩), (6, .dat ⟨(.int .i64), v6, .sh⟩), (7, .dat ⟨(.int .u64), v7, .sh⟩), (10, .dat ⟨t58, v10, .sh⟩), (11, .dat ⟨(.int .i64), v11, .sh⟩), (15, .dat ⟨t58, v15, .sh⟩), (16, .dat ⟨(.int .i64), v16, .sh⟩)])
noncomputable def xJ (v1 v2 v3 : List Int) (v4 : Int) (p : List Nat := [1, 1, 1, 0, 1, 0]) : Option d93 := yC EE R L 211 Go.Proofs.Tryz.f211 p (mk 41 [(1, .dat ⟨(.ptr t58), v1, (.own .sh)⟩), (2, .dat ⟨(.ptr t58), v2, (.own .sh)⟩), (3, .dat ⟨(.ptr t58), v3, (.own .sh)⟩), (4, .dat ⟨(.int .i64), v4, .sh⟩)])
noncomputable def zU (v1 v2 v3 : List Int) (v28 : Int) (p : List Nat := [1, 1, 1, 1, 0, 1, 0]) : Option d93 := yC EE R L 211 Go.Proofs.Tryz.f211 p (mk 41 [(1, .dat ⟨(.ptr t58), v1, (.own .sh)⟩), (2, .dat ⟨(.ptr t58), v2, (.own .sh)⟩), (3, .dat ⟨(.ptr t58), v3, (.own .sh)⟩), (28, .dat ⟨(.int .i64), v28, .sh⟩)])
noncomputable def yZ (v1 : List UInt8) (v2 v5 : List Int) (v6 v13 v14 : Int) (p : List Nat := [1, 1, 1, 0, 1, 0]) : Option d91 := yC EE R L 212 Go.Proofs.Tryz.f212 p (mk 56 [(1, .dat ⟨.str, v1, .sh⟩), (2, .dat ⟨(.ptr t58), v2, (.own .sh)⟩), (5, .dat ⟨t20, v5, (.own .sh)⟩), (6, .dat ⟨(.int .i64), v6, .sh⟩), (13, .dat ⟨(.int .i64), v13, .sh⟩), (14, .dat ⟨(.int .i64), v14, .sh⟩)])
noncomputable def xP (v1 : List UInt8) (v2 v5 : List Int) (v6 v7 v8 v13 v14 v17 : Int) (p : List Nat := [1, 1, 1, 0, 1, 0, 0, 1, 1, 0, 0, 1, 1, 0, 1, 0]) : Option d91 := yC EE R L 212 Go.Proofs.Tryz.f212 p (mk 56 [(1, .dat ⟨.str, v1, .sh⟩), (2, .dat ⟨(.ptr t58), v2, (.own .sh)⟩), (5, .dat ⟨t20, v5, (.own .sh)⟩), (6, .dat ⟨(.int .i64), v6, .sh⟩), (7, .dat ⟨(.int .i64), v7, .sh⟩), (8, .dat ⟨(.int .i64), v8, .sh⟩), (13, .dat ⟨(.int .i64), v13, .sh⟩), (14, .dat ⟨(.int .i64), v14, .sh⟩), (17, .dat ⟨(.int .i64), v17, .sh⟩)])
noncomputable def jC (v0 v1 : List UInt8) (v5 v6 : List Int) (v7 : Int) (p : List Nat := [1, 1, 1, 0, 1, 0]) : Option d91 := yC EE R L 173 Go.Proofs.Tryz.f173 p (mk 36 [(0, .dat ⟨.str, v0, .sh⟩), (1, .dat ⟨.str, v1, .sh⟩), (5, .dat ⟨(.ptr t58), v5, (.own .sh)⟩), (6, .dat ⟨(.ptr t58), v6, (.own .sh)⟩), (7, .dat ⟨(.int .i64), v7, .sh⟩)])
noncomputable def pC (v0 : List UInt8) (v1 v2 : Int) (v8 : d74) (v11 : List (List UInt8)) (v12 : Int) (p : List Nat := [1, 1, 0, 1, 0]) : Option A9S := yC EE R L 53 Go.Proofs.Tryz.f53 p (mk 45 [(0, .dat ⟨.str, v0, .sh⟩), (1, .dat ⟨(.int .i64), v1, .sh⟩), (2, .dat ⟨(.int .i64), v2, .sh⟩), (8, .dat ⟨(.ptr t7), v8, (.own .sh)⟩), (11, .dat ⟨(.sl .str), v11, (.own .sh)⟩), (12, .dat ⟨(.int .i64), v12, .sh⟩)])
noncomputable def rA (v0 v3 : List (List UInt8)) (v4 : Int) (p : List Nat := [1, 1, 0, 1, 0]) : Option A9S := yC EE R L 98 Go.Proofs.Tryz.f98 p (mk 22 [(0, .dat ⟨(.sl .str), v0, .sh⟩), (3, .dat ⟨(.sl .str), v3, (.own .sh)⟩), (4, .dat ⟨(.int .i64), v4, .sh⟩)])
noncomputable def qC (v0 v3 : List (List UInt8)) (v4 : Int) (p : List Nat := [1, 1, 0, 1, 0]) : Option A9S := yC EE R L 99 Go.Proofs.Tryz.f99 p (mk 27 [(0, .dat ⟨(.sl .str), v0, .sh⟩), (3, .dat ⟨(.sl .str), v3, (.own .sh)⟩), (4, .dat ⟨(.int .i64), v4, .sh⟩)])
noncomputable def rO (v3 : List (List UInt8)) (p : List Nat := [1, 1, 0, 0]) : Option d91 := yC EE R L 55 Go.Proofs.Tryz.f55 p (mk 14 [(3, .dat ⟨(.sl .str), v3, (.own .sh)⟩)])
noncomputable def aD (v1 : Int) (v2 : List (List UInt8)) (v3 v6 : d80) (v7 : Int) (p : List Nat := [1, 0, 1, 0]) : Option A9Q := yC EE R L 57 Go.Proofs.Tryz.f57 p (mk 25 [(1, .dat ⟨(.int .i64), v1, .sh⟩), (2, .dat ⟨(.sl .str), v2, .sh⟩), (3, .dat ⟨(.ptr t13), v3, (.own .sh)⟩), (6, .dat ⟨(.ptr t13), v6, (.own (.pr (.own .sh) (.pr (.own .sh) .sh)))⟩), (7, .dat ⟨(.int .i64), v7, .sh⟩)])
noncomputable def gP (v1 : Int) (v2 : List (List UInt8)) (v3 v6 : d80) (v7 : Int) (p : List Nat := [1, 0, 1, 0]) : Option A9Q := yC EE R L 57 Go.Proofs.Tryz.f57 p (mk 25 [(1, .dat ⟨(.int .i64), v1, .sh⟩), (2, .dat ⟨(.sl .str), v2, .sh⟩), (3, .dat ⟨(.ptr t13), v3, (.own (.pr .sh (.pr (.own .sh) .sh)))⟩), (6, .dat ⟨(.ptr t13), v6, (.own (.pr (.own .sh) (.pr (.own .sh) .sh)))⟩), (7, .dat ⟨(.int .i64), v7, .sh⟩)])
noncomputable def tT (v0 : List UInt8) (v4 v11 : Int) (v12 : List (List UInt8)) (v27 : List (List d72)) (v28 v29 : Int) (p : List Nat := [1, 1, 1, 0, 1, 0]) : Option A9S := yC EE R L 21 Go.Proofs.Tryz.f21 p (mk 48 [(0, .dat ⟨.str, v0, .sh⟩), (4, .dat ⟨(.int .i64), v4, .sh⟩), (11, .dat ⟨(.int .i64), v11, .sh⟩), (12, .dat ⟨(.sl .str), v12, (.own .sh)⟩), (27, .dat ⟨t5, v27, .sh⟩), (28, .dat ⟨(.int .i64), v28, .sh⟩), (29, .dat ⟨(.int .i64), v29, .sh⟩)])
noncomputable def mU (v3 v9 : List (List UInt8)) (v10 v11 : Int) (p : List Nat := [1, 1, 0, 1, 0]) : Option Bc5 := yC EE R L 50 Go.Proofs.Tryz.f50 p (mk 53 [(3, .dat ⟨(.sl .str), v3, (.own .sh)⟩), (9, .dat ⟨(.sl .str), v9, .sh⟩), (10, .dat ⟨(.int .i64), v10, .sh⟩), (11, .dat ⟨(.int .i64), v11, .sh⟩)])
noncomputable def rL (v3 : List (List UInt8)) (v6 : List (List (List UInt8))) (p : List Nat := [1, 1, 1, 1, 0, 0]) : Option Bc5 := yC EE R L 50 Go.Proofs.Tryz.f50 p (mk 53 [(3, .dat ⟨(.sl .str), v3, .sh⟩), (6, .dat ⟨t65, v6, (.own .sh)⟩)])
noncomputable def jM (v3 : List (List UInt8)) (v6 : List (List (List UInt8))) (v7 : List (List UInt8)) (v8 : Int) (p : List Nat := [1, 1, 1, 1, 0, 0, 0, 1, 0, 1, 0, 1, 0]) : Option Bc5 := yC EE R L 50 Go.Proofs.Tryz.f50 p (mk 53 [(3, .dat ⟨(.sl .str), v3, .sh⟩), (6, .dat ⟨t65, v6, (.own .sh)⟩), (7, .dat ⟨(.sl .str), v7, (.own .sh)⟩), (8, .dat ⟨(.int .i64), v8, .sh⟩)])
noncomputable def qA (v0 : List UInt8) (v3 : List Int) (v4 : Int) (p : List Nat := [1, 1, 0, 1, 0]) : Option d93 := yC EE R L 147 Go.Proofs.Tryz.f147 p (mk 20 [(0, .dat ⟨.str, v0, .sh⟩), (3, .dat ⟨t1, v3, (.own .sh)⟩), (4, .dat ⟨(.int .i64), v4, .sh⟩)])
noncomputable def xW (v0 : List d75) (v1 : FnVal) (v4 v7 v8 : Int) (p : List Nat := [1, 0, 1, 0]) : Option d98 := yC EE R L 222 Go.Proofs.Tryz.f222 p (mk 19 [(0, .dat ⟨(.sl t8), v0, .sh⟩), (1, .dat ⟨.fn, v1, .sh⟩), (4, .dat ⟨(.int .i64), v4, .sh⟩), (7, .dat ⟨(.int .i64), v7, .sh⟩), (8, .dat ⟨(.int .i64), v8, .sh⟩)])
noncomputable def zD (v0 : List d75) (v1 : FnVal) (v4 v5 v7 v8 : Int) (p : List Nat := [1, 0, 1, 0]) : Option d98 := yC EE R L 222 Go.Proofs.Tryz.f222 p (mk 19 [(0, .dat ⟨(.sl t8), v0, .sh⟩), (1, .dat ⟨.fn, v1, .sh⟩), (4, .dat ⟨(.int .i64), v4, .sh⟩), (5, .dat ⟨(.int .i64), v5, .sh⟩), (7, .dat ⟨(.int .i64), v7, .sh⟩), (8, .dat ⟨(.int .i64), v8, .sh⟩)])
theorem AB4 (x0 : Int) : @Eq _ (oY (zE EE R L) x0) (some (eqI x0 0, ())) := by kernel_rfl
theorem AM7 (x0 : d70) : @Eq _ (sM (zE EE R L) x0) (cond (!x0.2.2.1)
 (cond (zA x0.2.1)
 (cond (Nat.ble x0.1.length x0.1.length)
 (cond (Nat.ble x0.2.1.toNat x0.1.length)
 ((wI R (List.drop x0.2.1.toNat (List.take x0.1.length x0.1)) (FnVal.mk (148 : Nat) FCaps.nil)).bind fun r0 =>
 some (r0.1, (x0, ())))
 none)
 none)
 none)
 (some (false, (x0, ())))) := by kernel_rfl
theorem Aw2 (x0 : List UInt8) : @Eq _ (gE (zE EE R L) x0) ((oU R x0 140).bind fun r0 =>
 (xG R r0.1 12 0 7).bind fun r1 =>
 (wM R r1.2.1 12).bind fun r2 =>
 (xG R r2.2.1 11 0 9999).bind fun r3 =>
 (yL R r3.2.1 0 2).bind fun r4 =>
 sZ R L ([], (([], ([], ([], ()))), ())) r4.2.1 (r3.1, ((r1.1, (r2.1, (List.replicate (15 : Int).toNat [], ()))), ())) [] r4.1 0) := by kernel_rfl
theorem AD9 (v2 : d74) (v5 : d70) (v7 : d74) (v8 : List d75) (v23 v24 : Int) : @Eq _ (sZ R L v2 v5 v7 v8 v23 v24 ([1, 1, 1, 1, 1, 0, 1, 0] ++ [0])) (cond (decide (v24 < v23))
 ((yL R v5 0 19).bind fun r0 =>
 (yL R r0.2.1 0 32).bind fun r1 =>
 (xG R r1.2.1 r1.1 0 999999).bind fun r2 =>
 cond (yB (v8.length + ([(r0.1, (r2.1, ()))]).length))
 (sZ R L v2 r2.2.1 v7 (v8 ++ [(r0.1, (r2.1, ()))]) v23 (IntKind.wrap .i64 (v24 + 1)))
 none)
 ((sM R v5).bind fun r0 =>
 cond (!r0.1)
 (some (([], (([], ([], ([], ()))), ())), ([], (false, ()))))
 ((AO3 R v7).bind fun r1 =>
 cond (!r1.1)
 (some (([], (([], ([], ([], ()))), ())), ([], (false, ()))))
 ((iA R v8).bind fun r2 =>
 cond (!r2.1)
 (some (([], (([], ([], ([], ()))), ())), ([], (false, ()))))
 (some (v7, (v8, (true, ())))))))) := by kernel_rfl
theorem Am6 (x0 : List UInt8) : @Eq _ (iC (zE EE R L) x0) ((oU R x0 7).bind fun r0 =>
 (wM R r0.1 2).bind fun r1 =>
 (sM R r1.2.1).bind fun r2 =>
 some (r1.1, (r2.1, ()))) := by kernel_rfl
theorem Ah9 (x0 : d81) : @Eq _ (rS (zE EE R L) x0) ((nN R x0).bind fun r0 =>
 (AG8 R r0.1).bind fun r1 =>
 cond (!(eqS r1.1 x0.2.1.2.2.2.2.2.2.1))
 (some (([], (([], ([], ([], ()))), ())), ([], (false, ()))))
 (cond (Nat.blt (0 : Int).toNat r0.1.length)
 ((jA R x0.1 1 (IntKind.wrap .i64 (16 * x0.2.1.2.1)) x0.2.1.1 (r0.1.getD (0 : Int).toNat [])).bind fun r2 =>
 (gE R r2.1).bind fun r3 =>
 cond (!r2.2.1)
 (some (([], (([], ([], ([], ()))), ())), ([], (false, ()))))
 (cond (!r3.2.2.1)
 (some (([], (([], ([], ([], ()))), ())), ([], (false, ()))))
 (tQ R L x0 ([], (([], ([], ([], ()))), ())) r0.1 (IntKind.wrap .i64 (16 * x0.2.1.2.1)) r3.1 r3.2.1 (r3.1.2.1.2.2.1.length : Int) 0)))
 none)) := by kernel_rfl
theorem dS (v1 : d81) (v2 : d74) (v5 : List (List UInt8)) (v6 : Int) (v9 : d74) (v10 : List d75) (v59 v60 : Int) : @Eq _ (tQ R L v1 v2 v5 v6 v9 v10 v59 v60 ([1, 1, 1, 1, 1, 1, 1, 0, 1, 0] ++ [0])) (cond (decide (v60 < v59))
 (cond (zA (IntKind.wrap .i64 (1 + v60)))
 (cond (Nat.blt (IntKind.wrap .i64 (1 + v60)).toNat v5.length)
 ((jA R v1.1 2 (IntKind.wrap .i64 ((IntKind.wrap .i64 (v6 + 1)) + v60)) v1.2.1.1 (v5.getD (IntKind.wrap .i64 (1 + v60)).toNat [])).bind fun r0 =>
 (iC R r0.1).bind fun r1 =>
 cond (!r0.2.1)
 (some (([], (([], ([], ([], ()))), ())), ([], (false, ()))))
 (cond (!r1.2.1)
 (some (([], (([], ([], ([], ()))), ())), ([], (false, ()))))
 (cond (zA v60)
 (cond (Nat.blt v60.toNat v9.2.1.2.2.1.length)
 (tQ R L v1 v2 v5 v6 (v9.1, ((v9.2.1.1, (v9.2.1.2.1, (v9.2.1.2.2.1.set v60.toNat r1.1, v9.2.1.2.2.2))), v9.2.2)) v10 v59 (IntKind.wrap .i64 (v60 + 1)))
 none)
 none)))
 none)
 none)
 ((AO3 R v9).bind fun r0 =>
 some (v9, (v10, (r0.1, ()))))) := by kernel_rfl
theorem Ad8 (x0 : d81) : @Eq _ (rY (zE EE R L) x0) ((mS R x0).bind fun r0 =>
 cond (!r0.1)
 (some (([], ((0, (0, (0, (0, ([], ([], ([], ()))))))), (([], ([], ())), (false, (false, ()))))), ([], (1, ()))))
 ((qW R x0).bind fun r1 =>
 cond (!(eqI r1.1 0))
 ((uJ R x0).bind fun r2 =>
 some (r2.1, ([], (r1.1, ()))))
 ((rS R x0).bind fun r2 =>
 cond (!r2.2.2.1)
 ((tU R x0).bind fun r3 =>
 some (r3.1, ([], (10, ()))))
 ((uJ R x0).bind fun r3 =>
 some (r3.1, (r2.2.1, (0, ()))))))) := by kernel_rfl
theorem AM5 (x0 : d81) : @Eq _ (qO (zE EE R L) x0) ((qW R x0).bind fun r0 =>
 cond (!(eqI r0.1 0))
 (some (([], ([], ())), ((0, (0, (0, (0, ([], ([], ([], ()))))))), ([], (r0.1, ())))))
 ((uN R x0.2.1).bind fun r1 =>
 cond (eqI r1.1 0)
 (some (([], ([], ())), ((0, (0, (0, (0, ([], ([], ([], ()))))))), ([], (5, ())))))
 ((rS R x0).bind fun r2 =>
 cond (!r2.2.2.1)
 (some (([], ([], ())), ((0, (0, (0, (0, ([], ([], ([], ()))))))), ([], (10, ())))))
 ((dR R x0).bind fun r3 =>
 cond (!r3.1)
 (some (([], ([], ())), ((0, (0, (0, (0, ([], ([], ([], ()))))))), ([], (10, ())))))
 ((Ag3 R x0).bind fun r4 =>
 cond (!r4.2.2.1)
 (some (([], ([], ())), ((0, (0, (0, (0, ([], ([], ([], ()))))))), ([], (10, ())))))
 ((Aw3 R r2.1 r4.1 r4.2.1).bind fun r5 =>
 (Ag9 R (IntKind.wrap .i64 (x0.2.1.1 + 1))).bind fun r6 =>
 cond (zA r6.1)
 (cond (Nat.blt r6.1.toNat x0.2.2.1.1.length)
 ((A8A R x0.2.1.2.2.2.2.1 (x0.2.2.1.1.getD r6.1.toNat [])).bind fun r7 =>
 (qB R x0.1 (IntKind.wrap .i64 (1 - x0.2.1.2.1)) r5.1 r5.2.1 (IntKind.wrap .i64 (x0.2.1.1 + 1))).bind fun r8 =>
 (AG8 R r8.1).bind fun r9 =>
 AA1 R L ([], ([], ())) (0, (0, (0, (0, ([], ([], ([], ()))))))) r5.2.1 (IntKind.wrap .i64 (x0.2.1.1 + 1), (IntKind.wrap .i64 (1 - x0.2.1.2.1), (x0.2.1.2.2.1, (x0.2.1.2.2.2.1, (r7.1, (x0.2.1.2.2.2.2.2.1, (r9.1, x0.2.1.2.2.2.2.2.2.2))))))) r8.1 x0.2.2.1 (r8.1.length : Int) 0)
 none)
 none)))))) := by kernel_rfl
theorem A3N (x0 : d81) : @Eq _ (bP (zE EE R L) x0) ((mS R x0).bind fun r0 =>
 cond (!r0.1)
 (some (([], ((0, (0, (0, (0, ([], ([], ([], ()))))))), (([], ([], ())), (false, (false, ()))))), ([], (1, ()))))
 ((qO R x0).bind fun r1 =>
 cond (!(eqI r1.2.2.2.1 0))
 ((mM R x0 r1.2.2.2.1).bind fun r2 =>
 some (r2.1, ([], (r1.2.2.2.1, ()))))
 ((Af3 R r1.1).bind fun r2 =>
 some ((x0.1, (r1.2.1, (r2.1, x0.2.2.2))), (r1.2.2.1, (0, ())))))) := by kernel_rfl
theorem A2a (x0 : d81) : @Eq _ (bM (zE EE R L) x0) ((mS R x0).bind fun r0 =>
 cond (!r0.1)
 (some (([], ((0, (0, (0, (0, ([], ([], ([], ()))))))), (([], ([], ())), (false, (false, ()))))), (1, ())))
 (cond x0.2.2.2.2.1
 ((uJ R x0).bind fun r1 =>
 some (r1.1, (18, ())))
 (cond x0.2.2.2.1
 ((uJ R x0).bind fun r1 =>
 some (r1.1, (17, ())))
 (cond (eqI x0.2.1.2.2.2.1 1000000)
 ((uJ R x0).bind fun r1 =>
 some (r1.1, (7, ())))
 ((rS R x0).bind fun r1 =>
 cond (!r1.2.2.1)
 ((tU R x0).bind fun r2 =>
 some (r2.1, (10, ())))
 ((dR R x0).bind fun r2 =>
 cond (!r2.1)
 ((tU R x0).bind fun r3 =>
 some (r3.1, (10, ())))
 ((uJ R x0).bind fun r3 =>
 some ((r3.1.1, ((r3.1.2.1.1, (r3.1.2.1.2.1, (r3.1.2.1.2.2.1, (IntKind.wrap .i64 (r3.1.2.1.2.2.2.1 + 1), r3.1.2.1.2.2.2.2)))), (r3.1.2.2.1, (true, r3.1.2.2.2.2)))), (0, ()))))))))) := by kernel_rfl
theorem A5d (x0 x1 : List Int) : @Eq _ (AV2 (zE EE R L) x0 x1) (cond (decide (1048576 < (x0.length : Int)))
 (some (true, ()))
 (cond (decide (1048576 < (x1.length : Int)))
 (some (true, ()))
 ((AO5 R x0).bind fun r0 =>
 (fZ R x1 12).bind fun r1 =>
 (Ac3 R r0.1 r1.1).bind fun r2 =>
 (Ad3 R r0.1 r1.1).bind fun r3 =>
 (rY R r2.1).bind fun r4 =>
 (bP R r2.1).bind fun r5 =>
 (dX R r1.1).bind fun r6 =>
 (AN5 R r6.1).bind fun r7 =>
 (bM R r2.1).bind fun r8 =>
 cond (eqI r2.2.1 0)
 ((nD R r2.1 r3.1).bind fun r9 =>
 cond r9.1
 ((mS R r2.1).bind fun r10 =>
 cond r10.1
 (cond r2.1.2.2.2.1
 (cond (eqI r4.2.2.1 0)
 (cond (eqI (r4.2.1.length : Int) 0)
 ((nD R r4.1 r2.1).bind fun r11 =>
 cond r11.1
 (cond (eqI r5.2.2.1 5)
 (cond (eqI r6.2.1 0)
 (cond (eqI r7.2.1 0)
 (cond (eqI (r7.1.length : Int) 0)
 (cond (eqI r8.2.1 17)
 ((mA R r2.1.2.1).bind fun r12 =>
 some (r12.1, ()))
 (some (false, ())))
 (some (false, ())))
 (some (false, ())))
 (some (false, ())))
 (some (false, ())))
 (some (false, ())))
 (some (false, ())))
 (some (false, ())))
 (some (false, ())))
 (some (false, ())))
 (some (false, ())))
 (some (false, ()))))) := by kernel_rfl
theorem Ax8 (x0 : List Int) : @Eq _ (kI (zE EE R L) x0) (some ((x0, (0, (Int.tmod (x0.length : Int) 1000, ()))), ())) := by kernel_rfl
theorem AL9 (x0 : d87) : @Eq _ (vK (zE EE R L) x0) (cond (decide ((IntKind.wrap .i64 (x0.2.1 + 1)) ≤ (x0.1.length : Int)))
 (cond (zA (IntKind.wrap .i64 ((IntKind.wrap .i64 (x0.2.1 + 1)) - 1)))
 (cond (Nat.blt (IntKind.wrap .i64 ((IntKind.wrap .i64 (x0.2.1 + 1)) - 1)).toNat x0.1.length)
 (cond (zA (IntKind.wrap .i64 ((IntKind.wrap .i64 (x0.2.1 + 1)) - 1)))
 (cond (Nat.blt (IntKind.wrap .i64 ((IntKind.wrap .i64 (x0.2.1 + 1)) - 1)).toNat x0.1.length)
 (some (IntKind.wrap .i64 (x0.1.getD (IntKind.wrap .i64 ((IntKind.wrap .i64 (x0.2.1 + 1)) - 1)).toNat 0), ((x0.1, (IntKind.wrap .i64 (x0.2.1 + 1), (Int.tmod (IntKind.wrap .i64 ((IntKind.wrap .i64 ((IntKind.wrap .i64 (x0.2.2.1 * 31)) + (IntKind.wrap .i64 (x0.1.getD (IntKind.wrap .i64 ((IntKind.wrap .i64 (x0.2.1 + 1)) - 1)).toNat 0)))) + 7)) 2147483648, x0.2.2.2))), ())))
 none)
 none)
 none)
 none)
 (cond (decide (3000 < (IntKind.wrap .i64 (x0.2.1 + 1))))
 (some (0, ((x0.1, (IntKind.wrap .i64 (x0.2.1 + 1), x0.2.2)), ())))
 (some (Int.tmod (IntKind.wrap .i64 (Int.tdiv (Int.tmod (IntKind.wrap .i64 ((IntKind.wrap .i64 (x0.2.2.1 * 1103515245)) + 12345)) 2147483648) 65536)) 256, ((x0.1, (IntKind.wrap .i64 (x0.2.1 + 1), (Int.tmod (IntKind.wrap .i64 ((IntKind.wrap .i64 (x0.2.2.1 * 1103515245)) + 12345)) 2147483648, x0.2.2.2))), ()))))) := by kernel_rfl
theorem AL8 (x0 : d87) (x1 : Int) : @Eq _ (vL (zE EE R L) x0 x1) (cond (decide (x1 ≤ 1))
 (some (0, (x0, ())))
 (cond (decide (x1 ≤ 256))
 ((vK R x0).bind fun r0 =>
 cond (eqI x1 0)
 none
 (some (Int.tmod r0.1 x1, (r0.2.1, ()))))
 ((vK R x0).bind fun r0 =>
 (vK R r0.2.1).bind fun r1 =>
 (vK R r1.2.1).bind fun r2 =>
 cond (eqI x1 0)
 none
 (some (Int.tmod (IntKind.wrap .i64 ((IntKind.wrap .i64 ((IntKind.wrap .i64 (r0.1 * 65536)) + (IntKind.wrap .i64 (r1.1 * 256)))) + r2.1)) x1, (r2.2.1, ())))))) := by kernel_rfl
theorem AH3 (x0 : d87) (x1 : Int) : @Eq _ (nV (zE EE R L) x0 x1) (xR R L x0 x1 [] 0) := by kernel_rfl
theorem kW (v0 : d87) (v1 : Int) (v5 : List Int) (v6 : Int) : @Eq _ (xR R L v0 v1 v5 v6 ([1, 1, 0, 1, 0] ++ [0])) (cond (decide (v6 < v1))
 ((vL R v0 256).bind fun r0 =>
 cond (yB (v5.length + ([IntKind.wrap .u8 r0.1]).length))
 (xR R L r0.2.1 v1 (v5 ++ [IntKind.wrap .u8 r0.1]) (IntKind.wrap .i64 (v6 + 1)))
 none)
 (some (List.map (fun (n : Int) => UInt8.ofNat n.toNat) v5, (v0, ())))) := by kernel_rfl
theorem AN6 (x0 : d87) : @Eq _ (kJ (zE EE R L) x0) ((nV R x0 32).bind fun r0 =>
 some (r0.1, (r0.2.1, ()))) := by kernel_rfl
theorem A7U (x0 : List Int) : @Eq _ (AO5 (zE EE R L) x0) ((kI R x0).bind fun r0 =>
 (kJ R r0.1).bind fun r1 =>
 some (r1.1, ())) := by kernel_rfl
theorem dK (x0 : d87) (x1 : Int) : @Eq _ (rJ (zE EE R L) x0 x1) (yN R L x0 x1 [] 0) := by kernel_rfl
theorem oT (v0 : d87) (v1 : Int) (v5 : List Int) (v6 : Int) : @Eq _ (yN R L v0 v1 v5 v6 ([1, 1, 0, 1, 0] ++ [0])) (cond (decide (v6 < v1))
 ((vL R v0 8).bind fun r0 =>
 cond (yB (v5.length + ([r0.1]).length))
 (yN R L r0.2.1 v1 (v5 ++ [r0.1]) (IntKind.wrap .i64 (v6 + 1)))
 none)
 (some (v5, (v0, ())))) := by kernel_rfl
theorem A3e (x0 : List Int) (x1 : Int) : @Eq _ (fZ (zE EE R L) x0 x1) ((kI R x0).bind fun r0 =>
 (rJ R r0.1 x1).bind fun r1 =>
 some (r1.1, ())) := by kernel_rfl
theorem BC3 (x0 : List UInt8) (x1 : List Int) : @Eq _ (Ad3 (zE EE R L) x0 x1) (cond (decide (65536 < (x0.length : Int)))
 (some (([], ((0, (0, (0, (0, ([], ([], ([], ()))))))), (([], ([], ())), (false, (false, ()))))), (2, ())))
 (cond (decide (4096 < (x1.length : Int)))
 (some (([], ((0, (0, (0, (0, ([], ([], ([], ()))))))), (([], ([], ())), (false, (false, ()))))), (2, ())))
 (cond (!(eqI (x0.length : Int) 32))
 (some (([], ((0, (0, (0, (0, ([], ([], ([], ()))))))), (([], ([], ())), (false, (false, ()))))), (8, ())))
 (cond (!(eqI (x1.length : Int) 12))
 (some (([], ((0, (0, (0, (0, ([], ([], ([], ()))))))), (([], ([], ())), (false, (false, ()))))), (8, ())))
 ((lU R x1).bind fun r0 =>
 cond (!r0.1)
 (some (([], ((0, (0, (0, (0, ([], ([], ([], ()))))))), (([], ([], ())), (false, (false, ()))))), (4, ())))
 ((cT R x0 x1).bind fun r1 =>
 some (r1.1, (0, ())))))))) := by kernel_rfl
theorem Ab2 (x0 : d81) (x1 : Int) : @Eq _ (mM (zE EE R L) x0 x1) (cond (eqI x1 10)
 ((tU R x0).bind fun r0 =>
 some (r0.1, ()))
 ((uJ R x0).bind fun r0 =>
 some (r0.1, ()))) := by kernel_rfl
theorem A9B (x0 : d74) : @Eq _ (AN5 (zE EE R L) x0) ((AO3 R x0).bind fun r0 =>
 cond (!r0.1)
 (some ([], (1, ())))
 ((eA R x0).bind fun r1 =>
 some (r1.1, (0, ())))) := by kernel_rfl
theorem Az4 (x0 x1 : List (List UInt8)) : @Eq _ (gG (zE EE R L) x0 x1) (cond (!(eqI (x0.length : Int) (x1.length : Int)))
 (some (false, ()))
 (rB R L x0 x1 false 0)) := by kernel_rfl
theorem AD0 (v0 v1 : List (List UInt8)) (v4 : Bool) (v5 : Int) : @Eq _ (rB R L v0 v1 v4 v5 ([1, 1, 0, 1, 0] ++ [0])) (cond (decide (v5 < (v0.length : Int)))
 (cond (zA v5)
 (cond (Nat.blt v5.toNat v0.length)
 (cond (zA v5)
 (cond (Nat.blt v5.toNat v1.length)
 (cond (!(eqS (v0.getD v5.toNat []) (v1.getD v5.toNat [])))
 (some (false, ()))
 (rB R L v0 v1 v4 (IntKind.wrap .i64 (v5 + 1))))
 none)
 none)
 none)
 none)
 (some (true, ()))) := by kernel_rfl
theorem Ak6 (x0 x1 : d80) : @Eq _ (jZ (zE EE R L) x0 x1) ((gG R x0.1 x1.1).bind fun r0 =>
 cond (!r0.1)
 (some (false, ()))
 (cond (!(eqI (x0.2.1.length : Int) (x1.2.1.length : Int)))
 (some (false, ()))
 (qD R L x0 x1 x0 x1 false 0))) := by kernel_rfl
theorem Aa3 (v0 v1 v2 v3 : d80) (v4 : Bool) (v5 : Int) : @Eq _ (qD R L v0 v1 v2 v3 v4 v5 ([1, 1, 0, 1, 0] ++ [0])) (cond (decide (v5 < (v2.2.1.length : Int)))
 (cond (zA v5)
 (cond (Nat.blt v5.toNat v2.2.1.length)
 (cond (zA v5)
 (cond (Nat.blt v5.toNat v3.2.1.length)
 (cond (!(Bool.and (eqI (v2.2.1.getD v5.toNat (0, ([], ()))).1 (v3.2.1.getD v5.toNat (0, ([], ()))).1) (Bool.and (eqS (v2.2.1.getD v5.toNat (0, ([], ()))).2.1 (v3.2.1.getD v5.toNat (0, ([], ()))).2.1) true)))
 (some (false, ()))
 (qD R L v0 v1 v2 v3 v4 (IntKind.wrap .i64 (v5 + 1))))
 none)
 none)
 none)
 none)
 (some (true, ()))) := by kernel_rfl
theorem Au3 (x0 x1 : d81) : @Eq _ (nD (zE EE R L) x0 x1) (cond (eqS x0.1 x1.1)
 (cond (Bool.and (eqI x0.2.1.1 x1.2.1.1) (Bool.and (eqI x0.2.1.2.1 x1.2.1.2.1) (Bool.and (eqI x0.2.1.2.2.1 x1.2.1.2.2.1) (Bool.and (eqI x0.2.1.2.2.2.1 x1.2.1.2.2.2.1) (Bool.and (eqS x0.2.1.2.2.2.2.1 x1.2.1.2.2.2.2.1) (Bool.and (eqS x0.2.1.2.2.2.2.2.1 x1.2.1.2.2.2.2.2.1) (Bool.and (eqS x0.2.1.2.2.2.2.2.2.1 x1.2.1.2.2.2.2.2.2.1) true)))))))
 (cond (eqB x0.2.2.2.1 x1.2.2.2.1)
 (cond (eqB x0.2.2.2.2.1 x1.2.2.2.2.1)
 ((jZ R x0.2.2.1 x1.2.2.1).bind fun r0 =>
 some (r0.1, ()))
 (some (false, ())))
 (some (false, ())))
 (some (false, ())))
 (some (false, ()))) := by kernel_rfl
theorem A54 (x0 x1 x2 : Int) : @Eq _ (tM (zE EE R L) x0 x1 x2) (cond (decide (x1 ≤ x0))
 (some (decide (x0 ≤ x2), ()))
 (some (false, ()))) := by kernel_rfl
theorem A7O (x0 : Int) : @Eq _ (Ag5 (zE EE R L) x0) ((tM R x0 1 9999).bind fun r0 =>
 some (r0.1, ())) := by kernel_rfl
theorem AS6 (x0 : Int) (x1 : FnVal) : @Eq _ (kX (zE EE R L) x0 x1) ((vJ EE R x1 [⟨(.int .i64), (x0 : Int)⟩]).bind fun (r0 : Bool) =>
 some (!r0, ())) := by kernel_rfl
theorem iV (x0 : List Int) (x1 : FnVal) : @Eq _ (vH (zE EE R L) x0 x1) (uO R L x0 x1 0 (x0.length : Int) 0) := by kernel_rfl
theorem jS (v0 : List Int) (v1 : FnVal) (v4 v7 v8 : Int) : @Eq _ (uO R L v0 v1 v4 v7 v8 ([1, 0, 1, 0] ++ [0])) (cond (decide (v8 < v7))
 (cond (zA v8)
 (cond (Nat.blt v8.toNat v0.length)
 ((vJ EE R v1 [⟨(.int .i64), (v0.getD v8.toNat 0 : Int)⟩]).bind fun (r0 : Bool) =>
 cond r0
 (some (v8, ()))
 (zN R L v0 v1 v4 v8 v7 (IntKind.wrap .i64 (v8 + 1))))
 none)
 none)
 (some (-1, ()))) := by kernel_rfl
theorem uU (v0 : List Int) (v1 : FnVal) (v4 v5 v7 v8 : Int) : @Eq _ (zN R L v0 v1 v4 v5 v7 v8 ([1, 0, 1, 0] ++ [0])) (cond (decide (v8 < v7))
 (cond (zA v8)
 (cond (Nat.blt v8.toNat v0.length)
 ((vJ EE R v1 [⟨(.int .i64), (v0.getD v8.toNat 0 : Int)⟩]).bind fun (r0 : Bool) =>
 cond r0
 (some (v8, ()))
 (zN R L v0 v1 v4 v8 v7 (IntKind.wrap .i64 (v8 + 1))))
 none)
 none)
 (some (-1, ()))) := by kernel_rfl
theorem kR (x0 : List Int) (x1 : FnVal) : @Eq _ (wF (zE EE R L) x0 x1) ((vH R x0 x1).bind fun r0 =>
 some (decide (0 ≤ r0.1), ())) := by kernel_rfl
theorem Ag1 (x0 : List Int) (x1 : FnVal) : @Eq _ (wI (zE EE R L) x0 x1) ((wF R x0 (FnVal.mk (157 : Nat) (FCaps.fn x1 FCaps.nil))).bind fun r0 =>
 some (!r0.1, ())) := by kernel_rfl
theorem At2 (x0 : Int) : @Eq _ (lD (zE EE R L) x0) ((tM R x0 0 7).bind fun r0 =>
 some (r0.1, ())) := by kernel_rfl
theorem A5h (x0 : Int) : @Eq _ (AF1 (zE EE R L) x0) (lO R L [] (IntKind.wrap .i64 (7 + x0))) := by kernel_rfl
theorem A1F (v3 : List Int) (v4 : Int) : @Eq _ (lO R L v3 v4 ([1, 1, 1, 0] ++ [0])) (cond (yB (v3.length + ([v4]).length))
 (cond (eqI v4 0)
 ((oS R (v3 ++ [v4])).bind fun r0 =>
 some (r0.1, ()))
 (lO R L (v3 ++ [v4]) (IntKind.wrap .i64 (Int.tdiv (IntKind.wrap .i64 (v4 - 1)) 2))))
 none) := by kernel_rfl
theorem dJ (x0 : List Int) (x1 : Int) : @Eq _ (tF (zE EE R L) x0 x1) (xD R L x0 x1 (x0.length : Int) 0) := by kernel_rfl
theorem oN (v0 : List Int) (v1 v7 v8 : Int) : @Eq _ (xD R L v0 v1 v7 v8 ([1, 0, 1, 0] ++ [0])) (cond (decide (v8 < v7))
 (cond (zA v8)
 (cond (Nat.blt v8.toNat v0.length)
 (cond (eqI v1 (v0.getD v8.toNat 0))
 (some (v8, ()))
 (xD R L v0 v1 v7 (IntKind.wrap .i64 (v8 + 1))))
 none)
 none)
 (some (-1, ()))) := by kernel_rfl
theorem gF (x0 : List Int) (x1 : Int) : @Eq _ (tZ (zE EE R L) x0 x1) ((tF R x0 x1).bind fun r0 =>
 some (decide (0 ≤ r0.1), ())) := by kernel_rfl
theorem A0r (x0 x1 : Int) : @Eq _ (iJ (zE EE R L) x0 x1) ((AF1 R x1).bind fun r0 =>
 (tZ R r0.1 x0).bind fun r1 =>
 some (r1.1, ())) := by kernel_rfl
theorem A2h (x0 : d72) (x1 : Int) : @Eq _ (AM0 (zE EE R L) x0 x1) ((lD R x0.2.1).bind fun r0 =>
 cond r0.1
 ((iJ R x1 x0.2.1).bind fun r1 =>
 some (r1.1, ()))
 (some (false, ()))) := by kernel_rfl
theorem AD6 (x0 : d72) (x1 : FnVal) : @Eq _ (oM (zE EE R L) x0 x1) ((vJ EE R x1 [⟨t4, (x0 : d72)⟩]).bind fun (r0 : Bool) =>
 some (!r0, ())) := by kernel_rfl
theorem nQ (x0 : List d72) (x1 : FnVal) : @Eq _ (xH (zE EE R L) x0 x1) (zH R L x0 x1 (x0.length : Int) 0) := by kernel_rfl
theorem tI (v0 : List d72) (v1 : FnVal) (v7 v8 : Int) : @Eq _ (zH R L v0 v1 v7 v8 ([1, 0, 1, 0] ++ [0])) (cond (decide (v8 < v7))
 (cond (zA v8)
 (cond (Nat.blt v8.toNat v0.length)
 ((vJ EE R v1 [⟨t4, (v0.getD v8.toNat (0, (0, (0, ()))) : d72)⟩]).bind fun (r0 : Bool) =>
 cond r0
 (some (v8, ()))
 (zH R L v0 v1 v7 (IntKind.wrap .i64 (v8 + 1))))
 none)
 none)
 (some (-1, ()))) := by kernel_rfl
theorem oA (x0 : List d72) (x1 : FnVal) : @Eq _ (yV (zE EE R L) x0 x1) ((xH R x0 x1).bind fun r0 =>
 some (decide (0 ≤ r0.1), ())) := by kernel_rfl
theorem AM8 (x0 : List d72) (x1 : FnVal) : @Eq _ (qN (zE EE R L) x0 x1) ((yV R x0 (FnVal.mk (159 : Nat) (FCaps.fn x1 FCaps.nil))).bind fun r0 =>
 some (!r0.1, ())) := by kernel_rfl
theorem lV (x0 : List d72) : @Eq _ (wC (zE EE R L) x0) (cond (Nat.beq x0.length 0)
 (Av5
 (some ([], ()))
 (cond (yB (([] : List d72).length + x0.length))
 (some ([] ++ x0, ()))
 none))
 (cond (yB (([] : List d72).length + x0.length))
 (some ([] ++ x0, ()))
 none)) := by kernel_rfl
theorem A03 (x0 : d73) : @Eq _ (eT (zE EE R L) x0) ((wC R x0.2.1).bind fun r0 =>
 (sS R x0.2.2.1).bind fun r1 =>
 cond (yB (r0.1.length + r1.1.length))
 (some (r0.1 ++ r1.1, ()))
 none) := by kernel_rfl
theorem A9x (x0 : Int) : @Eq _ (Ac9 (zE EE R L) x0) ((tM R x0 0 11).bind fun r0 =>
 some (r0.1, ())) := by kernel_rfl
theorem A3m (x0 : Int) : @Eq _ (fY (zE EE R L) x0) ((tM R x0 0 999999).bind fun r0 =>
 some (r0.1, ())) := by kernel_rfl
theorem A3u (x0 : d72) : @Eq _ (bU (zE EE R L) x0) ((Ac9 R x0.1).bind fun r0 =>
 cond r0.1
 ((lD R x0.2.1).bind fun r1 =>
 cond r1.1
 ((fY R x0.2.2.1).bind fun r2 =>
 some (r2.1, ()))
 (some (false, ())))
 (some (false, ()))) := by kernel_rfl
theorem A5k (x0 : d73) : @Eq _ (AV1 (zE EE R L) x0) (cond (!(eqI (x0.1.length : Int) 12))
 (some (false, ()))
 ((wI R x0.1 (FnVal.mk (117 : Nat) FCaps.nil)).bind fun r0 =>
 cond (!r0.1)
 (some (false, ()))
 (cond (!(eqI (x0.2.2.1.length : Int) 15))
 (some (false, ()))
 (qL R L x0 x0.2.2.1 (x0.2.2.1.length : Int) 0)))) := by kernel_rfl
theorem AW8 (v1 : d73) (v25 : List (List d72)) (v26 v27 : Int) : @Eq _ (qL R L v1 v25 v26 v27 ([1, 1, 0, 1, 0] ++ [0])) (cond (decide (v27 < v26))
 (cond (zA v27)
 (cond (Nat.blt v27.toNat v25.length)
 (cond (decide (2 < ((v25.getD v27.toNat []).length : Int)))
 (some (false, ()))
 ((qN R (v25.getD v27.toNat []) (FnVal.mk (119 : Nat) (FCaps.int .i64 v27 FCaps.nil))).bind fun r0 =>
 cond (!r0.1)
 (some (false, ()))
 (qL R L v1 v25 v26 (IntKind.wrap .i64 (v27 + 1)))))
 none)
 none)
 ((eT R v1).bind fun r0 =>
 nG R L v1 (List.replicate 12 false) r0.1 (r0.1.length : Int) 0)) := by kernel_rfl
theorem AY7 (v1 : d73) (v5 : List Bool) (v43 : List d72) (v44 v45 : Int) : @Eq _ (nG R L v1 v5 v43 v44 v45 ([1, 1, 1, 1, 0, 1, 0] ++ [0])) (cond (decide (v45 < v44))
 (cond (zA v45)
 (cond (Nat.blt v45.toNat v43.length)
 ((bU R (v43.getD v45.toNat (0, (0, (0, ()))))).bind fun r0 =>
 cond (!r0.1)
 (some (false, ()))
 (cond (zA (v43.getD v45.toNat (0, (0, (0, ())))).1)
 (cond (Nat.blt (v43.getD v45.toNat (0, (0, (0, ())))).1.toNat v1.1.length)
 (cond (!(eqI (v43.getD v45.toNat (0, (0, (0, ())))).2.1 (v1.1.getD (v43.getD v45.toNat (0, (0, (0, ())))).1.toNat 0)))
 (some (false, ()))
 (cond (zA (v43.getD v45.toNat (0, (0, (0, ())))).1)
 (cond (Nat.blt (v43.getD v45.toNat (0, (0, (0, ())))).1.toNat 12)
 (cond (v5.getD (v43.getD v45.toNat (0, (0, (0, ())))).1.toNat false)
 (some (false, ()))
 (cond (zA (v43.getD v45.toNat (0, (0, (0, ())))).1)
 (cond (Nat.blt (v43.getD v45.toNat (0, (0, (0, ())))).1.toNat 12)
 (nG R L v1 (v5.set (v43.getD v45.toNat (0, (0, (0, ())))).1.toNat true) v43 v44 (IntKind.wrap .i64 (v45 + 1)))
 none)
 none))
 none)
 none))
 none)
 none))
 none)
 none)
 (some (true, ()))) := by kernel_rfl
theorem A08 (x0 : List UInt8) (x1 : Int) : @Eq _ (oU (zE EE R L) x0 x1) (cond (!(eqI (x0.length : Int) (IntKind.wrap .i64 (4 * x1))))
 (some (([], (0, (true, ()))), ()))
 ((eX R x0).bind fun r0 =>
 some ((r0.1, (0, (false, ()))), ()))) := by kernel_rfl
theorem AL2 (x0 : d70) (x1 x2 : Int) : @Eq _ (yL (zE EE R L) x0 x1 x2) (cond x0.2.2.1
 (some (0, ((x0.1, (x0.2.1, (true, x0.2.2.2))), ())))
 (cond (eqI x0.2.1 (x0.1.length : Int))
 (some (0, ((x0.1, (x0.2.1, (true, x0.2.2.2))), ())))
 (cond (zA x0.2.1)
 (cond (Nat.blt x0.2.1.toNat x0.1.length)
 ((tM R (x0.1.getD x0.2.1.toNat 0) x1 x2).bind fun r0 =>
 cond (!r0.1)
 (some (0, ((x0.1, (x0.2.1, (true, x0.2.2.2))), ())))
 (cond (zA (IntKind.wrap .i64 ((IntKind.wrap .i64 (x0.2.1 + 1)) - 1)))
 (cond (Nat.blt (IntKind.wrap .i64 ((IntKind.wrap .i64 (x0.2.1 + 1)) - 1)).toNat x0.1.length)
 (some (x0.1.getD (IntKind.wrap .i64 ((IntKind.wrap .i64 (x0.2.1 + 1)) - 1)).toNat 0, ((x0.1, (IntKind.wrap .i64 (x0.2.1 + 1), x0.2.2)), ())))
 none)
 none))
 none)
 none))) := by kernel_rfl
theorem aW (x0 : d70) (x1 x2 x3 : Int) : @Eq _ (xG (zE EE R L) x0 x1 x2 x3) (wA R L x0 x2 x3 [] x1 0) := by kernel_rfl
theorem mZ (v0 : d70) (v2 v3 : Int) (v9 : List Int) (v10 v11 : Int) : @Eq _ (wA R L v0 v2 v3 v9 v10 v11 ([1, 1, 0, 1, 0] ++ [0])) (cond (decide (v11 < v10))
 ((yL R v0 v2 v3).bind fun r0 =>
 cond (yB (v9.length + ([r0.1]).length))
 (wA R L r0.2.1 v2 v3 (v9 ++ [r0.1]) v10 (IntKind.wrap .i64 (v11 + 1)))
 none)
 (some (v9, (v0, ())))) := by kernel_rfl
theorem AE0 (x0 : d70) (x1 : Int) : @Eq _ (wM (zE EE R L) x0 x1) ((yL R x0 0 x1).bind fun r0 =>
 wD R L r0.2.1 [] r0.1 0) := by kernel_rfl
theorem lP (v0 : d70) (v5 : List d72) (v8 v9 : Int) : @Eq _ (wD R L v0 v5 v8 v9 ([1, 1, 0, 1, 0] ++ [0])) (cond (decide (v9 < v8))
 ((yL R v0 0 11).bind fun r0 =>
 (yL R r0.2.1 0 7).bind fun r1 =>
 (yL R r1.2.1 0 999999).bind fun r2 =>
 cond (yB (v5.length + ([(r0.1, (r1.1, (r2.1, ())))]).length))
 (wD R L r2.2.1 (v5 ++ [(r0.1, (r1.1, (r2.1, ())))]) v8 (IntKind.wrap .i64 (v9 + 1)))
 none)
 (some (v5, (v0, ())))) := by kernel_rfl
theorem Ag2 (x0 : d74) : @Eq _ (eA (zE EE R L) x0) (wV R L x0 [] x0.1 (x0.1.length : Int) 0) := by kernel_rfl
theorem dZ (v1 : d74) (v3 : List d96) (v9 : List Int) (v10 v11 : Int) : @Eq _ (wV R L v1 v3 v9 v10 v11 ([1, 1, 0, 1, 0] ++ [0])) (cond (decide (v11 < v10))
 (cond (zA v11)
 (cond (Nat.blt v11.toNat v9.length)
 (cond (decide (0 < (v9.getD v11.toNat 0)))
 ((A95 R v3 (v9.getD v11.toNat 0)).bind fun r0 =>
 (Aa4 R v1.2.1 v11).bind fun r1 =>
 (lI R v3 r0.1 [(v9.getD v11.toNat 0, (r1.1, ()))]).bind fun r2 =>
 wV R L v1 r2.1 v9 v10 (IntKind.wrap .i64 (v11 + 1)))
 (wV R L v1 v3 v9 v10 (IntKind.wrap .i64 (v11 + 1))))
 none)
 none)
 (some (v3, ()))) := by kernel_rfl
theorem dL (x0 : List Int) : @Eq _ (vB (zE EE R L) x0) (cond (Nat.beq x0.length 0)
 (Av5
 (some ([], ()))
 (cond (yB (([] : List Int).length + x0.length))
 (some ([] ++ x0, ()))
 none))
 (cond (yB (([] : List Int).length + x0.length))
 (some ([] ++ x0, ()))
 none)) := by kernel_rfl
theorem A5P (x0 : List Int) (x1 : Int) : @Eq _ (nJ (zE EE R L) x0 x1) (cond (zA (IntKind.wrap .i64 (x1 - (x0.length : Int))))
 (cond (yB (IntKind.wrap .i64 (x1 - (x0.length : Int))).toNat)
 (cond (yB (x0.length + (List.replicate (IntKind.wrap .i64 (x1 - (x0.length : Int))).toNat (0 : Int)).length))
 ((AA6 R (x0 ++ (List.replicate (IntKind.wrap .i64 (x1 - (x0.length : Int))).toNat 0))).bind fun r0 =>
 some (r0.1, ()))
 none)
 none)
 none) := by kernel_rfl
theorem Am3 (x0 : List d72) : @Eq _ (mG (zE EE R L) x0) (sD R L [(x0.length : Int)] x0 (x0.length : Int) 0) := by kernel_rfl
theorem aS (v3 : List Int) (v9 : List d72) (v10 v11 : Int) : @Eq _ (sD R L v3 v9 v10 v11 ([1, 1, 0, 1, 0] ++ [0])) (cond (decide (v11 < v10))
 (cond (zA v11)
 (cond (Nat.blt v11.toNat v9.length)
 (cond (yB (v3.length + ([(v9.getD v11.toNat (0, (0, (0, ())))).1, (v9.getD v11.toNat (0, (0, (0, ())))).2.1, (v9.getD v11.toNat (0, (0, (0, ())))).2.2.1]).length))
 (sD R L (v3 ++ [(v9.getD v11.toNat (0, (0, (0, ())))).1, (v9.getD v11.toNat (0, (0, (0, ())))).2.1, (v9.getD v11.toNat (0, (0, (0, ())))).2.2.1]) v9 v10 (IntKind.wrap .i64 (v11 + 1)))
 none)
 none)
 none)
 (some (v3, ()))) := by kernel_rfl
theorem A0F (x0 : d74) (x1 : List d75) : @Eq _ (gO (zE EE R L) x0 x1) ((vB R x0.2.1.1).bind fun r0 =>
 (mG R x0.2.1.2.1).bind fun r1 =>
 cond (yB (r0.1.length + r1.1.length))
 (cond (yB ((r0.1 ++ r1.1).length + x0.1.length))
 (cond (yB (((r0.1 ++ r1.1) ++ x0.1).length + ([(x1.length : Int)]).length))
 (sW R L (((r0.1 ++ r1.1) ++ x0.1) ++ [(x1.length : Int)]) x1 (x1.length : Int) 0)
 none)
 none)
 none) := by kernel_rfl
theorem AB0 (v5 : List Int) (v26 : List d75) (v27 v28 : Int) : @Eq _ (sW R L v5 v26 v27 v28 ([1, 1, 1, 1, 0, 1, 0] ++ [0])) (cond (decide (v28 < v27))
 (cond (zA v28)
 (cond (Nat.blt v28.toNat v26.length)
 (cond (yB (v5.length + ([(v26.getD v28.toNat (0, ([], ()))).1, ((v26.getD v28.toNat (0, ([], ()))).2.1.length : Int)]).length))
 (cond (yB ((v5 ++ [(v26.getD v28.toNat (0, ([], ()))).1, ((v26.getD v28.toNat (0, ([], ()))).2.1.length : Int)]).length + (v26.getD v28.toNat (0, ([], ()))).2.1.length))
 (sW R L ((v5 ++ [(v26.getD v28.toNat (0, ([], ()))).1, ((v26.getD v28.toNat (0, ([], ()))).2.1.length : Int)]) ++ (v26.getD v28.toNat (0, ([], ()))).2.1) v26 v27 (IntKind.wrap .i64 (v28 + 1)))
 none)
 none)
 none)
 none)
 ((nJ R v5 140).bind fun r0 =>
 some (r0.1, ()))) := by kernel_rfl
theorem Am2 (x0 : List d72) : @Eq _ (mC (zE EE R L) x0) ((mG R x0).bind fun r0 =>
 (nJ R r0.1 7).bind fun r1 =>
 some (r1.1, ())) := by kernel_rfl
theorem A2N (x0 : List Int) (x1 : Int) : @Eq _ (iR (zE EE R L) x0 x1) (cond (yB (x0.length + ([IntKind.wrap .u8 x1, IntKind.wrap .u8 (Int.fdiv x1 (2 ^ (Min.min (8 : Int).toNat (IntKind.bits .i64)))), IntKind.wrap .u8 (Int.fdiv x1 (2 ^ (Min.min (16 : Int).toNat (IntKind.bits .i64)))), IntKind.wrap .u8 (Int.fdiv x1 (2 ^ (Min.min (24 : Int).toNat (IntKind.bits .i64))))]).length))
 (some (x0 ++ [IntKind.wrap .u8 x1, IntKind.wrap .u8 (Int.fdiv x1 (2 ^ (Min.min (8 : Int).toNat (IntKind.bits .i64)))), IntKind.wrap .u8 (Int.fdiv x1 (2 ^ (Min.min (16 : Int).toNat (IntKind.bits .i64)))), IntKind.wrap .u8 (Int.fdiv x1 (2 ^ (Min.min (24 : Int).toNat (IntKind.bits .i64))))], ()))
 none) := by kernel_rfl
theorem A2j (x0 : List Int) : @Eq _ (fW (zE EE R L) x0) (pH R L x0 [] 0) := by kernel_rfl
theorem AR5 (v0 v3 : List Int) (v4 : Int) : @Eq _ (pH R L v0 v3 v4 ([1, 1, 0, 1, 0] ++ [0])) (cond (decide (v4 < (v0.length : Int)))
 (cond (zA v4)
 (cond (Nat.blt v4.toNat v0.length)
 ((iR R v3 (v0.getD v4.toNat 0)).bind fun r0 =>
 pH R L v0 r0.1 (IntKind.wrap .i64 (v4 + 1)))
 none)
 none)
 (some (List.map (fun (n : Int) => UInt8.ofNat n.toNat) v3, ()))) := by kernel_rfl
theorem A3B (x0 : List Int) (x1 : Int) : @Eq _ (sK (zE EE R L) x0 x1) (pF R L x0 x1) := by kernel_rfl
theorem AQ7 (v0 : List Int) (v1 : Int) : @Eq _ (pF R L v0 v1 ([1, 0, 0] ++ [0])) (cond (decide ((v0.length : Int) < v1))
 (cond (yB (v0.length + ([(0 : Int)]).length))
 (pF R L (v0 ++ [0]) v1)
 none)
 ((fW R v0).bind fun r0 =>
 some (r0.1, ()))) := by kernel_rfl
theorem A1S (x0 : d74) (x1 : List d75) : @Eq _ (dE (zE EE R L) x0 x1) (cond (yB (([] : List Int).length + x0.2.1.1.length))
 (cond (yB ((([] : List Int) ++ x0.2.1.1).length + ([(x0.2.1.2.1.length : Int)]).length))
 (rU R L x1 x0 (([] ++ x0.2.1.1) ++ [(x0.2.1.2.1.length : Int)]) 0)
 none)
 none) := by kernel_rfl
theorem AI9 (v1 : List d75) (v2 : d74) (v5 : List Int) (v6 : Int) : @Eq _ (rU R L v1 v2 v5 v6 ([1, 1, 1, 0, 1, 0] ++ [0])) (cond (decide (v6 < (v2.2.1.2.1.length : Int)))
 (cond (zA v6)
 (cond (Nat.blt v6.toNat v2.2.1.2.1.length)
 (cond (zA v6)
 (cond (Nat.blt v6.toNat v2.2.1.2.1.length)
 (cond (zA v6)
 (cond (Nat.blt v6.toNat v2.2.1.2.1.length)
 (cond (yB (v5.length + ([(v2.2.1.2.1.getD v6.toNat (0, (0, (0, ())))).1, (v2.2.1.2.1.getD v6.toNat (0, (0, (0, ())))).2.1, (v2.2.1.2.1.getD v6.toNat (0, (0, (0, ())))).2.2.1]).length))
 (rU R L v1 v2 (v5 ++ [(v2.2.1.2.1.getD v6.toNat (0, (0, (0, ())))).1, (v2.2.1.2.1.getD v6.toNat (0, (0, (0, ())))).2.1, (v2.2.1.2.1.getD v6.toNat (0, (0, (0, ())))).2.2.1]) (IntKind.wrap .i64 (v6 + 1)))
 none)
 none)
 none)
 none)
 none)
 none)
 none)
 (cond (yB (v5.length + v2.1.length))
 (cond (yB ((v5 ++ v2.1).length + ([(v1.length : Int)]).length))
 (sF R L v1 ((v5 ++ v2.1) ++ [(v1.length : Int)]) 0)
 none)
 none)) := by kernel_rfl
theorem AK6 (v1 : List d75) (v5 : List Int) (v7 : Int) : @Eq _ (sF R L v1 v5 v7 ([1, 1, 1, 1, 1, 1, 0, 1, 0] ++ [0])) (cond (decide (v7 < (v1.length : Int)))
 (cond (zA v7)
 (cond (Nat.blt v7.toNat v1.length)
 (cond (zA v7)
 (cond (Nat.blt v7.toNat v1.length)
 (cond (yB (v5.length + ([(v1.getD v7.toNat (0, ([], ()))).1, ((v1.getD v7.toNat (0, ([], ()))).2.1.length : Int)]).length))
 (cond (zA v7)
 (cond (Nat.blt v7.toNat v1.length)
 (cond (yB ((v5 ++ [(v1.getD v7.toNat (0, ([], ()))).1, ((v1.getD v7.toNat (0, ([], ()))).2.1.length : Int)]).length + (v1.getD v7.toNat (0, ([], ()))).2.1.length))
 (sF R L v1 ((v5 ++ [(v1.getD v7.toNat (0, ([], ()))).1, ((v1.getD v7.toNat (0, ([], ()))).2.1.length : Int)]) ++ (v1.getD v7.toNat (0, ([], ()))).2.1) (IntKind.wrap .i64 (v7 + 1)))
 none)
 none)
 none)
 none)
 none)
 none)
 none)
 none)
 ((sK R v5 140).bind fun r0 =>
 some (r0.1, ()))) := by kernel_rfl
theorem Az1 (x0 : List d72) : @Eq _ (lN (zE EE R L) x0) (sY R L x0 [(x0.length : Int)] 0) := by kernel_rfl
theorem AC4 (v0 : List d72) (v3 : List Int) (v4 : Int) : @Eq _ (sY R L v0 v3 v4 ([1, 1, 0, 1, 0] ++ [0])) (cond (decide (v4 < (v0.length : Int)))
 (cond (zA v4)
 (cond (Nat.blt v4.toNat v0.length)
 (cond (zA v4)
 (cond (Nat.blt v4.toNat v0.length)
 (cond (zA v4)
 (cond (Nat.blt v4.toNat v0.length)
 (cond (yB (v3.length + ([(v0.getD v4.toNat (0, (0, (0, ())))).1, (v0.getD v4.toNat (0, (0, (0, ())))).2.1, (v0.getD v4.toNat (0, (0, (0, ())))).2.2.1]).length))
 (sY R L v0 (v3 ++ [(v0.getD v4.toNat (0, (0, (0, ())))).1, (v0.getD v4.toNat (0, (0, (0, ())))).2.1, (v0.getD v4.toNat (0, (0, (0, ())))).2.2.1]) (IntKind.wrap .i64 (v4 + 1)))
 none)
 none)
 none)
 none)
 none)
 none)
 none)
 ((sK R v3 7).bind fun r0 =>
 some (r0.1, ()))) := by kernel_rfl
theorem A12 : @Eq _ (AC7 (zE EE R L)) (some ([1779033703, 3144134277, 1013904242, 2773480762, 1359893119, 2600822924, 528734635, 1541459225], ())) := by kernel_rfl
theorem A3h : @Eq _ (bX (zE EE R L)) ((AC7 R).bind fun r0 =>
 some ((r0.1, ([], (0, ()))), ())) := by kernel_rfl
theorem A2o (x0 : List UInt8) (x1 : Int) : @Eq _ (cZ (zE EE R L) x0 x1) (cond (zA x1)
 (cond (Nat.blt x1.toNat x0.length)
 (cond (zA (IntKind.wrap .i64 (x1 + 1)))
 (cond (Nat.blt (IntKind.wrap .i64 (x1 + 1)).toNat x0.length)
 (cond (zA (IntKind.wrap .i64 (x1 + 2)))
 (cond (Nat.blt (IntKind.wrap .i64 (x1 + 2)).toNat x0.length)
 (cond (zA (IntKind.wrap .i64 (x1 + 3)))
 (cond (Nat.blt (IntKind.wrap .i64 (x1 + 3)).toNat x0.length)
 (some (xF .or .i64 (xF .or .i64 (xF .or .i64 (IntKind.wrap .i64 ((IntKind.wrap .i64 (UInt8.toNat (x0.getD x1.toNat 0) : Int)) * (2 ^ (Min.min (24 : Int).toNat (IntKind.bits .i64))))) (IntKind.wrap .i64 ((IntKind.wrap .i64 (UInt8.toNat (x0.getD (IntKind.wrap .i64 (x1 + 1)).toNat 0) : Int)) * (2 ^ (Min.min (16 : Int).toNat (IntKind.bits .i64)))))) (IntKind.wrap .i64 ((IntKind.wrap .i64 (UInt8.toNat (x0.getD (IntKind.wrap .i64 (x1 + 2)).toNat 0) : Int)) * (2 ^ (Min.min (8 : Int).toNat (IntKind.bits .i64)))))) (IntKind.wrap .i64 (UInt8.toNat (x0.getD (IntKind.wrap .i64 (x1 + 3)).toNat 0) : Int)), ()))
 none)
 none)
 none)
 none)
 none)
 none)
 none)
 none) := by kernel_rfl
theorem A1z (x0 x1 : Int) : @Eq _ (yE (zE EE R L) x0 x1) (cond (decide (x1 < 0))
 none
 (cond (decide ((IntKind.wrap .i64 (32 - x1)) < 0))
 none
 (some (xF .and .i64 (xF .or .i64 (Int.fdiv x0 (2 ^ (Min.min x1.toNat (IntKind.bits .i64)))) (IntKind.wrap .i64 (x0 * (2 ^ (Min.min (IntKind.wrap .i64 (32 - x1)).toNat (IntKind.bits .i64)))))) 4294967295, ())))) := by kernel_rfl
theorem A1r : @Eq _ (AD4 (zE EE R L)) (some ([1116352408, 1899447441, 3049323471, 3921009573, 961987163, 1508970993, 2453635748, 2870763221, 3624381080, 310598401, 607225278, 1426881987, 1925078388, 2162078206, 2614888103, 3248222580, 3835390401, 4022224774, 264347078, 604807628, 770255983, 1249150122, 1555081692, 1996064986, 2554220882, 2821834349, 2952996808, 3210313671, 3336571891, 3584528711, 113926993, 338241895, 666307205, 773529912, 1294757372, 1396182291, 1695183700, 1986661051, 2177026350, 2456956037, 2730485921, 2820302411, 3259730800, 3345764771, 3516065817, 3600352804, 4094571909, 275423344, 430227734, 506948616, 659060556, 883997877, 958139571, 1322822218, 1537002063, 1747873779, 1955562222, 2024104815, 2227730452, 2361852424, 2428436474, 2756734187, 3204031479, 3329325298], ())) := by kernel_rfl
theorem A0z (x0 : List Int) (x1 : List UInt8) : @Eq _ (eJ (zE EE R L) x0 x1) (uG R L x1 x0 (List.replicate 8 0) [0, 0, 0, 0, 0, 0, 0, 0, 0, 0, 0, 0, 0, 0, 0, 0, 0, 0, 0, 0, 0, 0, 0, 0, 0, 0, 0, 0, 0, 0, 0, 0, 0, 0, 0, 0, 0, 0, 0, 0, 0, 0, 0, 0, 0, 0, 0, 0, 0, 0, 0, 0, 0, 0, 0, 0, 0, 0, 0, 0, 0, 0, 0, 0] 0) := by kernel_rfl
theorem AJ0 (v1 : List UInt8) (v2 v4 v5 : List Int) (v6 : Int) : @Eq _ (uG R L v1 v2 v4 v5 v6 ([1, 1, 0, 1, 0] ++ [0])) (cond (decide (v6 < 16))
 ((cZ R v1 (IntKind.wrap .i64 (4 * v6))).bind fun r0 =>
 cond (zA v6)
 (cond (Nat.blt v6.toNat 64)
 (uG R L v1 v2 v4 (v5.set v6.toNat r0.1) (IntKind.wrap .i64 (v6 + 1)))
 none)
 none)
 (xL R L v2 v4 v5 16)) := by kernel_rfl
theorem AK0 (v2 v4 v5 : List Int) (v7 : Int) : @Eq _ (xL R L v2 v4 v5 v7 ([1, 1, 1, 0, 1, 0] ++ [0])) (cond (decide (v7 < 64))
 (cond (zA (IntKind.wrap .i64 (v7 - 15)))
 (cond (Nat.blt (IntKind.wrap .i64 (v7 - 15)).toNat 64)
 ((yE R (v5.getD (IntKind.wrap .i64 (v7 - 15)).toNat 0) 7).bind fun r0 =>
 cond (zA (IntKind.wrap .i64 (v7 - 15)))
 (cond (Nat.blt (IntKind.wrap .i64 (v7 - 15)).toNat 64)
 ((yE R (v5.getD (IntKind.wrap .i64 (v7 - 15)).toNat 0) 18).bind fun r1 =>
 cond (zA (IntKind.wrap .i64 (v7 - 15)))
 (cond (Nat.blt (IntKind.wrap .i64 (v7 - 15)).toNat 64)
 (cond (zA (IntKind.wrap .i64 (v7 - 2)))
 (cond (Nat.blt (IntKind.wrap .i64 (v7 - 2)).toNat 64)
 ((yE R (v5.getD (IntKind.wrap .i64 (v7 - 2)).toNat 0) 17).bind fun r2 =>
 cond (zA (IntKind.wrap .i64 (v7 - 2)))
 (cond (Nat.blt (IntKind.wrap .i64 (v7 - 2)).toNat 64)
 ((yE R (v5.getD (IntKind.wrap .i64 (v7 - 2)).toNat 0) 19).bind fun r3 =>
 cond (zA (IntKind.wrap .i64 (v7 - 2)))
 (cond (Nat.blt (IntKind.wrap .i64 (v7 - 2)).toNat 64)
 (cond (zA (IntKind.wrap .i64 (v7 - 16)))
 (cond (Nat.blt (IntKind.wrap .i64 (v7 - 16)).toNat 64)
 (cond (zA (IntKind.wrap .i64 (v7 - 7)))
 (cond (Nat.blt (IntKind.wrap .i64 (v7 - 7)).toNat 64)
 (cond (zA v7)
 (cond (Nat.blt v7.toNat 64)
 (xL R L v2 v4 (v5.set v7.toNat (xF .and .i64 (IntKind.wrap .i64 ((IntKind.wrap .i64 ((IntKind.wrap .i64 ((v5.getD (IntKind.wrap .i64 (v7 - 16)).toNat 0) + (xF .xor .i64 (xF .xor .i64 r0.1 r1.1) (Int.fdiv (v5.getD (IntKind.wrap .i64 (v7 - 15)).toNat 0) (2 ^ (Min.min (3 : Int).toNat (IntKind.bits .i64))))))) + (v5.getD (IntKind.wrap .i64 (v7 - 7)).toNat 0))) + (xF .xor .i64 (xF .xor .i64 r2.1 r3.1) (Int.fdiv (v5.getD (IntKind.wrap .i64 (v7 - 2)).toNat 0) (2 ^ (Min.min (10 : Int).toNat (IntKind.bits .i64))))))) 4294967295)) (IntKind.wrap .i64 (v7 + 1)))
 none)
 none)
 none)
 none)
 none)
 none)
 none)
 none)
 none)
 none)
 none)
 none)
 none)
 none)
 none)
 none)
 none)
 none)
 ((AD4 R).bind fun r0 =>
 xX R L v2 v4 v5 r0.1 v2 0)) := by kernel_rfl
theorem AJ6 (v2 v4 v5 v10 v11 : List Int) (v12 : Int) : @Eq _ (xX R L v2 v4 v5 v10 v11 v12 ([1, 1, 1, 1, 1, 1, 0, 1, 0] ++ [0])) (cond (decide (v12 < 64))
 ((yE R (v11.getD (4 : Int).toNat 0) 6).bind fun r0 =>
 (yE R (v11.getD (4 : Int).toNat 0) 11).bind fun r1 =>
 (yE R (v11.getD (4 : Int).toNat 0) 25).bind fun r2 =>
 cond (zA v12)
 (cond (Nat.blt v12.toNat 64)
 (cond (zA v12)
 (cond (Nat.blt v12.toNat 64)
 ((yE R (v11.getD (0 : Int).toNat 0) 2).bind fun r3 =>
 (yE R (v11.getD (0 : Int).toNat 0) 13).bind fun r4 =>
 (yE R (v11.getD (0 : Int).toNat 0) 22).bind fun r5 =>
 xX R L v2 v4 v5 v10 [xF .and .i64 (IntKind.wrap .i64 ((IntKind.wrap .i64 ((IntKind.wrap .i64 ((IntKind.wrap .i64 ((IntKind.wrap .i64 ((IntKind.wrap .i64 ((v11.getD (7 : Int).toNat 0) + (xF .xor .i64 (xF .xor .i64 r0.1 r1.1) r2.1))) + (xF .xor .i64 (xF .and .i64 (v11.getD (4 : Int).toNat 0) (v11.getD (5 : Int).toNat 0)) (xF .and .i64 (xF .xor .i64 4294967295 (v11.getD (4 : Int).toNat 0)) (v11.getD (6 : Int).toNat 0))))) + (v10.getD v12.toNat 0))) + (v5.getD v12.toNat 0))) + (xF .xor .i64 (xF .xor .i64 r3.1 r4.1) r5.1))) + (xF .xor .i64 (xF .xor .i64 (xF .and .i64 (v11.getD (0 : Int).toNat 0) (v11.getD (1 : Int).toNat 0)) (xF .and .i64 (v11.getD (0 : Int).toNat 0) (v11.getD (2 : Int).toNat 0))) (xF .and .i64 (v11.getD (1 : Int).toNat 0) (v11.getD (2 : Int).toNat 0))))) 4294967295, v11.getD (0 : Int).toNat 0, v11.getD (1 : Int).toNat 0, v11.getD (2 : Int).toNat 0, xF .and .i64 (IntKind.wrap .i64 ((v11.getD (3 : Int).toNat 0) + (IntKind.wrap .i64 ((IntKind.wrap .i64 ((IntKind.wrap .i64 ((IntKind.wrap .i64 ((v11.getD (7 : Int).toNat 0) + (xF .xor .i64 (xF .xor .i64 r0.1 r1.1) r2.1))) + (xF .xor .i64 (xF .and .i64 (v11.getD (4 : Int).toNat 0) (v11.getD (5 : Int).toNat 0)) (xF .and .i64 (xF .xor .i64 4294967295 (v11.getD (4 : Int).toNat 0)) (v11.getD (6 : Int).toNat 0))))) + (v10.getD v12.toNat 0))) + (v5.getD v12.toNat 0))))) 4294967295, v11.getD (4 : Int).toNat 0, v11.getD (5 : Int).toNat 0, v11.getD (6 : Int).toNat 0] (IntKind.wrap .i64 (v12 + 1)))
 none)
 none)
 none)
 none)
 (wH R L v2 v4 v11 0)) := by kernel_rfl
theorem AK4 (v2 v4 v11 : List Int) (v18 : Int) : @Eq _ (wH R L v2 v4 v11 v18 ([1, 1, 1, 1, 1, 1, 1, 0, 1, 0] ++ [0])) (cond (decide (v18 < 8))
 (cond (zA v18)
 (cond (Nat.blt v18.toNat 8)
 (cond (zA v18)
 (cond (Nat.blt v18.toNat 8)
 (cond (zA v18)
 (cond (Nat.blt v18.toNat 8)
 (wH R L (v2.set v18.toNat (xF .and .i64 (IntKind.wrap .i64 ((v2.getD v18.toNat 0) + (v11.getD v18.toNat 0))) 4294967295)) v4 v11 (IntKind.wrap .i64 (v18 + 1)))
 none)
 none)
 none)
 none)
 none)
 none)
 (some (v2, ()))) := by kernel_rfl
theorem A3b (x0 : AA9) (x1 : List UInt8) : @Eq _ (mW (zE EE R L) x0 x1) (cond (yB (x0.2.1.length + x1.length))
 (rN R L (x0.1, (x0.2.1 ++ x1, (IntKind.wrap .i64 (x0.2.2.1 + (x1.length : Int)), x0.2.2.2))) (List.replicate 8 0, ([], (0, ()))))
 none) := by kernel_rfl
theorem AR2 (v2 v4 : AA9) : @Eq _ (rN R L v2 v4 ([1, 1, 1, 0, 0] ++ [0])) (cond (decide (64 ≤ (v2.2.1.length : Int)))
 ((eJ R v2.1 v2.2.1).bind fun r0 =>
 cond (Nat.ble v2.2.1.length v2.2.1.length)
 (cond (Nat.ble (64 : Int).toNat v2.2.1.length)
 (rN R L (r0.1, (List.drop (64 : Int).toNat (List.take v2.2.1.length v2.2.1), v2.2.2)) v4)
 none)
 none)
 (some (v2, ()))) := by kernel_rfl
theorem A5l (x0 : AA9) : @Eq _ (AE3 (zE EE R L) x0) (qM R L x0 (IntKind.wrap .i64 (8 * x0.2.2.1)) [128]) := by kernel_rfl
theorem AZ5 (v1 : AA9) (v3 : Int) (v4 : List Int) : @Eq _ (qM R L v1 v3 v4 ([1, 1, 1, 0, 0] ++ [0])) (cond (!(eqI (Int.tmod (IntKind.wrap .i64 (v1.2.2.1 + (v4.length : Int))) 64) 56))
 (cond (yB (v4.length + ([(0 : Int)]).length))
 (qM R L v1 v3 (v4 ++ [0]))
 none)
 (vI R L v1 v3 v4 7)) := by kernel_rfl
theorem AX6 (v1 : AA9) (v3 : Int) (v4 : List Int) (v5 : Int) : @Eq _ (vI R L v1 v3 v4 v5 ([1, 1, 1, 1, 0, 1, 0] ++ [0])) (cond (decide (0 ≤ v5))
 (cond (decide ((IntKind.wrap .i64 (8 * v5)) < 0))
 none
 (cond (yB (v4.length + ([IntKind.wrap .u8 (Int.fdiv v3 (2 ^ (Min.min (IntKind.wrap .i64 (8 * v5)).toNat (IntKind.bits .i64))))]).length))
 (vI R L v1 v3 (v4 ++ [IntKind.wrap .u8 (Int.fdiv v3 (2 ^ (Min.min (IntKind.wrap .i64 (8 * v5)).toNat (IntKind.bits .i64))))]) (IntKind.wrap .i64 (v5 - 1)))
 none))
 ((mW R v1 (List.map (fun (n : Int) => UInt8.ofNat n.toNat) v4)).bind fun r0 =>
 vG R L r0.1 [] 0)) := by kernel_rfl
theorem AX3 (v1 : AA9) (v6 : List Int) (v7 : Int) : @Eq _ (vG R L v1 v6 v7 ([1, 1, 1, 1, 1, 1, 1, 0, 1, 0] ++ [0])) (cond (decide (v7 < 8))
 (uY R L v1 v6 v7 3)
 (some (List.map (fun (n : Int) => UInt8.ofNat n.toNat) v6, ()))) := by kernel_rfl
theorem AZ6 (v1 : AA9) (v6 : List Int) (v7 v8 : Int) : @Eq _ (uY R L v1 v6 v7 v8 ([1, 1, 1, 1, 1, 1, 1, 0, 1, 0, 0, 1, 0, 0, 1, 0] ++ [0])) (cond (decide (0 ≤ v8))
 (cond (zA v7)
 (cond (Nat.blt v7.toNat 8)
 (cond (decide ((IntKind.wrap .i64 (8 * v8)) < 0))
 none
 (cond (yB (v6.length + ([IntKind.wrap .u8 (Int.fdiv (v1.1.getD v7.toNat 0) (2 ^ (Min.min (IntKind.wrap .i64 (8 * v8)).toNat (IntKind.bits .i64))))]).length))
 (uY R L v1 (v6 ++ [IntKind.wrap .u8 (Int.fdiv (v1.1.getD v7.toNat 0) (2 ^ (Min.min (IntKind.wrap .i64 (8 * v8)).toNat (IntKind.bits .i64))))]) v7 (IntKind.wrap .i64 (v8 - 1)))
 none))
 none)
 none)
 (vG R L v1 v6 (IntKind.wrap .i64 (v7 + 1)))) := by kernel_rfl
theorem A6x (x0 : List UInt8) : @Eq _ (eC (zE EE R L) x0) ((bX R).bind fun r0 =>
 (mW R r0.1 x0).bind fun r1 =>
 (AE3 R r1.1).bind fun r2 =>
 some (r2.1, ())) := by kernel_rfl
theorem A3l : @Eq _ (AM4 (zE EE R L)) (some (([1779033703, 3144134277, 1013904242, 2773480762, 1359893119, 2600822924, 528734635, 1541459225], ([], (0, ()))), ())) := by kernel_rfl
theorem A0M : @Eq _ (bW (zE EE R L)) (some ([1116352408, 1899447441, 3049323471, 3921009573, 961987163, 1508970993, 2453635748, 2870763221, 3624381080, 310598401, 607225278, 1426881987, 1925078388, 2162078206, 2614888103, 3248222580, 3835390401, 4022224774, 264347078, 604807628, 770255983, 1249150122, 1555081692, 1996064986, 2554220882, 2821834349, 2952996808, 3210313671, 3336571891, 3584528711, 113926993, 338241895, 666307205, 773529912, 1294757372, 1396182291, 1695183700, 1986661051, 2177026350, 2456956037, 2730485921, 2820302411, 3259730800, 3345764771, 3516065817, 3600352804, 4094571909, 275423344, 430227734, 506948616, 659060556, 883997877, 958139571, 1322822218, 1537002063, 1747873779, 1955562222, 2024104815, 2227730452, 2361852424, 2428436474, 2756734187, 3204031479, 3329325298], ())) := by kernel_rfl
theorem lA (x0 x1 : Int) : @Eq _ (yT (zE EE R L) x0 x1) (cond (decide ((IntKind.wrap .u64 (32 - (xF .and .u64 (IntKind.wrap .u64 x1) 31))) < 0))
 none
 (some (xF .or .u32 (IntKind.wrap .u32 (x0 * (2 ^ (Min.min (xF .and .u64 (IntKind.wrap .u64 x1) 31).toNat (IntKind.bits .u32))))) (Int.fdiv x0 (2 ^ (Min.min (IntKind.wrap .u64 (32 - (xF .and .u64 (IntKind.wrap .u64 x1) 31))).toNat (IntKind.bits .u32)))), ()))) := by kernel_rfl
theorem A5m (x0 x1 : Int) : @Eq _ (xM (zE EE R L) x0 x1) ((yT R x0 (BP0 .i64 x1)).bind fun r0 =>
 some (r0.1, ())) := by kernel_rfl
theorem AR7 (x0 : AA9) (x1 : List UInt8) (x2 : List Int) : @Eq _ (pQ (zE EE R L) x0 x1 x2) (yY R L x0 x1 x2 (List.replicate 64 0) 0) := by kernel_rfl
theorem hU (v0 : AA9) (v1 : List UInt8) (v2 v6 : List Int) (v25 : Int) : @Eq _ (yY R L v0 v1 v2 v6 v25 ([1, 0, 1, 0] ++ [0])) (cond (decide (v25 < 16))
 (cond (zA (IntKind.wrap .i64 (4 * v25)))
 (cond (Nat.blt (IntKind.wrap .i64 (4 * v25)).toNat v1.length)
 (cond (zA (IntKind.wrap .i64 ((IntKind.wrap .i64 (4 * v25)) + 1)))
 (cond (Nat.blt (IntKind.wrap .i64 ((IntKind.wrap .i64 (4 * v25)) + 1)).toNat v1.length)
 (cond (zA (IntKind.wrap .i64 ((IntKind.wrap .i64 (4 * v25)) + 2)))
 (cond (Nat.blt (IntKind.wrap .i64 ((IntKind.wrap .i64 (4 * v25)) + 2)).toNat v1.length)
 (cond (zA (IntKind.wrap .i64 ((IntKind.wrap .i64 (4 * v25)) + 3)))
 (cond (Nat.blt (IntKind.wrap .i64 ((IntKind.wrap .i64 (4 * v25)) + 3)).toNat v1.length)
 (cond (zA v25)
 (cond (Nat.blt v25.toNat 64)
 (yY R L v0 v1 v2 (v6.set v25.toNat (xF .or .u32 (xF .or .u32 (xF .or .u32 (IntKind.wrap .u32 ((IntKind.wrap .u32 (UInt8.toNat (v1.getD (IntKind.wrap .i64 (4 * v25)).toNat 0) : Int)) * (2 ^ (Min.min (24 : Int).toNat (IntKind.bits .u32))))) (IntKind.wrap .u32 ((IntKind.wrap .u32 (UInt8.toNat (v1.getD (IntKind.wrap .i64 ((IntKind.wrap .i64 (4 * v25)) + 1)).toNat 0) : Int)) * (2 ^ (Min.min (16 : Int).toNat (IntKind.bits .u32)))))) (IntKind.wrap .u32 ((IntKind.wrap .u32 (UInt8.toNat (v1.getD (IntKind.wrap .i64 ((IntKind.wrap .i64 (4 * v25)) + 2)).toNat 0) : Int)) * (2 ^ (Min.min (8 : Int).toNat (IntKind.bits .u32)))))) (IntKind.wrap .u32 (UInt8.toNat (v1.getD (IntKind.wrap .i64 ((IntKind.wrap .i64 (4 * v25)) + 3)).toNat 0) : Int)))) (IntKind.wrap .i64 (v25 + 1)))
 none)
 none)
 none)
 none)
 none)
 none)
 none)
 none)
 none)
 none)
 (zT R L v0 v2 v6 16)) := by kernel_rfl
theorem hM (v0 : AA9) (v2 v6 : List Int) (v8 : Int) : @Eq _ (zT R L v0 v2 v6 v8 ([1, 1, 0, 1, 0] ++ [0])) (cond (decide (v8 < 64))
 (cond (zA (IntKind.wrap .i64 (v8 - 15)))
 (cond (Nat.blt (IntKind.wrap .i64 (v8 - 15)).toNat 64)
 (cond (zA (IntKind.wrap .i64 (v8 - 2)))
 (cond (Nat.blt (IntKind.wrap .i64 (v8 - 2)).toNat 64)
 (cond (zA (IntKind.wrap .i64 (v8 - 16)))
 (cond (Nat.blt (IntKind.wrap .i64 (v8 - 16)).toNat 64)
 ((xM R (v6.getD (IntKind.wrap .i64 (v8 - 15)).toNat 0) 7).bind fun r0 =>
 (xM R (v6.getD (IntKind.wrap .i64 (v8 - 15)).toNat 0) 18).bind fun r1 =>
 cond (zA (IntKind.wrap .i64 (v8 - 7)))
 (cond (Nat.blt (IntKind.wrap .i64 (v8 - 7)).toNat 64)
 ((xM R (v6.getD (IntKind.wrap .i64 (v8 - 2)).toNat 0) 17).bind fun r2 =>
 (xM R (v6.getD (IntKind.wrap .i64 (v8 - 2)).toNat 0) 19).bind fun r3 =>
 cond (zA v8)
 (cond (Nat.blt v8.toNat 64)
 (zT R L v0 v2 (v6.set v8.toNat (IntKind.wrap .u32 ((IntKind.wrap .u32 ((IntKind.wrap .u32 ((v6.getD (IntKind.wrap .i64 (v8 - 16)).toNat 0) + (xF .xor .u32 (xF .xor .u32 r0.1 r1.1) (Int.fdiv (v6.getD (IntKind.wrap .i64 (v8 - 15)).toNat 0) (2 ^ (Min.min (3 : Int).toNat (IntKind.bits .u32))))))) + (v6.getD (IntKind.wrap .i64 (v8 - 7)).toNat 0))) + (xF .xor .u32 (xF .xor .u32 r2.1 r3.1) (Int.fdiv (v6.getD (IntKind.wrap .i64 (v8 - 2)).toNat 0) (2 ^ (Min.min (10 : Int).toNat (IntKind.bits .u32)))))))) (IntKind.wrap .i64 (v8 + 1)))
 none)
 none)
 none)
 none)
 none)
 none)
 none)
 none)
 none)
 none)
 (zV R L v0 v2 v6 (List.replicate 8 0) v0.1 0)) := by kernel_rfl
theorem gA (v0 : AA9) (v2 v6 v11 v104 : List Int) (v105 : Int) : @Eq _ (zV R L v0 v2 v6 v11 v104 v105 ([1, 1, 1, 1, 0, 1, 0] ++ [0])) (cond (decide (v105 < 8))
 (cond (zA v105)
 (cond (Nat.blt v105.toNat 8)
 (cond (zA v105)
 (cond (Nat.blt v105.toNat 8)
 (zV R L v0 v2 v6 (v11.set v105.toNat (IntKind.wrap .u32 (v104.getD v105.toNat 0))) v104 (IntKind.wrap .i64 (v105 + 1)))
 none)
 none)
 none)
 none)
 (yF R L v0 v2 v6 v11 0)) := by kernel_rfl
theorem hP (v0 : AA9) (v2 v6 v11 : List Int) (v114 : Int) : @Eq _ (yF R L v0 v2 v6 v11 v114 ([1, 1, 1, 1, 1, 0, 1, 0] ++ [0])) (cond (decide (v114 < 64))
 ((xM R (v11.getD (4 : Int).toNat 0) 6).bind fun r0 =>
 (xM R (v11.getD (4 : Int).toNat 0) 11).bind fun r1 =>
 (xM R (v11.getD (4 : Int).toNat 0) 25).bind fun r2 =>
 cond (zA v114)
 (cond (Nat.blt v114.toNat 64)
 (cond (zA v114)
 (cond (Nat.blt v114.toNat 64)
 ((xM R (v11.getD (0 : Int).toNat 0) 2).bind fun r3 =>
 (xM R (v11.getD (0 : Int).toNat 0) 13).bind fun r4 =>
 (xM R (v11.getD (0 : Int).toNat 0) 22).bind fun r5 =>
 yF R L v0 v2 v6 [IntKind.wrap .u32 ((IntKind.wrap .u32 ((IntKind.wrap .u32 ((IntKind.wrap .u32 ((IntKind.wrap .u32 ((v11.getD (7 : Int).toNat 0) + (xF .xor .u32 (xF .xor .u32 r0.1 r1.1) r2.1))) + (xF .xor .u32 (xF .and .u32 (v11.getD (4 : Int).toNat 0) (v11.getD (5 : Int).toNat 0)) (xF .and .u32 (xF .xor .u32 ((2 ^ (IntKind.bits .u32)) - 1) (v11.getD (4 : Int).toNat 0)) (v11.getD (6 : Int).toNat 0))))) + (v2.getD v114.toNat 0))) + (v6.getD v114.toNat 0))) + (IntKind.wrap .u32 ((xF .xor .u32 (xF .xor .u32 r3.1 r4.1) r5.1) + (xF .xor .u32 (xF .xor .u32 (xF .and .u32 (v11.getD (0 : Int).toNat 0) (v11.getD (1 : Int).toNat 0)) (xF .and .u32 (v11.getD (0 : Int).toNat 0) (v11.getD (2 : Int).toNat 0))) (xF .and .u32 (v11.getD (1 : Int).toNat 0) (v11.getD (2 : Int).toNat 0)))))), v11.getD (0 : Int).toNat 0, v11.getD (1 : Int).toNat 0, v11.getD (2 : Int).toNat 0, IntKind.wrap .u32 ((v11.getD (3 : Int).toNat 0) + (IntKind.wrap .u32 ((IntKind.wrap .u32 ((IntKind.wrap .u32 ((IntKind.wrap .u32 ((v11.getD (7 : Int).toNat 0) + (xF .xor .u32 (xF .xor .u32 r0.1 r1.1) r2.1))) + (xF .xor .u32 (xF .and .u32 (v11.getD (4 : Int).toNat 0) (v11.getD (5 : Int).toNat 0)) (xF .and .u32 (xF .xor .u32 ((2 ^ (IntKind.bits .u32)) - 1) (v11.getD (4 : Int).toNat 0)) (v11.getD (6 : Int).toNat 0))))) + (v2.getD v114.toNat 0))) + (v6.getD v114.toNat 0)))), v11.getD (4 : Int).toNat 0, v11.getD (5 : Int).toNat 0, v11.getD (6 : Int).toNat 0] (IntKind.wrap .i64 (v114 + 1)))
 none)
 none)
 none)
 none)
 (yG R L v0 v11 0)) := by kernel_rfl
theorem iZ (v0 : AA9) (v194 : List Int) (v195 : Int) : @Eq _ (yG R L v0 v194 v195 ([1, 1, 1, 1, 1, 1, 1, 0] ++ [0])) (cond (decide (v195 < 8))
 (cond (zA v195)
 (cond (Nat.blt v195.toNat 8)
 (cond (zA v195)
 (cond (Nat.blt v195.toNat 8)
 (cond (zA v195)
 (cond (Nat.blt v195.toNat 8)
 (yG R L (v0.1.set v195.toNat (IntKind.wrap .i64 (IntKind.wrap .u32 ((IntKind.wrap .u32 (v0.1.getD v195.toNat 0)) + (v194.getD v195.toNat 0)))), v0.2) v194 (IntKind.wrap .i64 (v195 + 1)))
 none)
 none)
 none)
 none)
 none)
 none)
 (some (v0, ()))) := by kernel_rfl
theorem Ay6 (x0 : AA9) (x1 : List UInt8) : @Eq _ (qI (zE EE R L) x0 x1) ((bW R).bind fun r0 =>
 cond (yB (x0.2.1.length + x1.length))
 (tV R L (x0.2.1 ++ x1) (x0.1, (x0.2.1, (IntKind.wrap .i64 (x0.2.2.1 + (x1.length : Int)), x0.2.2.2))) (List.replicate 8 0, ([], (0, ()))) r0.1)
 none) := by kernel_rfl
theorem AB8 (v1 : List UInt8) (v2 v4 : AA9) (v5 : List Int) : @Eq _ (tV R L v1 v2 v4 v5 ([1, 1, 1, 1, 0, 0] ++ [0])) (cond (decide (64 ≤ (v1.length : Int)))
 (cond (Nat.ble (64 : Int).toNat v1.length)
 ((pQ R v2 (List.drop 0 (List.take (64 : Int).toNat v1)) v5).bind fun r0 =>
 cond (Nat.ble v1.length v1.length)
 (cond (Nat.ble (64 : Int).toNat v1.length)
 (tV R L (List.drop (64 : Int).toNat (List.take v1.length v1)) r0.1 v4 v5)
 none)
 none)
 none)
 (some ((v2.1, (v1, v2.2.2)), ()))) := by kernel_rfl
theorem A1b (x0 : AA9) : @Eq _ (eU (zE EE R L) x0) ((qS R [0] (Int.tmod (IntKind.wrap .i64 (119 - (x0.2.1.length : Int))) 64)).bind fun r0 =>
 cond (yB (([(128 : UInt8)]).length + r0.1.length))
 (xV R L x0 (IntKind.wrap .i64 (8 * x0.2.2.1)) ([128] ++ r0.1) 7)
 none) := by kernel_rfl
theorem AI1 (v1 : AA9) (v3 : Int) (v4 : List UInt8) (v5 : Int) : @Eq _ (xV R L v1 v3 v4 v5 ([1, 1, 1, 0, 1, 0] ++ [0])) (cond (decide (0 ≤ v5))
 (cond (decide ((IntKind.wrap .i64 (8 * v5)) < 0))
 none
 (cond (yB (v4.length + (List.map (fun (n : Int) => UInt8.ofNat n.toNat) [IntKind.wrap .u8 (Int.fdiv v3 (2 ^ (Min.min (IntKind.wrap .i64 (8 * v5)).toNat (IntKind.bits .i64))))]).length))
 (xV R L v1 v3 (v4 ++ (List.map (fun (n : Int) => UInt8.ofNat n.toNat) [IntKind.wrap .u8 (Int.fdiv v3 (2 ^ (Min.min (IntKind.wrap .i64 (8 * v5)).toNat (IntKind.bits .i64))))])) (IntKind.wrap .i64 (v5 - 1)))
 none))
 ((qI R v1 v4).bind fun r0 =>
 vA R L [] r0.1.1 0)) := by kernel_rfl
theorem AJ3 (v6 v35 : List Int) (v36 : Int) : @Eq _ (vA R L v6 v35 v36 ([1, 1, 1, 1, 1, 0, 1, 0] ++ [0])) (cond (decide (v36 < 8))
 (cond (zA v36)
 (cond (Nat.blt v36.toNat 8)
 (cond (yB (v6.length + ([IntKind.wrap .u8 (Int.fdiv (v35.getD v36.toNat 0) (2 ^ (Min.min (24 : Int).toNat (IntKind.bits .i64)))), IntKind.wrap .u8 (Int.fdiv (v35.getD v36.toNat 0) (2 ^ (Min.min (16 : Int).toNat (IntKind.bits .i64)))), IntKind.wrap .u8 (Int.fdiv (v35.getD v36.toNat 0) (2 ^ (Min.min (8 : Int).toNat (IntKind.bits .i64)))), IntKind.wrap .u8 (v35.getD v36.toNat 0)]).length))
 (vA R L (v6 ++ [IntKind.wrap .u8 (Int.fdiv (v35.getD v36.toNat 0) (2 ^ (Min.min (24 : Int).toNat (IntKind.bits .i64)))), IntKind.wrap .u8 (Int.fdiv (v35.getD v36.toNat 0) (2 ^ (Min.min (16 : Int).toNat (IntKind.bits .i64)))), IntKind.wrap .u8 (Int.fdiv (v35.getD v36.toNat 0) (2 ^ (Min.min (8 : Int).toNat (IntKind.bits .i64)))), IntKind.wrap .u8 (v35.getD v36.toNat 0)]) v35 (IntKind.wrap .i64 (v36 + 1)))
 none)
 none)
 none)
 (some (List.map (fun (n : Int) => UInt8.ofNat n.toNat) v6, ()))) := by kernel_rfl
theorem A6Q (x0 : List UInt8) : @Eq _ (jF (zE EE R L) x0) ((AM4 R).bind fun r0 =>
 (qI R r0.1 x0).bind fun r1 =>
 (eU R r1.1).bind fun r2 =>
 some (r2.1, ())) := by kernel_rfl
theorem A6R (x0 x1 : Int) : @Eq _ (wY (zE EE R L) x0 x1) (sA R L x0 [] x1 0) := by kernel_rfl
theorem AX1 (v0 : Int) (v5 : List Int) (v7 v8 : Int) : @Eq _ (sA R L v0 v5 v7 v8 ([1, 1, 0, 1, 0] ++ [0])) (cond (decide (v8 < v7))
 (cond (decide ((IntKind.wrap .i64 (8 * v8)) < 0))
 none
 (cond (yB (v5.length + ([IntKind.wrap .u8 (Int.fdiv v0 (2 ^ (Min.min (IntKind.wrap .i64 (8 * v8)).toNat (IntKind.bits .i64))))]).length))
 (sA R L v0 (v5 ++ [IntKind.wrap .u8 (Int.fdiv v0 (2 ^ (Min.min (IntKind.wrap .i64 (8 * v8)).toNat (IntKind.bits .i64))))]) v7 (IntKind.wrap .i64 (v8 + 1)))
 none))
 (some (List.map (fun (n : Int) => UInt8.ofNat n.toNat) v5, ()))) := by kernel_rfl
theorem Al7 (x0 : List UInt8) : @Eq _ (mI (zE EE R L) x0) (cond (Nat.blt (0 : Int).toNat x0.length)
 (cond (Nat.blt (1 : Int).toNat x0.length)
 (cond (Nat.blt (2 : Int).toNat x0.length)
 (cond (Nat.blt (3 : Int).toNat x0.length)
 (some (xF .or .u32 (xF .or .u32 (xF .or .u32 (IntKind.wrap .u32 (UInt8.toNat (x0.getD (0 : Int).toNat 0) : Int)) (IntKind.wrap .u32 ((IntKind.wrap .u32 (UInt8.toNat (x0.getD (1 : Int).toNat 0) : Int)) * (2 ^ (Min.min (8 : Int).toNat (IntKind.bits .u32)))))) (IntKind.wrap .u32 ((IntKind.wrap .u32 (UInt8.toNat (x0.getD (2 : Int).toNat 0) : Int)) * (2 ^ (Min.min (16 : Int).toNat (IntKind.bits .u32)))))) (IntKind.wrap .u32 ((IntKind.wrap .u32 (UInt8.toNat (x0.getD (3 : Int).toNat 0) : Int)) * (2 ^ (Min.min (24 : Int).toNat (IntKind.bits .u32))))), ()))
 none)
 none)
 none)
 none) := by kernel_rfl
theorem A2U (x0 x1 x2 x3 : Int) : @Eq _ (bE (zE EE R L) x0 x1 x2 x3) (tH R L x0 x1 x2 x3 [[16, 12], [8, 7]] 0) := by kernel_rfl
theorem AQ1 (v0 v1 v2 v3 : Int) (v16 : List (List Int)) (v17 : Int) : @Eq _ (tH R L v0 v1 v2 v3 v16 v17 ([1, 0, 1, 0] ++ [0])) (cond (decide (v17 < 2))
 (cond (zA v17)
 (cond (Nat.blt v17.toNat 2)
 ((yT R (xF .xor .u32 v3 (IntKind.wrap .u32 (v0 + v1))) ((v16.getD v17.toNat (List.replicate 2 0)).getD (0 : Int).toNat 0)).bind fun r0 =>
 (yT R (xF .xor .u32 v1 (IntKind.wrap .u32 (v2 + r0.1))) ((v16.getD v17.toNat (List.replicate 2 0)).getD (1 : Int).toNat 0)).bind fun r1 =>
 tH R L (IntKind.wrap .u32 (v0 + v1)) r1.1 (IntKind.wrap .u32 (v2 + r0.1)) r0.1 v16 (IntKind.wrap .i64 (v17 + 1)))
 none)
 none)
 (some (v0, (v1, (v2, (v3, ())))))) := by kernel_rfl
theorem A6g (x0 x1 : List UInt8) (x2 : Int) : @Eq _ (cL (zE EE R L) x0 x1 x2) (cond (yB (([(101 : UInt8), 120, 112, 97, 110, 100, 32, 51, 50, 45, 98, 121, 116, 101, 32, 107]).length + x0.length))
 ((wY R x2 4).bind fun r0 =>
 cond (yB (([(101 : UInt8), 120, 112, 97, 110, 100, 32, 51, 50, 45, 98, 121, 116, 101, 32, 107] ++ x0).length + r0.1.length))
 (cond (yB ((([(101 : UInt8), 120, 112, 97, 110, 100, 32, 51, 50, 45, 98, 121, 116, 101, 32, 107] ++ x0) ++ r0.1).length + x1.length))
 (tA R L ((([101, 120, 112, 97, 110, 100, 32, 51, 50, 45, 98, 121, 116, 101, 32, 107] ++ x0) ++ r0.1) ++ x1) (List.replicate 16 0) (List.replicate 16 0) 0)
 none)
 none)
 none) := by kernel_rfl
theorem AZ7 (v7 : List UInt8) (v8 v9 : List Int) (v25 : Int) : @Eq _ (tA R L v7 v8 v9 v25 ([1, 1, 1, 0, 1, 0] ++ [0])) (cond (decide (v25 < 16))
 (cond (zA (IntKind.wrap .i64 (4 * v25)))
 (cond (Nat.ble v7.length v7.length)
 (cond (Nat.ble (IntKind.wrap .i64 (4 * v25)).toNat v7.length)
 ((mI R (List.drop (IntKind.wrap .i64 (4 * v25)).toNat (List.take v7.length v7))).bind fun r0 =>
 cond (zA v25)
 (cond (Nat.blt v25.toNat 16)
 (cond (zA v25)
 (cond (Nat.blt v25.toNat 16)
 (cond (zA v25)
 (cond (Nat.blt v25.toNat 16)
 (tA R L v7 (v8.set v25.toNat r0.1) (v9.set v25.toNat ((v8.set v25.toNat r0.1).getD v25.toNat 0)) (IntKind.wrap .i64 (v25 + 1)))
 none)
 none)
 none)
 none)
 none)
 none)
 none)
 none)
 none)
 (uK R L v8 v9 0)) := by kernel_rfl
theorem AZ0 (v8 v9 : List Int) (v41 : Int) : @Eq _ (uK R L v8 v9 v41 ([1, 1, 1, 1, 0, 1, 0] ++ [0])) (cond (decide (v41 < 10))
 (nH R L v8 v9 v41 0)
 (uC R L v8 v9 [] 0)) := by kernel_rfl
theorem A1j (v8 v9 : List Int) (v41 v43 : Int) : @Eq _ (nH R L v8 v9 v41 v43 ([1, 1, 1, 1, 0, 1, 0, 0, 1, 1, 0, 0, 1, 0] ++ [0])) (cond (decide (v43 < 2))
 (tX R L v8 v9 v43 v41 v43 0)
 (uK R L v8 v9 (IntKind.wrap .i64 (v41 + 1)))) := by kernel_rfl
theorem AY8 (v8 v9 : List Int) (v16 : List UInt8) (v95 : Int) : @Eq _ (uC R L v8 v9 v16 v95 ([1, 1, 1, 1, 1, 1, 0, 1, 0] ++ [0])) (cond (decide (v95 < 16))
 (cond (zA v95)
 (cond (Nat.blt v95.toNat 16)
 (cond (zA v95)
 (cond (Nat.blt v95.toNat 16)
 ((wY R (IntKind.wrap .i64 (IntKind.wrap .u32 ((v9.getD v95.toNat 0) + (v8.getD v95.toNat 0)))) 4).bind fun r0 =>
 cond (yB (v16.length + r0.1.length))
 (uC R L v8 v9 (v16 ++ r0.1) (IntKind.wrap .i64 (v95 + 1)))
 none)
 none)
 none)
 none)
 none)
 (some (v16, ()))) := by kernel_rfl
theorem AW6 (v8 v9 : List Int) (v11 v41 v43 v46 : Int) : @Eq _ (tX R L v8 v9 v11 v41 v43 v46 ([1, 1, 1, 1, 0, 1, 0, 0, 1, 1, 0, 0, 1, 0, 0, 1, 1, 0, 0, 1, 1, 0] ++ [0])) (cond (decide (v46 < 4))
 (cond (zA v46)
 (cond (Nat.blt v46.toNat 16)
 (cond (zA (IntKind.wrap .i64 (4 + (Int.tmod (IntKind.wrap .i64 (v46 + v11)) 4))))
 (cond (Nat.blt (IntKind.wrap .i64 (4 + (Int.tmod (IntKind.wrap .i64 (v46 + v11)) 4))).toNat 16)
 (cond (zA (IntKind.wrap .i64 (8 + (Int.tmod (IntKind.wrap .i64 (v46 + (IntKind.wrap .i64 (2 * v11)))) 4))))
 (cond (Nat.blt (IntKind.wrap .i64 (8 + (Int.tmod (IntKind.wrap .i64 (v46 + (IntKind.wrap .i64 (2 * v11)))) 4))).toNat 16)
 (cond (zA (IntKind.wrap .i64 (12 + (Int.tmod (IntKind.wrap .i64 (v46 + (IntKind.wrap .i64 (3 * v11)))) 4))))
 (cond (Nat.blt (IntKind.wrap .i64 (12 + (Int.tmod (IntKind.wrap .i64 (v46 + (IntKind.wrap .i64 (3 * v11)))) 4))).toNat 16)
 ((bE R (v9.getD v46.toNat 0) (v9.getD (IntKind.wrap .i64 (4 + (Int.tmod (IntKind.wrap .i64 (v46 + v11)) 4))).toNat 0) (v9.getD (IntKind.wrap .i64 (8 + (Int.tmod (IntKind.wrap .i64 (v46 + (IntKind.wrap .i64 (2 * v11)))) 4))).toNat 0) (v9.getD (IntKind.wrap .i64 (12 + (Int.tmod (IntKind.wrap .i64 (v46 + (IntKind.wrap .i64 (3 * v11)))) 4))).toNat 0)).bind fun r0 =>
 cond (zA v46)
 (cond (Nat.blt v46.toNat 16)
 (cond (zA (IntKind.wrap .i64 (4 + (Int.tmod (IntKind.wrap .i64 (v46 + v11)) 4))))
 (cond (Nat.blt (IntKind.wrap .i64 (4 + (Int.tmod (IntKind.wrap .i64 (v46 + v11)) 4))).toNat 16)
 (cond (zA (IntKind.wrap .i64 (8 + (Int.tmod (IntKind.wrap .i64 (v46 + (IntKind.wrap .i64 (2 * v11)))) 4))))
 (cond (Nat.blt (IntKind.wrap .i64 (8 + (Int.tmod (IntKind.wrap .i64 (v46 + (IntKind.wrap .i64 (2 * v11)))) 4))).toNat 16)
 (cond (zA (IntKind.wrap .i64 (12 + (Int.tmod (IntKind.wrap .i64 (v46 + (IntKind.wrap .i64 (3 * v11)))) 4))))
 (cond (Nat.blt (IntKind.wrap .i64 (12 + (Int.tmod (IntKind.wrap .i64 (v46 + (IntKind.wrap .i64 (3 * v11)))) 4))).toNat 16)
 (tX R L v8 ((((v9.set v46.toNat r0.1).set (IntKind.wrap .i64 (4 + (Int.tmod (IntKind.wrap .i64 (v46 + v11)) 4))).toNat r0.2.1).set (IntKind.wrap .i64 (8 + (Int.tmod (IntKind.wrap .i64 (v46 + (IntKind.wrap .i64 (2 * v11)))) 4))).toNat r0.2.2.1).set (IntKind.wrap .i64 (12 + (Int.tmod (IntKind.wrap .i64 (v46 + (IntKind.wrap .i64 (3 * v11)))) 4))).toNat r0.2.2.2.1) v11 v41 v43 (IntKind.wrap .i64 (v46 + 1)))
 none)
 none)
 none)
 none)
 none)
 none)
 none)
 none)
 none)
 none)
 none)
 none)
 none)
 none)
 none)
 none)
 (nH R L v8 v9 v41 (IntKind.wrap .i64 (v43 + 1)))) := by kernel_rfl
theorem A28 (x0 : List UInt8) (x1 : Int) : @Eq _ (mV (zE EE R L) x0 x1) (cond (zA x1)
 (cond (Nat.blt x1.toNat x0.length)
 (cond (zA (IntKind.wrap .i64 (x1 + 1)))
 (cond (Nat.blt (IntKind.wrap .i64 (x1 + 1)).toNat x0.length)
 (cond (zA (IntKind.wrap .i64 (x1 + 2)))
 (cond (Nat.blt (IntKind.wrap .i64 (x1 + 2)).toNat x0.length)
 (cond (zA (IntKind.wrap .i64 (x1 + 3)))
 (cond (Nat.blt (IntKind.wrap .i64 (x1 + 3)).toNat x0.length)
 (some (xF .or .i64 (xF .or .i64 (xF .or .i64 (IntKind.wrap .i64 (UInt8.toNat (x0.getD x1.toNat 0) : Int)) (IntKind.wrap .i64 ((IntKind.wrap .i64 (UInt8.toNat (x0.getD (IntKind.wrap .i64 (x1 + 1)).toNat 0) : Int)) * (2 ^ (Min.min (8 : Int).toNat (IntKind.bits .i64)))))) (IntKind.wrap .i64 ((IntKind.wrap .i64 (UInt8.toNat (x0.getD (IntKind.wrap .i64 (x1 + 2)).toNat 0) : Int)) * (2 ^ (Min.min (16 : Int).toNat (IntKind.bits .i64)))))) (IntKind.wrap .i64 ((IntKind.wrap .i64 (UInt8.toNat (x0.getD (IntKind.wrap .i64 (x1 + 3)).toNat 0) : Int)) * (2 ^ (Min.min (24 : Int).toNat (IntKind.bits .i64))))), ()))
 none)
 none)
 none)
 none)
 none)
 none)
 none)
 none) := by kernel_rfl
theorem A22 (x0 x1 : Int) : @Eq _ (sL (zE EE R L) x0 x1) (cond (decide (x1 < 0))
 none
 (cond (decide ((IntKind.wrap .i64 (32 - x1)) < 0))
 none
 (some (xF .and .i64 (xF .or .i64 (IntKind.wrap .i64 (x0 * (2 ^ (Min.min x1.toNat (IntKind.bits .i64))))) (Int.fdiv x0 (2 ^ (Min.min (IntKind.wrap .i64 (32 - x1)).toNat (IntKind.bits .i64))))) 4294967295, ())))) := by kernel_rfl
theorem An1 (x0 x1 x2 x3 : Int) : @Eq _ (iE (zE EE R L) x0 x1 x2 x3) ((sL R (xF .xor .i64 x3 (xF .and .i64 (IntKind.wrap .i64 (x0 + x1)) 4294967295)) 16).bind fun r0 =>
 (sL R (xF .xor .i64 x1 (xF .and .i64 (IntKind.wrap .i64 (x2 + r0.1)) 4294967295)) 12).bind fun r1 =>
 (sL R (xF .xor .i64 r0.1 (xF .and .i64 (IntKind.wrap .i64 ((xF .and .i64 (IntKind.wrap .i64 (x0 + x1)) 4294967295) + r1.1)) 4294967295)) 8).bind fun r2 =>
 (sL R (xF .xor .i64 r1.1 (xF .and .i64 (IntKind.wrap .i64 ((xF .and .i64 (IntKind.wrap .i64 (x2 + r0.1)) 4294967295) + r2.1)) 4294967295)) 7).bind fun r3 =>
 some ([xF .and .i64 (IntKind.wrap .i64 ((xF .and .i64 (IntKind.wrap .i64 (x0 + x1)) 4294967295) + r1.1)) 4294967295, r3.1, xF .and .i64 (IntKind.wrap .i64 ((xF .and .i64 (IntKind.wrap .i64 (x2 + r0.1)) 4294967295) + r2.1)) 4294967295, r2.1], ())) := by kernel_rfl
theorem A1f (x0 : List Int) (x1 x2 x3 x4 : Int) : @Eq _ (iQ (zE EE R L) x0 x1 x2 x3 x4) (cond (zA x1)
 (cond (Nat.blt x1.toNat 16)
 (cond (zA x2)
 (cond (Nat.blt x2.toNat 16)
 (cond (zA x3)
 (cond (Nat.blt x3.toNat 16)
 (cond (zA x4)
 (cond (Nat.blt x4.toNat 16)
 ((iE R (x0.getD x1.toNat 0) (x0.getD x2.toNat 0) (x0.getD x3.toNat 0) (x0.getD x4.toNat 0)).bind fun r0 =>
 cond (zA x1)
 (cond (Nat.blt x1.toNat 16)
 (cond (zA x2)
 (cond (Nat.blt x2.toNat 16)
 (cond (zA x3)
 (cond (Nat.blt x3.toNat 16)
 (cond (zA x4)
 (cond (Nat.blt x4.toNat 16)
 (some ((((x0.set x1.toNat (r0.1.getD (0 : Int).toNat 0)).set x2.toNat (r0.1.getD (1 : Int).toNat 0)).set x3.toNat (r0.1.getD (2 : Int).toNat 0)).set x4.toNat (r0.1.getD (3 : Int).toNat 0), ()))
 none)
 none)
 none)
 none)
 none)
 none)
 none)
 none)
 none)
 none)
 none)
 none)
 none)
 none)
 none)
 none) := by kernel_rfl
theorem A1k (x0 x1 : List UInt8) (x2 : Int) : @Eq _ (qG (zE EE R L) x0 x1 x2) (uE R L x0 x1 x2 [0, 0, 0, 0, 0, 0, 0, 0, 0, 0, 0, 0, 0, 0, 0, 0] 0) := by kernel_rfl
theorem AI3 (v0 v1 : List UInt8) (v2 : Int) (v7 : List Int) (v8 : Int) : @Eq _ (uE R L v0 v1 v2 v7 v8 ([1, 1, 0, 1, 0] ++ [0])) (cond (decide (v8 < 4))
 ((mV R [101, 120, 112, 97, 110, 100, 32, 51, 50, 45, 98, 121, 116, 101, 32, 107] (IntKind.wrap .i64 (4 * v8))).bind fun r0 =>
 cond (zA v8)
 (cond (Nat.blt v8.toNat 16)
 (uE R L v0 v1 v2 (v7.set v8.toNat r0.1) (IntKind.wrap .i64 (v8 + 1)))
 none)
 none)
 (wK R L v0 v1 v2 v7 0)) := by kernel_rfl
theorem AJ5 (v0 v1 : List UInt8) (v2 : Int) (v7 : List Int) (v9 : Int) : @Eq _ (wK R L v0 v1 v2 v7 v9 ([1, 1, 1, 0, 1, 0] ++ [0])) (cond (decide (v9 < 8))
 ((mV R v0 (IntKind.wrap .i64 (4 * v9))).bind fun r0 =>
 cond (zA (IntKind.wrap .i64 (4 + v9)))
 (cond (Nat.blt (IntKind.wrap .i64 (4 + v9)).toNat 16)
 (wK R L v0 v1 v2 (v7.set (IntKind.wrap .i64 (4 + v9)).toNat r0.1) (IntKind.wrap .i64 (v9 + 1)))
 none)
 none)
 (wL R L v1 (v7.set (12 : Int).toNat v2) 0)) := by kernel_rfl
theorem AI0 (v1 : List UInt8) (v7 : List Int) (v10 : Int) : @Eq _ (wL R L v1 v7 v10 ([1, 1, 1, 1, 1, 0, 1, 0] ++ [0])) (cond (decide (v10 < 3))
 ((mV R v1 (IntKind.wrap .i64 (4 * v10))).bind fun r0 =>
 cond (zA (IntKind.wrap .i64 (13 + v10)))
 (cond (Nat.blt (IntKind.wrap .i64 (13 + v10)).toNat 16)
 (wL R L v1 (v7.set (IntKind.wrap .i64 (13 + v10)).toNat r0.1) (IntKind.wrap .i64 (v10 + 1)))
 none)
 none)
 (yX R L v7 v7 0)) := by kernel_rfl
theorem AH9 (v7 v11 : List Int) (v12 : Int) : @Eq _ (yX R L v7 v11 v12 ([1, 1, 1, 1, 1, 1, 1, 0, 1, 0] ++ [0])) (cond (decide (v12 < 10))
 (uF R L v7 v11 v12 0)
 (wG R L v7 v11 [] 0)) := by kernel_rfl
theorem AJ1 (v7 v11 : List Int) (v12 v13 : Int) : @Eq _ (uF R L v7 v11 v12 v13 ([1, 1, 1, 1, 1, 1, 1, 0, 1, 0, 0, 1, 0, 0, 0, 1, 0] ++ [0])) (cond (decide (v13 < 4))
 ((iQ R v11 v13 (IntKind.wrap .i64 (4 + v13)) (IntKind.wrap .i64 (8 + v13)) (IntKind.wrap .i64 (12 + v13))).bind fun r0 =>
 uF R L v7 r0.1 v12 (IntKind.wrap .i64 (v13 + 1)))
 (wJ R L v7 v11 v12 0)) := by kernel_rfl
theorem AJ4 (v7 v11 v15 : List Int) (v16 : Int) : @Eq _ (wG R L v7 v11 v15 v16 ([1, 1, 1, 1, 1, 1, 1, 1, 1, 0, 1, 0] ++ [0])) (cond (decide (v16 < 16))
 (cond (zA v16)
 (cond (Nat.blt v16.toNat 16)
 (cond (zA v16)
 (cond (Nat.blt v16.toNat 16)
 ((iR R v15 (xF .and .i64 (IntKind.wrap .i64 ((v11.getD v16.toNat 0) + (v7.getD v16.toNat 0))) 4294967295)).bind fun r0 =>
 wG R L v7 v11 r0.1 (IntKind.wrap .i64 (v16 + 1)))
 none)
 none)
 none)
 none)
 (some (List.map (fun (n : Int) => UInt8.ofNat n.toNat) v15, ()))) := by kernel_rfl
theorem AJ7 (v7 v11 : List Int) (v12 v14 : Int) : @Eq _ (wJ R L v7 v11 v12 v14 ([1, 1, 1, 1, 1, 1, 1, 0, 1, 0, 0, 1, 0, 0, 1, 1, 0] ++ [0])) (cond (decide (v14 < 4))
 ((iQ R v11 v14 (IntKind.wrap .i64 (4 + (Int.tmod (IntKind.wrap .i64 (v14 + 1)) 4))) (IntKind.wrap .i64 (8 + (Int.tmod (IntKind.wrap .i64 (v14 + 2)) 4))) (IntKind.wrap .i64 (12 + (Int.tmod (IntKind.wrap .i64 (v14 + 3)) 4)))).bind fun r0 =>
 wJ R L v7 r0.1 v12 (IntKind.wrap .i64 (v14 + 1)))
 (yX R L v7 v11 (IntKind.wrap .i64 (v12 + 1)))) := by kernel_rfl
theorem BJ6 (x0 x1 : List UInt8) : @Eq _ (A34 (zE EE R L) x0 x1) (mY R L x1 (List.map (fun (b : UInt8) => (UInt8.toNat b : Int)) x0) ((List.map (fun (b : UInt8) => (UInt8.toNat b : Int)) x0).length : Int) 0) := by kernel_rfl
theorem A0W (v1 : List UInt8) (v5 : List Int) (v10 v11 : Int) : @Eq _ (mY R L v1 v5 v10 v11 ([1, 1, 0, 1, 0] ++ [0])) (cond (decide (v11 < v10))
 (cond (zA v11)
 (cond (Nat.blt v11.toNat v5.length)
 (cond (zA v11)
 (cond (Nat.blt v11.toNat v1.length)
 (cond (zA v11)
 (cond (Nat.blt v11.toNat v5.length)
 (mY R L v1 (v5.set v11.toNat (xF .xor .u8 (v5.getD v11.toNat 0) (UInt8.toNat (v1.getD v11.toNat 0) : Int))) v10 (IntKind.wrap .i64 (v11 + 1)))
 none)
 none)
 none)
 none)
 none)
 none)
 (some (List.map (fun (n : Int) => UInt8.ofNat n.toNat) v5, ()))) := by kernel_rfl
theorem A5c (x0 x1 : List UInt8) (x2 : Int) (x3 : List UInt8) : @Eq _ (fA (zE EE R L) x0 x1 x2 x3) (tY R L x0 x1 x2 x3 [] [] 0) := by kernel_rfl
theorem AW2 (v0 v1 : List UInt8) (v2 : Int) (v3 : List UInt8) (v9 : List Int) (v10 : List UInt8) (v11 : Int) : @Eq _ (tY R L v0 v1 v2 v3 v9 v10 v11 ([1, 1, 1, 0, 1, 0] ++ [0])) (cond (decide (v11 < (v3.length : Int)))
 (cond (eqI (Int.tmod v11 64) 0)
 ((qG R v0 v1 (IntKind.wrap .i64 (v2 + (IntKind.wrap .i64 (Int.tdiv v11 64))))).bind fun r0 =>
 cond (zA v11)
 (cond (Nat.blt v11.toNat v3.length)
 (cond (zA (Int.tmod v11 64))
 (cond (Nat.blt (Int.tmod v11 64).toNat r0.1.length)
 (cond (yB (v9.length + ([xF .xor .u8 (UInt8.toNat (v3.getD v11.toNat 0) : Int) (UInt8.toNat (r0.1.getD (Int.tmod v11 64).toNat 0) : Int)]).length))
 (tY R L v0 v1 v2 v3 (v9 ++ [xF .xor .u8 (UInt8.toNat (v3.getD v11.toNat 0) : Int) (UInt8.toNat (r0.1.getD (Int.tmod v11 64).toNat 0) : Int)]) r0.1 (IntKind.wrap .i64 (v11 + 1)))
 none)
 none)
 none)
 none)
 none)
 (cond (zA v11)
 (cond (Nat.blt v11.toNat v3.length)
 (cond (zA (Int.tmod v11 64))
 (cond (Nat.blt (Int.tmod v11 64).toNat v10.length)
 (cond (yB (v9.length + ([xF .xor .u8 (UInt8.toNat (v3.getD v11.toNat 0) : Int) (UInt8.toNat (v10.getD (Int.tmod v11 64).toNat 0) : Int)]).length))
 (tY R L v0 v1 v2 v3 (v9 ++ [xF .xor .u8 (UInt8.toNat (v3.getD v11.toNat 0) : Int) (UInt8.toNat (v10.getD (Int.tmod v11 64).toNat 0) : Int)]) v10 (IntKind.wrap .i64 (v11 + 1)))
 none)
 none)
 none)
 none)
 none))
 (some (List.map (fun (n : Int) => UInt8.ofNat n.toNat) v9, ()))) := by kernel_rfl
theorem A8s (x0 x1 x2 : Int) : @Eq _ (AP1 (zE EE R L) x0 x1 x2) (cond (decide (x1 ≤ x0))
 (some (decide (x0 ≤ x2), ()))
 (some (false, ()))) := by kernel_rfl
theorem Aw9 (x0 : List Int) : @Eq _ (lU (zE EE R L) x0) (sV R L x0 0) := by kernel_rfl
theorem AD3 (v0 : List Int) (v3 : Int) : @Eq _ (sV R L v0 v3 ([1, 0, 1, 0] ++ [0])) (cond (decide (v3 < (v0.length : Int)))
 (cond (zA v3)
 (cond (Nat.blt v3.toNat v0.length)
 ((AP1 R (v0.getD v3.toNat 0) 0 7).bind fun r0 =>
 cond (!r0.1)
 (some (false, ()))
 (sV R L v0 (IntKind.wrap .i64 (v3 + 1))))
 none)
 none)
 (some (true, ()))) := by kernel_rfl
theorem A0y (x0 : Int) : @Eq _ (mX (zE EE R L) x0) (tJ R L x0 [] 0) := by kernel_rfl
theorem AK3 (v0 : Int) (v3 : List Int) (v4 : Int) : @Eq _ (tJ R L v0 v3 v4 ([1, 1, 0, 1, 0] ++ [0])) (cond (decide (v4 < 8))
 (cond (decide ((IntKind.wrap .i64 (8 * v4)) < 0))
 none
 (cond (yB (v3.length + ([IntKind.wrap .u8 (Int.fdiv v0 (2 ^ (Min.min (IntKind.wrap .i64 (8 * v4)).toNat (IntKind.bits .i64))))]).length))
 (tJ R L v0 (v3 ++ [IntKind.wrap .u8 (Int.fdiv v0 (2 ^ (Min.min (IntKind.wrap .i64 (8 * v4)).toNat (IntKind.bits .i64))))]) (IntKind.wrap .i64 (v4 + 1)))
 none))
 (some (List.map (fun (n : Int) => UInt8.ofNat n.toNat) v3, ()))) := by kernel_rfl
theorem A0b (x0 x1 x2 : Int) : @Eq _ (eW (zE EE R L) x0 x1 x2) ((mX R x2).bind fun r0 =>
 cond (yB ((List.map (fun (n : Int) => UInt8.ofNat n.toNat) [IntKind.wrap .u8 x0, IntKind.wrap .u8 x1, IntKind.wrap .u8 (Int.fdiv x1 (2 ^ (Min.min (8 : Int).toNat (IntKind.bits .i64)))), 0]).length + r0.1.length))
 (some ((List.map (fun (n : Int) => UInt8.ofNat n.toNat) [IntKind.wrap .u8 x0, IntKind.wrap .u8 x1, IntKind.wrap .u8 (Int.fdiv x1 (2 ^ (Min.min (8 : Int).toNat (IntKind.bits .i64)))), 0]) ++ r0.1, ()))
 none) := by kernel_rfl
theorem A6A (x0 : List UInt8) : @Eq _ (dV (zE EE R L) x0) (kF R L x0) := by kernel_rfl
theorem A2A (v0 : List UInt8) : @Eq _ (kF R L v0 ([1, 0, 0] ++ [0])) (cond (!(eqI (Int.tmod (v0.length : Int) 16) 0))
 (cond (yB (v0.length + ([(0 : UInt8)]).length))
 (kF R L (v0 ++ [0]))
 none)
 (some (v0, ()))) := by kernel_rfl
theorem A0o (x0 : List UInt8) : @Eq _ (eP (zE EE R L) x0) (cond (Nat.ble (16 : Int).toNat x0.length)
 (uI R L (List.map (fun (b : UInt8) => (UInt8.toNat b : Int)) (List.drop 0 (List.take (16 : Int).toNat x0))) 3)
 none) := by kernel_rfl
theorem AI4 (v3 : List Int) (v4 : Int) : @Eq _ (uI R L v3 v4 ([1, 1, 0, 1, 0] ++ [0])) (cond (decide (v4 < 16))
 (cond (zA v4)
 (cond (Nat.blt v4.toNat v3.length)
 (cond (zA v4)
 (cond (Nat.blt v4.toNat v3.length)
 (uI R L (v3.set v4.toNat (xF .and .u8 (v3.getD v4.toNat 0) 15)) (IntKind.wrap .i64 (v4 + 4)))
 none)
 none)
 none)
 none)
 (uA R L v3 4)) := by kernel_rfl
theorem AK1 (v3 : List Int) (v5 : Int) : @Eq _ (uA R L v3 v5 ([1, 1, 1, 0, 1, 0] ++ [0])) (cond (decide (v5 < 16))
 (cond (zA v5)
 (cond (Nat.blt v5.toNat v3.length)
 (cond (zA v5)
 (cond (Nat.blt v5.toNat v3.length)
 (uA R L (v3.set v5.toNat (xF .and .u8 (v3.getD v5.toNat 0) 252)) (IntKind.wrap .i64 (v5 + 4)))
 none)
 none)
 none)
 none)
 (some (List.map (fun (n : Int) => UInt8.ofNat n.toNat) v3, ()))) := by kernel_rfl
theorem A0d (x0 : List UInt8) : @Eq _ (lH (zE EE R L) x0) (vD R L x0 (List.replicate 5 0) [0, 0, 0, 0, 0] 0) := by kernel_rfl
theorem AH8 (v0 : List UInt8) (v2 v3 : List Int) (v4 : Int) : @Eq _ (vD R L v0 v2 v3 v4 ([1, 1, 0, 1, 0] ++ [0])) (cond (decide (v4 < 17))
 (cond (zA v4)
 (cond (Nat.blt v4.toNat v0.length)
 (cond (zA (IntKind.wrap .i64 (Int.tdiv (IntKind.wrap .i64 (8 * v4)) 26)))
 (cond (Nat.blt (IntKind.wrap .i64 (Int.tdiv (IntKind.wrap .i64 (8 * v4)) 26)).toNat 5)
 (cond (decide ((Int.tmod (IntKind.wrap .i64 (8 * v4)) 26) < 0))
 none
 (cond (zA (IntKind.wrap .i64 (Int.tdiv (IntKind.wrap .i64 (8 * v4)) 26)))
 (cond (Nat.blt (IntKind.wrap .i64 (Int.tdiv (IntKind.wrap .i64 (8 * v4)) 26)).toNat 5)
 (cond (decide (18 < (Int.tmod (IntKind.wrap .i64 (8 * v4)) 26)))
 (cond (decide ((IntKind.wrap .i64 (Int.tdiv (IntKind.wrap .i64 (8 * v4)) 26)) < 4))
 (cond (zA (IntKind.wrap .i64 ((IntKind.wrap .i64 (Int.tdiv (IntKind.wrap .i64 (8 * v4)) 26)) + 1)))
 (cond (Nat.blt (IntKind.wrap .i64 ((IntKind.wrap .i64 (Int.tdiv (IntKind.wrap .i64 (8 * v4)) 26)) + 1)).toNat 5)
 (cond (decide ((IntKind.wrap .i64 (26 - (Int.tmod (IntKind.wrap .i64 (8 * v4)) 26))) < 0))
 none
 (cond (zA (IntKind.wrap .i64 ((IntKind.wrap .i64 (Int.tdiv (IntKind.wrap .i64 (8 * v4)) 26)) + 1)))
 (cond (Nat.blt (IntKind.wrap .i64 ((IntKind.wrap .i64 (Int.tdiv (IntKind.wrap .i64 (8 * v4)) 26)) + 1)).toNat 5)
 (vD R L v0 v2 ((v3.set (IntKind.wrap .i64 (Int.tdiv (IntKind.wrap .i64 (8 * v4)) 26)).toNat (IntKind.wrap .i64 ((v3.getD (IntKind.wrap .i64 (Int.tdiv (IntKind.wrap .i64 (8 * v4)) 26)).toNat 0) + (xF .and .i64 (IntKind.wrap .i64 ((IntKind.wrap .i64 (UInt8.toNat (v0.getD v4.toNat 0) : Int)) * (2 ^ (Min.min (Int.tmod (IntKind.wrap .i64 (8 * v4)) 26).toNat (IntKind.bits .i64))))) 67108863)))).set (IntKind.wrap .i64 ((IntKind.wrap .i64 (Int.tdiv (IntKind.wrap .i64 (8 * v4)) 26)) + 1)).toNat (IntKind.wrap .i64 (((v3.set (IntKind.wrap .i64 (Int.tdiv (IntKind.wrap .i64 (8 * v4)) 26)).toNat (IntKind.wrap .i64 ((v3.getD (IntKind.wrap .i64 (Int.tdiv (IntKind.wrap .i64 (8 * v4)) 26)).toNat 0) + (xF .and .i64 (IntKind.wrap .i64 ((IntKind.wrap .i64 (UInt8.toNat (v0.getD v4.toNat 0) : Int)) * (2 ^ (Min.min (Int.tmod (IntKind.wrap .i64 (8 * v4)) 26).toNat (IntKind.bits .i64))))) 67108863)))).getD (IntKind.wrap .i64 ((IntKind.wrap .i64 (Int.tdiv (IntKind.wrap .i64 (8 * v4)) 26)) + 1)).toNat 0) + (Int.fdiv (IntKind.wrap .i64 (UInt8.toNat (v0.getD v4.toNat 0) : Int)) (2 ^ (Min.min (IntKind.wrap .i64 (26 - (Int.tmod (IntKind.wrap .i64 (8 * v4)) 26))).toNat (IntKind.bits .i64))))))) (IntKind.wrap .i64 (v4 + 1)))
 none)
 none))
 none)
 none)
 (vD R L v0 v2 (v3.set (IntKind.wrap .i64 (Int.tdiv (IntKind.wrap .i64 (8 * v4)) 26)).toNat (IntKind.wrap .i64 ((v3.getD (IntKind.wrap .i64 (Int.tdiv (IntKind.wrap .i64 (8 * v4)) 26)).toNat 0) + (xF .and .i64 (IntKind.wrap .i64 ((IntKind.wrap .i64 (UInt8.toNat (v0.getD v4.toNat 0) : Int)) * (2 ^ (Min.min (Int.tmod (IntKind.wrap .i64 (8 * v4)) 26).toNat (IntKind.bits .i64))))) 67108863)))) (IntKind.wrap .i64 (v4 + 1))))
 (vD R L v0 v2 (v3.set (IntKind.wrap .i64 (Int.tdiv (IntKind.wrap .i64 (8 * v4)) 26)).toNat (IntKind.wrap .i64 ((v3.getD (IntKind.wrap .i64 (Int.tdiv (IntKind.wrap .i64 (8 * v4)) 26)).toNat 0) + (xF .and .i64 (IntKind.wrap .i64 ((IntKind.wrap .i64 (UInt8.toNat (v0.getD v4.toNat 0) : Int)) * (2 ^ (Min.min (Int.tmod (IntKind.wrap .i64 (8 * v4)) 26).toNat (IntKind.bits .i64))))) 67108863)))) (IntKind.wrap .i64 (v4 + 1))))
 none)
 none))
 none)
 none)
 none)
 none)
 (some (v3, ()))) := by kernel_rfl
theorem A1p (x0 : List Int) : @Eq _ (oQ (zE EE R L) x0) (rT R L x0 (List.replicate 5 0) 0) := by kernel_rfl
theorem Ak9 (v1 v2 : List Int) (v3 : Int) : @Eq _ (rT R L v1 v2 v3 ([1, 0, 1, 0] ++ [0])) (cond (decide (v3 < 3))
 (uH R L v1 v2 v3 0)
 (some (v1, ()))) := by kernel_rfl
theorem AJ2 (v1 v2 : List Int) (v3 v4 : Int) : @Eq _ (uH R L v1 v2 v3 v4 ([1, 0, 1, 0, 0, 1, 0, 0, 0, 1, 0] ++ [0])) (cond (decide (v4 < 4))
 (cond (zA (IntKind.wrap .i64 (v4 + 1)))
 (cond (Nat.blt (IntKind.wrap .i64 (v4 + 1)).toNat 5)
 (cond (zA v4)
 (cond (Nat.blt v4.toNat 5)
 (cond (zA (IntKind.wrap .i64 (v4 + 1)))
 (cond (Nat.blt (IntKind.wrap .i64 (v4 + 1)).toNat 5)
 (cond (zA v4)
 (cond (Nat.blt v4.toNat 5)
 (cond (zA v4)
 (cond (Nat.blt v4.toNat 5)
 (uH R L ((v1.set (IntKind.wrap .i64 (v4 + 1)).toNat (IntKind.wrap .i64 ((v1.getD (IntKind.wrap .i64 (v4 + 1)).toNat 0) + (Int.fdiv (v1.getD v4.toNat 0) (2 ^ (Min.min (26 : Int).toNat (IntKind.bits .i64))))))).set v4.toNat (xF .and .i64 ((v1.set (IntKind.wrap .i64 (v4 + 1)).toNat (IntKind.wrap .i64 ((v1.getD (IntKind.wrap .i64 (v4 + 1)).toNat 0) + (Int.fdiv (v1.getD v4.toNat 0) (2 ^ (Min.min (26 : Int).toNat (IntKind.bits .i64))))))).getD v4.toNat 0) 67108863)) v2 v3 (IntKind.wrap .i64 (v4 + 1)))
 none)
 none)
 none)
 none)
 none)
 none)
 none)
 none)
 none)
 none)
 (rT R L ((v1.set (0 : Int).toNat (IntKind.wrap .i64 ((v1.getD (0 : Int).toNat 0) + (IntKind.wrap .i64 (5 * (Int.fdiv (v1.getD (4 : Int).toNat 0) (2 ^ (Min.min (26 : Int).toNat (IntKind.bits .i64))))))))).set (4 : Int).toNat (xF .and .i64 ((v1.set (0 : Int).toNat (IntKind.wrap .i64 ((v1.getD (0 : Int).toNat 0) + (IntKind.wrap .i64 (5 * (Int.fdiv (v1.getD (4 : Int).toNat 0) (2 ^ (Min.min (26 : Int).toNat (IntKind.bits .i64))))))))).getD (4 : Int).toNat 0) 67108863)) v2 (IntKind.wrap .i64 (v3 + 1)))) := by kernel_rfl
theorem A2I (x0 x1 : List Int) : @Eq _ (lC (zE EE R L) x0 x1) (wZ R L x0 x1 (List.replicate 5 0) [0, 0, 0, 0, 0] 0) := by kernel_rfl
theorem AJ8 (v2 v3 v4 v5 : List Int) (v6 : Int) : @Eq _ (wZ R L v2 v3 v4 v5 v6 ([1, 1, 0, 1, 0] ++ [0])) (cond (decide (v6 < 5))
 (vC R L v2 v3 v4 v5 v6 0)
 ((oQ R v5).bind fun r0 =>
 some (r0.1, ()))) := by kernel_rfl
theorem AK2 (v2 v3 v4 v5 : List Int) (v6 v7 : Int) : @Eq _ (vC R L v2 v3 v4 v5 v6 v7 ([1, 1, 0, 1, 0, 0, 1, 0, 0, 1, 0] ++ [0])) (cond (decide (v7 < 5))
 (cond (zA v6)
 (cond (Nat.blt v6.toNat 5)
 (cond (zA v7)
 (cond (Nat.blt v7.toNat 5)
 (cond (decide (4 < (IntKind.wrap .i64 (v6 + v7))))
 (cond (zA (Int.tmod (IntKind.wrap .i64 (v6 + v7)) 5))
 (cond (Nat.blt (Int.tmod (IntKind.wrap .i64 (v6 + v7)) 5).toNat 5)
 (cond (zA (Int.tmod (IntKind.wrap .i64 (v6 + v7)) 5))
 (cond (Nat.blt (Int.tmod (IntKind.wrap .i64 (v6 + v7)) 5).toNat 5)
 (vC R L v2 v3 v4 (v5.set (Int.tmod (IntKind.wrap .i64 (v6 + v7)) 5).toNat (IntKind.wrap .i64 ((v5.getD (Int.tmod (IntKind.wrap .i64 (v6 + v7)) 5).toNat 0) + (IntKind.wrap .i64 ((IntKind.wrap .i64 ((v2.getD v6.toNat 0) * (v3.getD v7.toNat 0))) * 5))))) v6 (IntKind.wrap .i64 (v7 + 1)))
 none)
 none)
 none)
 none)
 (cond (zA (Int.tmod (IntKind.wrap .i64 (v6 + v7)) 5))
 (cond (Nat.blt (Int.tmod (IntKind.wrap .i64 (v6 + v7)) 5).toNat 5)
 (cond (zA (Int.tmod (IntKind.wrap .i64 (v6 + v7)) 5))
 (cond (Nat.blt (Int.tmod (IntKind.wrap .i64 (v6 + v7)) 5).toNat 5)
 (vC R L v2 v3 v4 (v5.set (Int.tmod (IntKind.wrap .i64 (v6 + v7)) 5).toNat (IntKind.wrap .i64 ((v5.getD (Int.tmod (IntKind.wrap .i64 (v6 + v7)) 5).toNat 0) + (IntKind.wrap .i64 ((v2.getD v6.toNat 0) * (v3.getD v7.toNat 0)))))) v6 (IntKind.wrap .i64 (v7 + 1)))
 none)
 none)
 none)
 none))
 none)
 none)
 none)
 none)
 (wZ R L v2 v3 v4 v5 (IntKind.wrap .i64 (v6 + 1)))) := by kernel_rfl
theorem A2d (x0 : List Int) : @Eq _ (bQ (zE EE R L) x0) (sC R L x0 (List.replicate 5 0) (x0.set (0 : Int).toNat (IntKind.wrap .i64 ((x0.getD (0 : Int).toNat 0) + 5))) 0) := by kernel_rfl
theorem AP8 (v1 v2 v3 : List Int) (v4 : Int) : @Eq _ (sC R L v1 v2 v3 v4 ([1, 1, 1, 0, 1, 0] ++ [0])) (cond (decide (v4 < 4))
 (cond (zA (IntKind.wrap .i64 (v4 + 1)))
 (cond (Nat.blt (IntKind.wrap .i64 (v4 + 1)).toNat 5)
 (cond (zA v4)
 (cond (Nat.blt v4.toNat 5)
 (cond (zA (IntKind.wrap .i64 (v4 + 1)))
 (cond (Nat.blt (IntKind.wrap .i64 (v4 + 1)).toNat 5)
 (cond (zA v4)
 (cond (Nat.blt v4.toNat 5)
 (cond (zA v4)
 (cond (Nat.blt v4.toNat 5)
 (sC R L v1 v2 ((v3.set (IntKind.wrap .i64 (v4 + 1)).toNat (IntKind.wrap .i64 ((v3.getD (IntKind.wrap .i64 (v4 + 1)).toNat 0) + (Int.fdiv (v3.getD v4.toNat 0) (2 ^ (Min.min (26 : Int).toNat (IntKind.bits .i64))))))).set v4.toNat (xF .and .i64 ((v3.set (IntKind.wrap .i64 (v4 + 1)).toNat (IntKind.wrap .i64 ((v3.getD (IntKind.wrap .i64 (v4 + 1)).toNat 0) + (Int.fdiv (v3.getD v4.toNat 0) (2 ^ (Min.min (26 : Int).toNat (IntKind.bits .i64))))))).getD v4.toNat 0) 67108863)) (IntKind.wrap .i64 (v4 + 1)))
 none)
 none)
 none)
 none)
 none)
 none)
 none)
 none)
 none)
 none)
 (cond (eqI (Int.fdiv (v3.getD (4 : Int).toNat 0) (2 ^ (Min.min (26 : Int).toNat (IntKind.bits .i64)))) 0)
 (some (v1, ()))
 (some (v3.set (4 : Int).toNat (xF .and .i64 (v3.getD (4 : Int).toNat 0) 67108863), ())))) := by kernel_rfl
theorem A6S (x0 x1 : List UInt8) : @Eq _ (gR (zE EE R L) x0 x1) ((eP R x0).bind fun r0 =>
 cond (yB (r0.1.length + ([(0 : UInt8)]).length))
 ((lH R (r0.1 ++ [0])).bind fun r1 =>
 tW R L x0 x1 r1.1 [0, 0, 0, 0, 0] 0)
 none) := by kernel_rfl
theorem AY9 (v0 v1 : List UInt8) (v5 v6 : List Int) (v7 : Int) : @Eq _ (tW R L v0 v1 v5 v6 v7 ([1, 1, 1, 0, 1, 0] ++ [0])) (cond (decide (v7 < (v1.length : Int)))
 (cond (zA (Av8 (v1.length : Int) (IntKind.wrap .i64 (v7 + 16))))
 (cond (zA v7)
 (cond (Nat.ble (Av8 (v1.length : Int) (IntKind.wrap .i64 (v7 + 16))).toNat v1.length)
 (cond (Nat.ble v7.toNat (Av8 (v1.length : Int) (IntKind.wrap .i64 (v7 + 16))).toNat)
 (cond (yB ((List.drop v7.toNat (List.take (Av8 (v1.length : Int) (IntKind.wrap .i64 (v7 + 16))).toNat v1)).length + ([(1 : UInt8)]).length))
 (qJ R L v0 v1 v5 v6 v7 ((List.drop v7.toNat (List.take (Av8 (v1.length : Int) (IntKind.wrap .i64 (v7 + 16))).toNat v1)) ++ [1]))
 none)
 none)
 none)
 none)
 none)
 ((oQ R v6).bind fun r0 =>
 (bQ R r0.1).bind fun r1 =>
 vZ R L v0 r1.1 [] 0 0)) := by kernel_rfl
theorem AX5 (v0 v1 : List UInt8) (v5 v6 : List Int) (v7 : Int) (v8 : List UInt8) : @Eq _ (qJ R L v0 v1 v5 v6 v7 v8 ([1, 1, 1, 0, 1, 0, 0, 1, 0, 0, 1, 0, 0] ++ [0])) (cond (decide ((v8.length : Int) < 17))
 (cond (yB (v8.length + ([(0 : UInt8)]).length))
 (qJ R L v0 v1 v5 v6 v7 (v8 ++ [0]))
 none)
 ((lH R v8).bind fun r0 =>
 tC R L v0 v1 v5 v6 v7 r0.1 0)) := by kernel_rfl
theorem AX9 (v0 : List UInt8) (v6 v11 : List Int) (v12 v13 : Int) : @Eq _ (vZ R L v0 v6 v11 v12 v13 ([1, 1, 1, 1, 1, 1, 1, 0, 1, 0] ++ [0])) (cond (decide (v13 < 16))
 (cond (zA (IntKind.wrap .i64 (Int.tdiv (IntKind.wrap .i64 (8 * v13)) 26)))
 (cond (Nat.blt (IntKind.wrap .i64 (Int.tdiv (IntKind.wrap .i64 (8 * v13)) 26)).toNat 5)
 (cond (decide ((Int.tmod (IntKind.wrap .i64 (8 * v13)) 26) < 0))
 none
 (cond (decide (18 < (Int.tmod (IntKind.wrap .i64 (8 * v13)) 26)))
 (cond (zA (IntKind.wrap .i64 ((IntKind.wrap .i64 (Int.tdiv (IntKind.wrap .i64 (8 * v13)) 26)) + 1)))
 (cond (Nat.blt (IntKind.wrap .i64 ((IntKind.wrap .i64 (Int.tdiv (IntKind.wrap .i64 (8 * v13)) 26)) + 1)).toNat 5)
 (cond (decide ((IntKind.wrap .i64 (26 - (Int.tmod (IntKind.wrap .i64 (8 * v13)) 26))) < 0))
 none
 (cond (zA (IntKind.wrap .i64 (16 + v13)))
 (cond (Nat.blt (IntKind.wrap .i64 (16 + v13)).toNat v0.length)
 (cond (yB (v11.length + ([IntKind.wrap .u8 (IntKind.wrap .i64 (v12 + (IntKind.wrap .i64 ((xF .and .i64 (IntKind.wrap .i64 ((Int.fdiv (v6.getD (IntKind.wrap .i64 (Int.tdiv (IntKind.wrap .i64 (8 * v13)) 26)).toNat 0) (2 ^ (Min.min (Int.tmod (IntKind.wrap .i64 (8 * v13)) 26).toNat (IntKind.bits .i64)))) + (IntKind.wrap .i64 ((v6.getD (IntKind.wrap .i64 ((IntKind.wrap .i64 (Int.tdiv (IntKind.wrap .i64 (8 * v13)) 26)) + 1)).toNat 0) * (2 ^ (Min.min (IntKind.wrap .i64 (26 - (Int.tmod (IntKind.wrap .i64 (8 * v13)) 26))).toNat (IntKind.bits .i64))))))) 255) + (IntKind.wrap .i64 (UInt8.toNat (v0.getD (IntKind.wrap .i64 (16 + v13)).toNat 0) : Int))))))]).length))
 (vZ R L v0 v6 (v11 ++ [IntKind.wrap .u8 (IntKind.wrap .i64 (v12 + (IntKind.wrap .i64 ((xF .and .i64 (IntKind.wrap .i64 ((Int.fdiv (v6.getD (IntKind.wrap .i64 (Int.tdiv (IntKind.wrap .i64 (8 * v13)) 26)).toNat 0) (2 ^ (Min.min (Int.tmod (IntKind.wrap .i64 (8 * v13)) 26).toNat (IntKind.bits .i64)))) + (IntKind.wrap .i64 ((v6.getD (IntKind.wrap .i64 ((IntKind.wrap .i64 (Int.tdiv (IntKind.wrap .i64 (8 * v13)) 26)) + 1)).toNat 0) * (2 ^ (Min.min (IntKind.wrap .i64 (26 - (Int.tmod (IntKind.wrap .i64 (8 * v13)) 26))).toNat (IntKind.bits .i64))))))) 255) + (IntKind.wrap .i64 (UInt8.toNat (v0.getD (IntKind.wrap .i64 (16 + v13)).toNat 0) : Int))))))]) (Int.fdiv (IntKind.wrap .i64 (v12 + (IntKind.wrap .i64 ((xF .and .i64 (IntKind.wrap .i64 ((Int.fdiv (v6.getD (IntKind.wrap .i64 (Int.tdiv (IntKind.wrap .i64 (8 * v13)) 26)).toNat 0) (2 ^ (Min.min (Int.tmod (IntKind.wrap .i64 (8 * v13)) 26).toNat (IntKind.bits .i64)))) + (IntKind.wrap .i64 ((v6.getD (IntKind.wrap .i64 ((IntKind.wrap .i64 (Int.tdiv (IntKind.wrap .i64 (8 * v13)) 26)) + 1)).toNat 0) * (2 ^ (Min.min (IntKind.wrap .i64 (26 - (Int.tmod (IntKind.wrap .i64 (8 * v13)) 26))).toNat (IntKind.bits .i64))))))) 255) + (IntKind.wrap .i64 (UInt8.toNat (v0.getD (IntKind.wrap .i64 (16 + v13)).toNat 0) : Int)))))) (2 ^ (Min.min (8 : Int).toNat (IntKind.bits .i64)))) (IntKind.wrap .i64 (v13 + 1)))
 none)
 none)
 none))
 none)
 none)
 (cond (zA (IntKind.wrap .i64 (16 + v13)))
 (cond (Nat.blt (IntKind.wrap .i64 (16 + v13)).toNat v0.length)
 (cond (yB (v11.length + ([IntKind.wrap .u8 (IntKind.wrap .i64 (v12 + (IntKind.wrap .i64 ((xF .and .i64 (Int.fdiv (v6.getD (IntKind.wrap .i64 (Int.tdiv (IntKind.wrap .i64 (8 * v13)) 26)).toNat 0) (2 ^ (Min.min (Int.tmod (IntKind.wrap .i64 (8 * v13)) 26).toNat (IntKind.bits .i64)))) 255) + (IntKind.wrap .i64 (UInt8.toNat (v0.getD (IntKind.wrap .i64 (16 + v13)).toNat 0) : Int))))))]).length))
 (vZ R L v0 v6 (v11 ++ [IntKind.wrap .u8 (IntKind.wrap .i64 (v12 + (IntKind.wrap .i64 ((xF .and .i64 (Int.fdiv (v6.getD (IntKind.wrap .i64 (Int.tdiv (IntKind.wrap .i64 (8 * v13)) 26)).toNat 0) (2 ^ (Min.min (Int.tmod (IntKind.wrap .i64 (8 * v13)) 26).toNat (IntKind.bits .i64)))) 255) + (IntKind.wrap .i64 (UInt8.toNat (v0.getD (IntKind.wrap .i64 (16 + v13)).toNat 0) : Int))))))]) (Int.fdiv (IntKind.wrap .i64 (v12 + (IntKind.wrap .i64 ((xF .and .i64 (Int.fdiv (v6.getD (IntKind.wrap .i64 (Int.tdiv (IntKind.wrap .i64 (8 * v13)) 26)).toNat 0) (2 ^ (Min.min (Int.tmod (IntKind.wrap .i64 (8 * v13)) 26).toNat (IntKind.bits .i64)))) 255) + (IntKind.wrap .i64 (UInt8.toNat (v0.getD (IntKind.wrap .i64 (16 + v13)).toNat 0) : Int)))))) (2 ^ (Min.min (8 : Int).toNat (IntKind.bits .i64)))) (IntKind.wrap .i64 (v13 + 1)))
 none)
 none)
 none)))
 none)
 none)
 (some (List.map (fun (n : Int) => UInt8.ofNat n.toNat) v11, ()))) := by kernel_rfl
theorem AW9 (v0 v1 : List UInt8) (v5 v6 : List Int) (v7 : Int) (v9 : List Int) (v10 : Int) : @Eq _ (tC R L v0 v1 v5 v6 v7 v9 v10 ([1, 1, 1, 0, 1, 0, 0, 1, 0, 0, 1, 1, 1, 0, 1, 0] ++ [0])) (cond (decide (v10 < 5))
 (cond (zA v10)
 (cond (Nat.blt v10.toNat 5)
 (cond (zA v10)
 (cond (Nat.blt v10.toNat 5)
 (cond (zA v10)
 (cond (Nat.blt v10.toNat 5)
 (tC R L v0 v1 v5 (v6.set v10.toNat (IntKind.wrap .i64 ((v6.getD v10.toNat 0) + (v9.getD v10.toNat 0)))) v7 v9 (IntKind.wrap .i64 (v10 + 1)))
 none)
 none)
 none)
 none)
 none)
 none)
 ((lC R v6 v5).bind fun r0 =>
 tW R L v0 v1 v5 r0.1 (IntKind.wrap .i64 (v7 + 16)))) := by kernel_rfl
theorem A6V (x0 x1 x2 x3 : List UInt8) : @Eq _ (AF7 (zE EE R L) x0 x1 x2 x3) ((qG R x0 x1 0).bind fun r0 =>
 cond (Nat.ble (32 : Int).toNat r0.1.length)
 ((dV R x2).bind fun r1 =>
 (dV R x3).bind fun r2 =>
 cond (yB (r1.1.length + r2.1.length))
 ((mX R (x2.length : Int)).bind fun r3 =>
 cond (yB ((r1.1 ++ r2.1).length + r3.1.length))
 ((mX R (x3.length : Int)).bind fun r4 =>
 cond (yB (((r1.1 ++ r2.1) ++ r3.1).length + r4.1.length))
 ((gR R (List.drop 0 (List.take (32 : Int).toNat r0.1)) (((r1.1 ++ r2.1) ++ r3.1) ++ r4.1)).bind fun r5 =>
 some (r5.1, ()))
 none)
 none)
 none)
 none) := by kernel_rfl
theorem A2y (x0 x1 x2 x3 : List UInt8) : @Eq _ (fQ (zE EE R L) x0 x1 x2 x3) ((fA R x0 x1 1 x3).bind fun r0 =>
 (AF7 R x0 x1 x2 r0.1).bind fun r1 =>
 cond (yB (r0.1.length + r1.1.length))
 (some (r0.1 ++ r1.1, ()))
 none) := by kernel_rfl
theorem A2u (x0 : List UInt8) (x1 x2 x3 : Int) (x4 : List UInt8) : @Eq _ (mR (zE EE R L) x0 x1 x2 x3 x4) ((eW R x1 x2 x3).bind fun r0 =>
 (fQ R x0 r0.1 [98, 108, 111, 99, 107] x4).bind fun r1 =>
 some (r1.1, ())) := by kernel_rfl
theorem A17 (x0 : d80) (x1 : Int) (x2 : List UInt8) : @Eq _ (lG (zE EE R L) x0 x1 x2) (cond (yB (([] : List d79).length + x0.2.1.length))
 (cond (yB ((([] : List d79) ++ x0.2.1).length + ([(x1, (x2, ()))]).length))
 (some ((x0.1, (([] ++ x0.2.1) ++ [(x1, (x2, ()))], x0.2.2)), ()))
 none)
 none) := by kernel_rfl
theorem A3x (x0 : d80) : @Eq _ (cW (zE EE R L) x0) (cond (yB (([] : List (List UInt8)).length + x0.1.length))
 (pD R L x0 ([], ([], ())) ([] ++ x0.1, ([], ())) 0)
 none) := by kernel_rfl
theorem AQ8 (v1 v2 v3 : d80) (v4 : Int) : @Eq _ (pD R L v1 v2 v3 v4 ([1, 1, 0, 1, 0] ++ [0])) (cond (decide (v4 < (v1.2.1.length : Int)))
 (cond (zA v4)
 (cond (Nat.blt v4.toNat v1.2.1.length)
 (cond (zA v4)
 (cond (Nat.blt v4.toNat v1.2.1.length)
 (cond (zA (v1.2.1.getD v4.toNat (0, ([], ()))).1)
 (cond (Nat.blt (v1.2.1.getD v4.toNat (0, ([], ()))).1.toNat v3.1.length)
 (pD R L v1 v2 (v3.1.set (v1.2.1.getD v4.toNat (0, ([], ()))).1.toNat (v1.2.1.getD v4.toNat (0, ([], ()))).2.1, v3.2) (IntKind.wrap .i64 (v4 + 1)))
 none)
 none)
 none)
 none)
 none)
 none)
 (some (v3, ()))) := by kernel_rfl
theorem A1R (x0 : List UInt8) : @Eq _ (lE (zE EE R L) x0) (some (eqI (x0.length : Int) 32, ())) := by kernel_rfl
theorem iY (x0 : d78) : @Eq _ (uN (zE EE R L) x0) (some (IntKind.wrap .i64 (x0.2.2.1 - x0.1), ())) := by kernel_rfl
theorem Ak4 (x0 : d78) : @Eq _ (mA (zE EE R L) x0) ((tM R x0.1 0 1000000).bind fun r0 =>
 cond r0.1
 ((tM R x0.2.1 0 1).bind fun r1 =>
 cond r1.1
 ((tM R x0.2.2.1 x0.1 (Av8 (IntKind.wrap .i64 (x0.1 + 4)) 1000000)).bind fun r2 =>
 cond r2.1
 ((tM R x0.2.2.2.1 0 1000000).bind fun r3 =>
 cond r3.1
 ((lE R x0.2.2.2.2.1).bind fun r4 =>
 cond r4.1
 ((lE R x0.2.2.2.2.2.1).bind fun r5 =>
 cond r5.1
 ((lE R x0.2.2.2.2.2.2.1).bind fun r6 =>
 cond r6.1
 ((uN R x0).bind fun r7 =>
 cond (decide (0 < r7.1))
 (some (true, ()))
 (some (eqS x0.2.2.2.2.1 x0.2.2.2.2.2.1, ())))
 (some (false, ())))
 (some (false, ())))
 (some (false, ())))
 (some (false, ())))
 (some (false, ())))
 (some (false, ())))
 (some (false, ()))) := by kernel_rfl
theorem AH4 (x0 : List UInt8) (x1 : FnVal) : @Eq _ (nR (zE EE R L) x0 x1) ((vJ EE R x1 [⟨.str, (x0 : List UInt8)⟩]).bind fun (r0 : Bool) =>
 some (!r0, ())) := by kernel_rfl
theorem mT (x0 : List (List UInt8)) (x1 : FnVal) : @Eq _ (xS (zE EE R L) x0 x1) (wR R L x0 x1 0 (x0.length : Int) 0) := by kernel_rfl
theorem nW (v0 : List (List UInt8)) (v1 : FnVal) (v4 v7 v8 : Int) : @Eq _ (wR R L v0 v1 v4 v7 v8 ([1, 0, 1, 0] ++ [0])) (cond (decide (v8 < v7))
 (cond (zA v8)
 (cond (Nat.blt v8.toNat v0.length)
 ((vJ EE R v1 [⟨.str, (v0.getD v8.toNat [] : List UInt8)⟩]).bind fun (r0 : Bool) =>
 cond r0
 (some (v8, ()))
 (zG R L v0 v1 v4 v8 v7 (IntKind.wrap .i64 (v8 + 1))))
 none)
 none)
 (some (-1, ()))) := by kernel_rfl
theorem wU (v0 : List (List UInt8)) (v1 : FnVal) (v4 v5 v7 v8 : Int) : @Eq _ (zG R L v0 v1 v4 v5 v7 v8 ([1, 0, 1, 0] ++ [0])) (cond (decide (v8 < v7))
 (cond (zA v8)
 (cond (Nat.blt v8.toNat v0.length)
 ((vJ EE R v1 [⟨.str, (v0.getD v8.toNat [] : List UInt8)⟩]).bind fun (r0 : Bool) =>
 cond r0
 (some (v8, ()))
 (zG R L v0 v1 v4 v8 v7 (IntKind.wrap .i64 (v8 + 1))))
 none)
 none)
 (some (-1, ()))) := by kernel_rfl
theorem nM (x0 : List (List UInt8)) (x1 : FnVal) : @Eq _ (xC (zE EE R L) x0 x1) ((xS R x0 x1).bind fun r0 =>
 some (decide (0 ≤ r0.1), ())) := by kernel_rfl
theorem AP2 (x0 : List (List UInt8)) (x1 : FnVal) : @Eq _ (tN (zE EE R L) x0 x1) ((xC R x0 (FnVal.mk (81 : Nat) (FCaps.fn x1 FCaps.nil))).bind fun r0 =>
 some (!r0.1, ())) := by kernel_rfl
theorem Az7 (x0 : List UInt8) : @Eq _ (kG (zE EE R L) x0) (some (decide ((x0.length : Int) ≤ 700), ())) := by kernel_rfl
theorem AO4 (x0 : d79) (x1 : FnVal) : @Eq _ (lS (zE EE R L) x0 x1) ((vJ EE R x1 [⟨t12, (x0 : d79)⟩]).bind fun (r0 : Bool) =>
 some (!r0, ())) := by kernel_rfl
theorem kY (x0 : List d79) (x1 : FnVal) : @Eq _ (wP (zE EE R L) x0 x1) (vU R L x0 x1 0 (x0.length : Int) 0) := by kernel_rfl
theorem lX (v0 : List d79) (v1 : FnVal) (v4 v7 v8 : Int) : @Eq _ (vU R L v0 v1 v4 v7 v8 ([1, 0, 1, 0] ++ [0])) (cond (decide (v8 < v7))
 (cond (zA v8)
 (cond (Nat.blt v8.toNat v0.length)
 ((vJ EE R v1 [⟨t12, (v0.getD v8.toNat (0, ([], ())) : d79)⟩]).bind fun (r0 : Bool) =>
 cond r0
 (some (v8, ()))
 (zK R L v0 v1 v4 v8 v7 (IntKind.wrap .i64 (v8 + 1))))
 none)
 none)
 (some (-1, ()))) := by kernel_rfl
theorem uD (v0 : List d79) (v1 : FnVal) (v4 v5 v7 v8 : Int) : @Eq _ (zK R L v0 v1 v4 v5 v7 v8 ([1, 0, 1, 0] ++ [0])) (cond (decide (v8 < v7))
 (cond (zA v8)
 (cond (Nat.blt v8.toNat v0.length)
 ((vJ EE R v1 [⟨t12, (v0.getD v8.toNat (0, ([], ())) : d79)⟩]).bind fun (r0 : Bool) =>
 cond r0
 (some (v8, ()))
 (zK R L v0 v1 v4 v8 v7 (IntKind.wrap .i64 (v8 + 1))))
 none)
 none)
 (some (-1, ()))) := by kernel_rfl
theorem lJ (x0 : List d79) (x1 : FnVal) : @Eq _ (xY (zE EE R L) x0 x1) ((wP R x0 x1).bind fun r0 =>
 some (decide (0 ≤ r0.1), ())) := by kernel_rfl
theorem Ab0 (x0 : List d79) (x1 : FnVal) : @Eq _ (mN (zE EE R L) x0 x1) ((xY R x0 (FnVal.mk (168 : Nat) (FCaps.fn x1 FCaps.nil))).bind fun r0 =>
 some (!r0.1, ())) := by kernel_rfl
theorem A1B (x0 : Int) : @Eq _ (eR (zE EE R L) x0) ((tM R x0 0 39).bind fun r0 =>
 some (r0.1, ())) := by kernel_rfl
theorem Al8 (x0 : d79) : @Eq _ (jY (zE EE R L) x0) ((eR R x0.1).bind fun r0 =>
 cond r0.1
 ((kG R x0.2.1).bind fun r1 =>
 some (r1.1, ()))
 (some (false, ()))) := by kernel_rfl
theorem A1x (x0 : d80) : @Eq _ (eZ (zE EE R L) x0) (cond (eqI (x0.1.length : Int) 40)
 ((tN R x0.1 (FnVal.mk (127 : Nat) FCaps.nil)).bind fun r0 =>
 cond r0.1
 (cond (decide ((x0.2.1.length : Int) ≤ 60))
 ((mN R x0.2.1 (FnVal.mk (129 : Nat) FCaps.nil)).bind fun r1 =>
 some (r1.1, ()))
 (some (false, ())))
 (some (false, ())))
 (some (false, ()))) := by kernel_rfl
theorem A6f (x0 : d80) : @Eq _ (AG0 (zE EE R L) x0) ((eZ R x0).bind fun r0 =>
 cond r0.1
 (some (eqI (x0.2.1.length : Int) 0, ()))
 (some (false, ()))) := by kernel_rfl
theorem A3n (x0 : d81) : @Eq _ (mS (zE EE R L) x0) (cond (eqI (x0.1.length : Int) 32)
 ((mA R x0.2.1).bind fun r0 =>
 cond r0.1
 ((AG0 R x0.2.2.1).bind fun r1 =>
 cond r1.1
 (cond x0.2.2.2.1
 (some (!x0.2.2.2.2.1, ()))
 (some (!false, ())))
 (some (false, ())))
 (some (false, ())))
 (some (false, ()))) := by kernel_rfl
theorem Aa9 (x0 : d81) : @Eq _ (qW (zE EE R L) x0) (cond x0.2.2.2.2.1
 (some (18, ()))
 (cond (!x0.2.2.2.1)
 (some (16, ()))
 (some (0, ())))) := by kernel_rfl
theorem A2i (x0 x1 x2 : Int) : @Eq _ (fK (zE EE R L) x0 x1 x2) ((wY R x0 1).bind fun r0 =>
 (wY R x1 2).bind fun r1 =>
 cond (yB (r0.1.length + r1.1.length))
 ((wY R 0 1).bind fun r2 =>
 cond (yB ((r0.1 ++ r1.1).length + r2.1.length))
 ((wY R x2 8).bind fun r3 =>
 cond (yB (((r0.1 ++ r1.1) ++ r2.1).length + r3.1.length))
 (some (((r0.1 ++ r1.1) ++ r2.1) ++ r3.1, ()))
 none)
 none)
 none) := by kernel_rfl
theorem A6e (x0 : List UInt8) : @Eq _ (cF (zE EE R L) x0) ((qS R [0] (Int.tmod (IntKind.wrap .i64 (16 - (Int.tmod (x0.length : Int) 16))) 16)).bind fun r0 =>
 cond (yB (x0.length + r0.1.length))
 (some (x0 ++ r0.1, ()))
 none) := by kernel_rfl
theorem A23 (x0 : List UInt8) : @Eq _ (bZ (zE EE R L) x0) (cond (Nat.ble (16 : Int).toNat x0.length)
 (uZ R L (List.map (fun (b : UInt8) => (UInt8.toNat b : Int)) (List.drop 0 (List.take (16 : Int).toNat x0))) 3)
 none) := by kernel_rfl
theorem AN7 (v3 : List Int) (v4 : Int) : @Eq _ (uZ R L v3 v4 ([1, 1, 0, 1, 0] ++ [0])) (cond (decide (v4 < 16))
 (cond (zA v4)
 (cond (Nat.blt v4.toNat v3.length)
 (cond (zA v4)
 (cond (Nat.blt v4.toNat v3.length)
 (uZ R L (v3.set v4.toNat (xF .and .u8 (v3.getD v4.toNat 0) 15)) (IntKind.wrap .i64 (v4 + 4)))
 none)
 none)
 none)
 none)
 (tG R L v3 4)) := by kernel_rfl
theorem AP7 (v3 : List Int) (v5 : Int) : @Eq _ (tG R L v3 v5 ([1, 1, 1, 0, 1, 0] ++ [0])) (cond (decide (v5 < 16))
 (cond (zA v5)
 (cond (Nat.blt v5.toNat v3.length)
 (cond (zA v5)
 (cond (Nat.blt v5.toNat v3.length)
 (tG R L (v3.set v5.toNat (xF .and .u8 (v3.getD v5.toNat 0) 252)) (IntKind.wrap .i64 (v5 + 4)))
 none)
 none)
 none)
 none)
 (some (List.map (fun (n : Int) => UInt8.ofNat n.toNat) v3, ()))) := by kernel_rfl
theorem A2W (x0 : List UInt8) : @Eq _ (jV (zE EE R L) x0) (wN R L (List.replicate 5 0) (List.replicate 5 0) (List.map (fun (b : UInt8) => (UInt8.toNat b : Int)) x0) ((List.map (fun (b : UInt8) => (UInt8.toNat b : Int)) x0).length : Int) 0) := by kernel_rfl
theorem AQ9 (v2 v3 v9 : List Int) (v10 v11 : Int) : @Eq _ (wN R L v2 v3 v9 v10 v11 ([1, 1, 0, 1, 0] ++ [0])) (cond (decide (v11 < v10))
 (cond (zA v11)
 (cond (Nat.blt v11.toNat v9.length)
 (vE R L v2 v3 v11 (v9.getD v11.toNat 0) v9 v10 v11 0)
 none)
 none)
 (some (v3, ()))) := by kernel_rfl
theorem AS2 (v2 v3 : List Int) (v4 v5 : Int) (v9 : List Int) (v10 v11 v16 : Int) : @Eq _ (vE R L v2 v3 v4 v5 v9 v10 v11 v16 ([1, 1, 0, 1, 0, 0, 1, 1, 0, 0, 1, 1, 0] ++ [0])) (cond (decide (v16 < 8))
 (cond (decide (v16 < 0))
 none
 (cond (eqI (xF .and .u8 (Int.fdiv v5 (2 ^ (Min.min v16.toNat (IntKind.bits .u8)))) 1) 1)
 (cond (zA (IntKind.wrap .i64 (Int.tdiv (IntKind.wrap .i64 ((IntKind.wrap .i64 (8 * v4)) + v16)) 26)))
 (cond (Nat.blt (IntKind.wrap .i64 (Int.tdiv (IntKind.wrap .i64 ((IntKind.wrap .i64 (8 * v4)) + v16)) 26)).toNat 5)
 (cond (decide ((Int.tmod (IntKind.wrap .i64 ((IntKind.wrap .i64 (8 * v4)) + v16)) 26) < 0))
 none
 (cond (zA (IntKind.wrap .i64 (Int.tdiv (IntKind.wrap .i64 ((IntKind.wrap .i64 (8 * v4)) + v16)) 26)))
 (cond (Nat.blt (IntKind.wrap .i64 (Int.tdiv (IntKind.wrap .i64 ((IntKind.wrap .i64 (8 * v4)) + v16)) 26)).toNat 5)
 (vE R L v2 (v3.set (IntKind.wrap .i64 (Int.tdiv (IntKind.wrap .i64 ((IntKind.wrap .i64 (8 * v4)) + v16)) 26)).toNat (xF .or .u64 (v3.getD (IntKind.wrap .i64 (Int.tdiv (IntKind.wrap .i64 ((IntKind.wrap .i64 (8 * v4)) + v16)) 26)).toNat 0) (IntKind.wrap .u64 (1 * (2 ^ (Min.min (Int.tmod (IntKind.wrap .i64 ((IntKind.wrap .i64 (8 * v4)) + v16)) 26).toNat (IntKind.bits .u64))))))) v4 v5 v9 v10 v11 (IntKind.wrap .i64 (v16 + 1)))
 none)
 none))
 none)
 none)
 (vE R L v2 v3 v4 v5 v9 v10 v11 (IntKind.wrap .i64 (v16 + 1)))))
 (wN R L v2 v3 v9 v10 (IntKind.wrap .i64 (v11 + 1)))) := by kernel_rfl
theorem AT0 (x0 : List Int) : @Eq _ (xZ (zE EE R L) x0) (uM R L x0 (List.replicate 5 0) 0) := by kernel_rfl
theorem AL4 (v1 v2 : List Int) (v5 : Int) : @Eq _ (uM R L v1 v2 v5 ([1, 0, 1, 0] ++ [0])) (cond (decide (v5 < 3))
 (xI R L v1 v2 0 v5 0)
 (some (v1, ()))) := by kernel_rfl
theorem fG (v1 v2 : List Int) (v3 v5 v7 : Int) : @Eq _ (xI R L v1 v2 v3 v5 v7 ([1, 0, 1, 0, 0, 1, 1, 0, 0, 1, 0, 1, 0] ++ [0])) (cond (decide (v7 < 5))
 (cond (zA v7)
 (cond (Nat.blt v7.toNat 5)
 (cond (zA v7)
 (cond (Nat.blt v7.toNat 5)
 (cond (zA v7)
 (cond (Nat.blt v7.toNat 5)
 (cond (zA v7)
 (cond (Nat.blt v7.toNat 5)
 (cond (zA v7)
 (cond (Nat.blt v7.toNat 5)
 (xI R L ((v1.set v7.toNat (IntKind.wrap .u64 ((v1.getD v7.toNat 0) + v3))).set v7.toNat (xF .and .u64 ((v1.set v7.toNat (IntKind.wrap .u64 ((v1.getD v7.toNat 0) + v3))).getD v7.toNat 0) 67108863)) v2 (Int.fdiv ((v1.set v7.toNat (IntKind.wrap .u64 ((v1.getD v7.toNat 0) + v3))).getD v7.toNat 0) (2 ^ (Min.min (26 : Int).toNat (IntKind.bits .u64)))) v5 (IntKind.wrap .i64 (v7 + 1)))
 none)
 none)
 none)
 none)
 none)
 none)
 none)
 none)
 none)
 none)
 (uM R L (v1.set (0 : Int).toNat (IntKind.wrap .u64 ((v1.getD (0 : Int).toNat 0) + (IntKind.wrap .u64 (5 * v3))))) v2 (IntKind.wrap .i64 (v5 + 1)))) := by kernel_rfl
theorem Al1 (x0 x1 : List Int) : @Eq _ (iD (zE EE R L) x0 x1) (vO R L x0 x1 (List.replicate 5 0) 0) := by kernel_rfl
theorem aO (v2 v3 v4 : List Int) (v6 : Int) : @Eq _ (vO R L v2 v3 v4 v6 ([1, 0, 1, 0] ++ [0])) (cond (decide (v6 < 5))
 (cond (zA v6)
 (cond (Nat.blt v6.toNat 5)
 (cond (zA v6)
 (cond (Nat.blt v6.toNat 5)
 (cond (zA v6)
 (cond (Nat.blt v6.toNat 5)
 (vO R L (v2.set v6.toNat (IntKind.wrap .u64 ((v2.getD v6.toNat 0) + (v3.getD v6.toNat 0)))) v3 v4 (IntKind.wrap .i64 (v6 + 1)))
 none)
 none)
 none)
 none)
 none)
 none)
 ((xZ R v2).bind fun r0 =>
 some (r0.1, ()))) := by kernel_rfl
theorem Af8 (x0 x1 : List Int) : @Eq _ (kD (zE EE R L) x0 x1) (xN R L x1 (List.replicate 5 0) (List.replicate 5 0) x0 0) := by kernel_rfl
theorem dY (v3 v4 v5 v10 : List Int) (v11 : Int) : @Eq _ (xN R L v3 v4 v5 v10 v11 ([1, 1, 0, 1, 0] ++ [0])) (cond (decide (v11 < 5))
 (cond (zA v11)
 (cond (Nat.blt v11.toNat 5)
 (xQ R L v3 v4 v5 v11 (v10.getD v11.toNat 0) v10 v11 v3 0)
 none)
 none)
 ((xZ R v5).bind fun r0 =>
 some (r0.1, ()))) := by kernel_rfl
theorem cG (v3 v4 v5 : List Int) (v6 v7 : Int) (v10 : List Int) (v11 : Int) (v15 : List Int) (v16 : Int) : @Eq _ (xQ R L v3 v4 v5 v6 v7 v10 v11 v15 v16 ([1, 1, 0, 1, 0, 0, 1, 1, 0, 0, 1, 1, 0] ++ [0])) (cond (decide (v16 < 5))
 (cond (zA v16)
 (cond (Nat.blt v16.toNat 5)
 (cond (decide ((IntKind.wrap .i64 (v6 + v16)) < 5))
 (cond (zA (IntKind.wrap .i64 (v6 + v16)))
 (cond (Nat.blt (IntKind.wrap .i64 (v6 + v16)).toNat 5)
 (cond (zA (IntKind.wrap .i64 (v6 + v16)))
 (cond (Nat.blt (IntKind.wrap .i64 (v6 + v16)).toNat 5)
 (xQ R L v3 v4 (v5.set (IntKind.wrap .i64 (v6 + v16)).toNat (IntKind.wrap .u64 ((v5.getD (IntKind.wrap .i64 (v6 + v16)).toNat 0) + (IntKind.wrap .u64 (v7 * (v15.getD v16.toNat 0)))))) v6 v7 v10 v11 v15 (IntKind.wrap .i64 (v16 + 1)))
 none)
 none)
 none)
 none)
 (cond (zA (IntKind.wrap .i64 ((IntKind.wrap .i64 (v6 + v16)) - 5)))
 (cond (Nat.blt (IntKind.wrap .i64 ((IntKind.wrap .i64 (v6 + v16)) - 5)).toNat 5)
 (cond (zA (IntKind.wrap .i64 ((IntKind.wrap .i64 (v6 + v16)) - 5)))
 (cond (Nat.blt (IntKind.wrap .i64 ((IntKind.wrap .i64 (v6 + v16)) - 5)).toNat 5)
 (xQ R L v3 v4 (v5.set (IntKind.wrap .i64 ((IntKind.wrap .i64 (v6 + v16)) - 5)).toNat (IntKind.wrap .u64 ((v5.getD (IntKind.wrap .i64 ((IntKind.wrap .i64 (v6 + v16)) - 5)).toNat 0) + (IntKind.wrap .u64 ((IntKind.wrap .u64 (5 * v7)) * (v15.getD v16.toNat 0)))))) v6 v7 v10 v11 v15 (IntKind.wrap .i64 (v16 + 1)))
 none)
 none)
 none)
 none))
 none)
 none)
 (xN R L v3 v4 v5 v10 (IntKind.wrap .i64 (v11 + 1)))) := by kernel_rfl
theorem AW1 (x0 : List Int) : @Eq _ (nL (zE EE R L) x0) ((xZ R x0).bind fun r0 =>
 xJ R L r0.1 (List.replicate 5 0) [67108859, 67108863, 67108863, 67108863, 67108863] 4) := by kernel_rfl
theorem fS (v1 v2 v3 : List Int) (v4 : Int) : @Eq _ (xJ R L v1 v2 v3 v4 ([1, 1, 1, 0, 1, 0] ++ [0])) (cond (decide (0 ≤ v4))
 (cond (zA v4)
 (cond (Nat.blt v4.toNat 5)
 (cond (zA v4)
 (cond (Nat.blt v4.toNat 5)
 (cond (!(eqI (v1.getD v4.toNat 0) (v3.getD v4.toNat 0)))
 (cond (zA v4)
 (cond (Nat.blt v4.toNat 5)
 (cond (zA v4)
 (cond (Nat.blt v4.toNat 5)
 (cond (decide ((v1.getD v4.toNat 0) < (v3.getD v4.toNat 0)))
 (some (v1, ()))
 (zU R L v1 v2 v3 0))
 none)
 none)
 none)
 none)
 (xJ R L v1 v2 v3 (IntKind.wrap .i64 (v4 - 1))))
 none)
 none)
 none)
 none)
 (zU R L v1 v2 v3 0)) := by kernel_rfl
theorem fF (v1 v2 v3 : List Int) (v28 : Int) : @Eq _ (zU R L v1 v2 v3 v28 ([1, 1, 1, 1, 0, 1, 0] ++ [0])) (cond (decide (v28 < 5))
 (cond (zA v28)
 (cond (Nat.blt v28.toNat 5)
 (cond (zA v28)
 (cond (Nat.blt v28.toNat 5)
 (cond (zA v28)
 (cond (Nat.blt v28.toNat 5)
 (zU R L (v1.set v28.toNat (IntKind.wrap .u64 ((v1.getD v28.toNat 0) - (v3.getD v28.toNat 0)))) v2 v3 (IntKind.wrap .i64 (v28 + 1)))
 none)
 none)
 none)
 none)
 none)
 none)
 (some (v1, ()))) := by kernel_rfl
theorem Ah6 (x0 : List Int) (x1 : List UInt8) : @Eq _ (lL (zE EE R L) x0 x1) (yZ R L x1 x0 (List.replicate (16 : Int).toNat 0) 0 ((List.replicate (16 : Int).toNat (0 : Int)).length : Int) 0) := by kernel_rfl
theorem cC (v1 : List UInt8) (v2 v5 : List Int) (v6 v13 v14 : Int) : @Eq _ (yZ R L v1 v2 v5 v6 v13 v14 ([1, 1, 1, 0, 1, 0] ++ [0])) (cond (decide (v14 < v13))
 (xP R L v1 v2 v5 v6 v14 0 v13 v14 0)
 (some (List.map (fun (n : Int) => UInt8.ofNat n.toNat) v5, ()))) := by kernel_rfl
theorem cH (v1 : List UInt8) (v2 v5 : List Int) (v6 v7 v8 v13 v14 v17 : Int) : @Eq _ (xP R L v1 v2 v5 v6 v7 v8 v13 v14 v17 ([1, 1, 1, 0, 1, 0, 0, 1, 1, 0, 0, 1, 1, 0, 1, 0] ++ [0])) (cond (decide (v17 < 8))
 (cond (zA (IntKind.wrap .i64 (Int.tdiv (IntKind.wrap .i64 ((IntKind.wrap .i64 (8 * v7)) + v17)) 26)))
 (cond (Nat.blt (IntKind.wrap .i64 (Int.tdiv (IntKind.wrap .i64 ((IntKind.wrap .i64 (8 * v7)) + v17)) 26)).toNat 5)
 (cond (decide ((Int.tmod (IntKind.wrap .i64 ((IntKind.wrap .i64 (8 * v7)) + v17)) 26) < 0))
 none
 (cond (decide (v17 < 0))
 none
 (xP R L v1 v2 v5 v6 v7 (xF .or .i64 v8 (IntKind.wrap .i64 ((IntKind.wrap .i64 (xF .and .u64 (Int.fdiv (v2.getD (IntKind.wrap .i64 (Int.tdiv (IntKind.wrap .i64 ((IntKind.wrap .i64 (8 * v7)) + v17)) 26)).toNat 0) (2 ^ (Min.min (Int.tmod (IntKind.wrap .i64 ((IntKind.wrap .i64 (8 * v7)) + v17)) 26).toNat (IntKind.bits .u64)))) 1)) * (2 ^ (Min.min v17.toNat (IntKind.bits .i64)))))) v13 v14 (IntKind.wrap .i64 (v17 + 1)))))
 none)
 none)
 (cond (zA v7)
 (cond (Nat.blt v7.toNat v1.length)
 (cond (zA v7)
 (cond (Nat.blt v7.toNat v5.length)
 (yZ R L v1 v2 (v5.set v7.toNat (IntKind.wrap .u8 (IntKind.wrap .i64 (v6 + (IntKind.wrap .i64 (v8 + (IntKind.wrap .i64 (UInt8.toNat (v1.getD v7.toNat 0) : Int)))))))) (Int.fdiv (IntKind.wrap .i64 (v6 + (IntKind.wrap .i64 (v8 + (IntKind.wrap .i64 (UInt8.toNat (v1.getD v7.toNat 0) : Int)))))) (2 ^ (Min.min (8 : Int).toNat (IntKind.bits .i64)))) v13 (IntKind.wrap .i64 (v14 + 1)))
 none)
 none)
 none)
 none)) := by kernel_rfl
theorem BQ4 (x0 x1 : List UInt8) : @Eq _ (Ag6 (zE EE R L) x0 x1) ((bZ R x0).bind fun r0 =>
 (jV R r0.1).bind fun r1 =>
 jC R L x0 x1 (List.replicate 5 0) r1.1 0) := by kernel_rfl
theorem A1H (v0 v1 : List UInt8) (v5 v6 : List Int) (v7 : Int) : @Eq _ (jC R L v0 v1 v5 v6 v7 ([1, 1, 1, 0, 1, 0] ++ [0])) (cond (decide (v7 < (v1.length : Int)))
 (cond (zA (Av8 (IntKind.wrap .i64 (v7 + 16)) (v1.length : Int)))
 (cond (zA v7)
 (cond (Nat.ble (Av8 (IntKind.wrap .i64 (v7 + 16)) (v1.length : Int)).toNat v1.length)
 (cond (Nat.ble v7.toNat (Av8 (IntKind.wrap .i64 (v7 + 16)) (v1.length : Int)).toNat)
 (cond (yB ((List.drop v7.toNat (List.take (Av8 (IntKind.wrap .i64 (v7 + 16)) (v1.length : Int)).toNat v1)).length + ([(1 : UInt8)]).length))
 ((jV R ((List.drop v7.toNat (List.take (Av8 (IntKind.wrap .i64 (v7 + 16)) (v1.length : Int)).toNat v1)) ++ [1])).bind fun r0 =>
 (iD R v5 r0.1).bind fun r1 =>
 (kD R r1.1 v6).bind fun r2 =>
 jC R L v0 v1 r2.1 v6 (IntKind.wrap .i64 (v7 + 16)))
 none)
 none)
 none)
 none)
 none)
 ((nL R v5).bind fun r0 =>
 cond (Nat.ble v0.length v0.length)
 (cond (Nat.ble (16 : Int).toNat v0.length)
 ((lL R r0.1 (List.drop (16 : Int).toNat (List.take v0.length v0))).bind fun r1 =>
 some (r1.1, ()))
 none)
 none)) := by kernel_rfl
theorem A5J (x0 x1 x2 x3 : List UInt8) : @Eq _ (cA (zE EE R L) x0 x1 x2 x3) ((cL R x0 x1 0).bind fun r0 =>
 cond (Nat.ble (32 : Int).toNat r0.1.length)
 ((cF R x2).bind fun r1 =>
 (cF R x3).bind fun r2 =>
 cond (yB (r1.1.length + r2.1.length))
 ((wY R (x2.length : Int) 8).bind fun r3 =>
 cond (yB ((r1.1 ++ r2.1).length + r3.1.length))
 ((wY R (x3.length : Int) 8).bind fun r4 =>
 cond (yB (((r1.1 ++ r2.1) ++ r3.1).length + r4.1.length))
 ((Ag6 R (List.drop 0 (List.take (32 : Int).toNat r0.1)) (((r1.1 ++ r2.1) ++ r3.1) ++ r4.1)).bind fun r5 =>
 some (r5.1, ()))
 none)
 none)
 none)
 none) := by kernel_rfl
theorem BA6 (x0 x1 x2 x3 : List UInt8) : @Eq _ (AO7 (zE EE R L) x0 x1 x2 x3) ((cM R x0 x1 1 x3).bind fun r0 =>
 (cA R x0 x1 x2 r0.1).bind fun r1 =>
 cond (yB (r0.1.length + r1.1.length))
 (some (r0.1 ++ r1.1, ()))
 none) := by kernel_rfl
theorem A6c (x0 : List UInt8) (x1 x2 x3 : Int) (x4 : List UInt8) : @Eq _ (jR (zE EE R L) x0 x1 x2 x3 x4) ((fK R x1 x2 x3).bind fun r0 =>
 (AO7 R x0 r0.1 [98, 108, 111, 99, 107] x4).bind fun r1 =>
 some (r1.1, ())) := by kernel_rfl
theorem jE (x0 : List (List UInt8)) : @Eq _ (wQ (zE EE R L) x0) (cond (Nat.beq x0.length 0)
 (Av5
 (some ([], ()))
 (cond (yB (([] : List (List UInt8)).length + x0.length))
 (some ([] ++ x0, ()))
 none))
 (cond (yB (([] : List (List UInt8)).length + x0.length))
 (some ([] ++ x0, ()))
 none)) := by kernel_rfl
theorem fU (x0 : List d79) : @Eq _ (uL (zE EE R L) x0) (cond (Nat.beq x0.length 0)
 (Av5
 (some ([], ()))
 (cond (yB (([] : List d79).length + x0.length))
 (some ([] ++ x0, ()))
 none))
 (cond (yB (([] : List d79).length + x0.length))
 (some ([] ++ x0, ()))
 none)) := by kernel_rfl
theorem Al6 (x0 : d80) : @Eq _ (iG (zE EE R L) x0) ((wQ R x0.1).bind fun r0 =>
 (uL R x0.2.1).bind fun r1 =>
 some ((r0.1, (r1.1, ())), ())) := by kernel_rfl
theorem Av1 (x0 : d81) : @Eq _ (uJ (zE EE R L) x0) ((iG R x0.2.2.1).bind fun r0 =>
 some ((x0.1, (x0.2.1, (r0.1, x0.2.2.2))), ())) := by kernel_rfl
theorem A5Y (x0 : List Int) : @Eq _ (AF6 (zE EE R L) x0) (cond (yB (([] : List Int).length + x0.length))
 (some (([] ++ x0, ([], (List.replicate (15 : Int).toNat [], ()))), ()))
 none) := by kernel_rfl
theorem A3R (x0 : List Int) : @Eq _ (bF (zE EE R L) x0) (cond (decide (4096 < (x0.length : Int)))
 (some (([], ([], ([], ()))), (2, ())))
 (cond (!(eqI (x0.length : Int) 12))
 (some (([], ([], ([], ()))), (8, ())))
 ((lU R x0).bind fun r0 =>
 cond (!r0.1)
 (some (([], ([], ([], ()))), (4, ())))
 ((AF6 R x0).bind fun r1 =>
 some (r1.1, (0, ())))))) := by kernel_rfl
theorem A5Q (x0 : List Int) : @Eq _ (AE2 (zE EE R L) x0) (cond (decide (4096 < (x0.length : Int)))
 (some (([], (([], ([], ([], ()))), ())), (2, ())))
 ((bF R x0).bind fun r0 =>
 cond (!(eqI r0.2.1 0))
 (some (([], (([], ([], ([], ()))), ())), (r0.2.1, ())))
 (some ((List.replicate (11 : Int).toNat 0, (r0.1, ())), (0, ()))))) := by kernel_rfl
theorem A3s (x0 : List UInt8) (x1 x2 : Int) (x3 : d74) (x4 : List d75) : @Eq _ (fO (zE EE R L) x0 x1 x2 x3 x4) ((dE R x3 x4).bind fun r0 =>
 (mR R x0 1 (IntKind.wrap .i64 (16 * x1)) x2 r0.1).bind fun r1 =>
 pC R L x0 x1 x2 x3 [r1.1] 0) := by kernel_rfl
theorem AP0 (v0 : List UInt8) (v1 v2 : Int) (v8 : d74) (v11 : List (List UInt8)) (v12 : Int) : @Eq _ (pC R L v0 v1 v2 v8 v11 v12 ([1, 1, 0, 1, 0] ++ [0])) (cond (decide (v12 < 15))
 (cond (zA v12)
 (cond (Nat.blt v12.toNat v8.2.1.2.2.1.length)
 ((lN R (v8.2.1.2.2.1.getD v12.toNat [])).bind fun r0 =>
 (mR R v0 2 (IntKind.wrap .i64 ((IntKind.wrap .i64 ((IntKind.wrap .i64 (16 * v1)) + 1)) + v12)) v2 r0.1).bind fun r1 =>
 cond (yB (v11.length + ([r1.1]).length))
 (pC R L v0 v1 v2 v8 (v11 ++ [r1.1]) (IntKind.wrap .i64 (v12 + 1)))
 none)
 none)
 none)
 (some (v11, ()))) := by kernel_rfl
theorem A3z (x0 : Int) (x1 : List UInt8) : @Eq _ (bO (zE EE R L) x0 x1) (cond (yB ((List.map (fun (n : Int) => UInt8.ofNat n.toNat) [(0 : Int), IntKind.wrap .u8 x0]).length + x1.length))
 ((eC R ((List.map (fun (n : Int) => UInt8.ofNat n.toNat) [(0 : Int), IntKind.wrap .u8 x0]) ++ x1)).bind fun r0 =>
 some (r0.1, ()))
 none) := by kernel_rfl
theorem Au7 (x0 : List (List UInt8)) : @Eq _ (gJ (zE EE R L) x0) (rA R L x0 [] 0) := by kernel_rfl
theorem AC8 (v0 v3 : List (List UInt8)) (v4 : Int) : @Eq _ (rA R L v0 v3 v4 ([1, 1, 0, 1, 0] ++ [0])) (cond (decide (v4 < (v0.length : Int)))
 (cond (zA v4)
 (cond (Nat.blt v4.toNat v0.length)
 ((bO R v4 (v0.getD v4.toNat [])).bind fun r0 =>
 cond (yB (v3.length + ([r0.1]).length))
 (rA R L v0 (v3 ++ [r0.1]) (IntKind.wrap .i64 (v4 + 1)))
 none)
 none)
 none)
 (some (v3, ()))) := by kernel_rfl
theorem A32 (x0 x1 : List UInt8) : @Eq _ (cU (zE EE R L) x0 x1) (cond (yB (([(1 : UInt8)]).length + x0.length))
 (cond (yB (([(1 : UInt8)] ++ x0).length + x1.length))
 ((eC R (([1] ++ x0) ++ x1)).bind fun r0 =>
 some (r0.1, ()))
 none)
 none) := by kernel_rfl
theorem A0l (x0 : List (List UInt8)) : @Eq _ (eY (zE EE R L) x0) (qC R L x0 [] 0) := by kernel_rfl
theorem AI5 (v0 v3 : List (List UInt8)) (v4 : Int) : @Eq _ (qC R L v0 v3 v4 ([1, 1, 0, 1, 0] ++ [0])) (cond (decide ((IntKind.wrap .i64 (v4 + 1)) < (v0.length : Int)))
 (cond (zA v4)
 (cond (Nat.blt v4.toNat v0.length)
 (cond (zA (IntKind.wrap .i64 (v4 + 1)))
 (cond (Nat.blt (IntKind.wrap .i64 (v4 + 1)).toNat v0.length)
 ((cU R (v0.getD v4.toNat []) (v0.getD (IntKind.wrap .i64 (v4 + 1)).toNat [])).bind fun r0 =>
 cond (yB (v3.length + ([r0.1]).length))
 (qC R L v0 (v3 ++ [r0.1]) (IntKind.wrap .i64 (v4 + 2)))
 none)
 none)
 none)
 none)
 none)
 (some (v3, ()))) := by kernel_rfl
theorem A2Y (x0 : List (List UInt8)) : @Eq _ (aJ (zE EE R L) x0) ((gJ R x0).bind fun r0 =>
 rO R L r0.1) := by kernel_rfl
theorem AN8 (v3 : List (List UInt8)) : @Eq _ (rO R L v3 ([1, 1, 0, 0] ++ [0])) (cond (decide (1 < (v3.length : Int)))
 ((eY R v3).bind fun r0 =>
 rO R L r0.1)
 (cond (Nat.blt (0 : Int).toNat v3.length)
 (some (v3.getD (0 : Int).toNat [], ()))
 none)) := by kernel_rfl
theorem Av9 : @Eq _ (aM (zE EE R L)) (some ((List.replicate (40 : Int).toNat [], ([], ())), ())) := by kernel_rfl
theorem A6C (x0 : d80) (x1 : Int) (x2 : List (List UInt8)) : @Eq _ (dW (zE EE R L) x0 x1 x2) (aD R L x1 x2 x0 ([], ([], ())) 0) := by kernel_rfl
theorem A0s (v1 : Int) (v2 : List (List UInt8)) (v3 v6 : d80) (v7 : Int) : @Eq _ (aD R L v1 v2 v3 v6 v7 ([1, 0, 1, 0] ++ [0])) (cond (decide (v7 < (v2.length : Int)))
 (cond (zA v7)
 (cond (Nat.blt v7.toNat v2.length)
 ((lG R v3 (IntKind.wrap .i64 ((IntKind.wrap .i64 (16 * v1)) + v7)) (v2.getD v7.toNat [])).bind fun r0 =>
 gP R L v1 v2 r0.1 v6 (IntKind.wrap .i64 (v7 + 1)))
 none)
 none)
 (some (v3, ()))) := by kernel_rfl
theorem A1o (v1 : Int) (v2 : List (List UInt8)) (v3 v6 : d80) (v7 : Int) : @Eq _ (gP R L v1 v2 v3 v6 v7 ([1, 0, 1, 0] ++ [0])) (cond (decide (v7 < (v2.length : Int)))
 (cond (zA v7)
 (cond (Nat.blt v7.toNat v2.length)
 ((lG R v3 (IntKind.wrap .i64 ((IntKind.wrap .i64 (16 * v1)) + v7)) (v2.getD v7.toNat [])).bind fun r0 =>
 gP R L v1 v2 r0.1 v6 (IntKind.wrap .i64 (v7 + 1)))
 none)
 none)
 (some (v3, ()))) := by kernel_rfl
theorem A3G (x0 : List UInt8) (x1 : List Int) : @Eq _ (cT (zE EE R L) x0 x1) ((AE2 R x1).bind fun r0 =>
 (fO R x0 0 0 r0.1 []).bind fun r1 =>
 (eC R [98, 101, 103, 105, 110]).bind fun r2 =>
 (aJ R r1.1).bind fun r3 =>
 (aM R).bind fun r4 =>
 (dW R r4.1 0 r1.1).bind fun r5 =>
 (cW R r5.1).bind fun r6 =>
 some ((x0, ((0, (0, (0, (0, (r2.1, (r2.1, (r3.1, ()))))))), (r6.1, (true, (false, ()))))), ())) := by kernel_rfl
theorem Al4 (x0 : List UInt8) : @Eq _ (dO (zE EE R L) x0) (some (decide ((x0.length : Int) ≤ 65536), ())) := by kernel_rfl
theorem A0q (x0 : List (List UInt8)) : @Eq _ (eK (zE EE R L) x0) ((tN R x0 (FnVal.mk (45 : Nat) FCaps.nil)).bind fun r0 =>
 some (r0.1, ())) := by kernel_rfl
theorem A07 (x0 : List Int) : @Eq _ (dC (zE EE R L) x0) (cond (decide (4096 < (x0.length : Int)))
 (some (2, ()))
 (cond (!(eqI (x0.length : Int) 12))
 (some (8, ()))
 ((wI R x0 (FnVal.mk (117 : Nat) FCaps.nil)).bind fun r0 =>
 cond (!r0.1)
 (some (4, ()))
 (some (0, ()))))) := by kernel_rfl
theorem A2Z (x0 : List Int) : @Eq _ (bH (zE EE R L) x0) ((dC R x0).bind fun r0 =>
 cond (!(eqI r0.1 0))
 (some (([], ([], ([], ()))), (r0.1, ())))
 ((vB R x0).bind fun r1 =>
 some ((r1.1, ([], (List.replicate (15 : Int).toNat [], ()))), (0, ())))) := by kernel_rfl
theorem A5r (x0 : List Int) : @Eq _ (dX (zE EE R L) x0) ((bH R x0).bind fun r0 =>
 cond (!(eqI r0.2.1 0))
 (some (([], (([], ([], ([], ()))), ())), (r0.2.1, ())))
 (some ((List.replicate (11 : Int).toNat 0, (r0.1, ())), (0, ())))) := by kernel_rfl
theorem Av7 : @Eq _ (bG (zE EE R L)) (some ((List.replicate (40 : Int).toNat [], ([], ())), ())) := by kernel_rfl
theorem Ai0 (x0 : List UInt8) (x1 : Int) (x2 : d74) (x3 : List d75) (x4 : Int) : @Eq _ (qB (zE EE R L) x0 x1 x2 x3 x4) ((gO R x2 x3).bind fun r0 =>
 (jR R x0 1 (IntKind.wrap .i64 (16 * x1)) x4 r0.1).bind fun r1 =>
 tT R L x0 x4 (IntKind.wrap .i64 (16 * x1)) [r1.1] x2.2.1.2.2.1 (x2.2.1.2.2.1.length : Int) 0) := by kernel_rfl
theorem cJ (v0 : List UInt8) (v4 v11 : Int) (v12 : List (List UInt8)) (v27 : List (List d72)) (v28 v29 : Int) : @Eq _ (tT R L v0 v4 v11 v12 v27 v28 v29 ([1, 1, 1, 0, 1, 0] ++ [0])) (cond (decide (v29 < v28))
 (cond (zA v29)
 (cond (Nat.blt v29.toNat v27.length)
 ((mC R (v27.getD v29.toNat [])).bind fun r0 =>
 (jR R v0 2 (IntKind.wrap .i64 ((IntKind.wrap .i64 (v11 + 1)) + v29)) v4 r0.1).bind fun r1 =>
 cond (yB (v12.length + ([r1.1]).length))
 (tT R L v0 v4 v11 (v12 ++ [r1.1]) v27 v28 (IntKind.wrap .i64 (v29 + 1)))
 none)
 none)
 none)
 (some (v12, ()))) := by kernel_rfl
theorem A04 : @Eq _ (iS (zE EE R L)) ((jF R [98, 101, 103, 105, 110]).bind fun r0 =>
 some (r0.1, ())) := by kernel_rfl
theorem Am1 (x0 : Int) (x1 : List UInt8) : @Eq _ (jX (zE EE R L) x0 x1) (cond (yB ((List.map (fun (n : Int) => UInt8.ofNat n.toNat) [(0 : Int), IntKind.wrap .u8 x0]).length + x1.length))
 ((jF R ((List.map (fun (n : Int) => UInt8.ofNat n.toNat) [(0 : Int), IntKind.wrap .u8 x0]) ++ x1)).bind fun r0 =>
 some (r0.1, ()))
 none) := by kernel_rfl
theorem BC6 (x0 x1 : List UInt8) : @Eq _ (Ad0 (zE EE R L) x0 x1) (cond (yB (([(1 : UInt8)]).length + x0.length))
 (cond (yB (([(1 : UInt8)] ++ x0).length + x1.length))
 ((jF R (([1] ++ x0) ++ x1)).bind fun r0 =>
 some (r0.1, ()))
 none)
 none) := by kernel_rfl
theorem BD6 (x0 : List (List UInt8)) : @Eq _ (Ab9 (zE EE R L) x0) (mU R L [] x0 (x0.length : Int) 0) := by kernel_rfl
theorem As7 (v3 v9 : List (List UInt8)) (v10 v11 : Int) : @Eq _ (mU R L v3 v9 v10 v11 ([1, 1, 0, 1, 0] ++ [0])) (cond (decide (v11 < v10))
 (cond (zA v11)
 (cond (Nat.blt v11.toNat v9.length)
 ((jX R v11 (v9.getD v11.toNat [])).bind fun r0 =>
 cond (yB (v3.length + ([r0.1]).length))
 (mU R L (v3 ++ [r0.1]) v9 v10 (IntKind.wrap .i64 (v11 + 1)))
 none)
 none)
 none)
 (rL R L v3 [v3])) := by kernel_rfl
theorem An8 (v3 : List (List UInt8)) (v6 : List (List (List UInt8))) : @Eq _ (rL R L v3 v6 ([1, 1, 1, 1, 0, 0] ++ [0])) (cond (decide (1 < (v3.length : Int)))
 (jM R L v3 v6 [] 0)
 (some (v6, ()))) := by kernel_rfl
theorem Ao5 (v3 : List (List UInt8)) (v6 : List (List (List UInt8))) (v7 : List (List UInt8)) (v8 : Int) : @Eq _ (jM R L v3 v6 v7 v8 ([1, 1, 1, 1, 0, 0, 0, 1, 0, 1, 0, 1, 0] ++ [0])) (cond (decide (v8 < (v3.length : Int)))
 (cond (zA v8)
 (cond (Nat.blt v8.toNat v3.length)
 (cond (zA (IntKind.wrap .i64 (v8 + 1)))
 (cond (Nat.blt (IntKind.wrap .i64 (v8 + 1)).toNat v3.length)
 ((Ad0 R (v3.getD v8.toNat []) (v3.getD (IntKind.wrap .i64 (v8 + 1)).toNat [])).bind fun r0 =>
 cond (yB (v7.length + ([r0.1]).length))
 (jM R L v3 v6 (v7 ++ [r0.1]) (IntKind.wrap .i64 (v8 + 2)))
 none)
 none)
 none)
 none)
 none)
 (cond (yB (v6.length + ([v7]).length))
 (rL R L v7 (v6 ++ [v7]))
 none)) := by kernel_rfl
theorem A9j (x0 : List (List UInt8)) : @Eq _ (AG8 (zE EE R L) x0) ((Ab9 R x0).bind fun r0 =>
 cond (Nat.blt (4 : Int).toNat r0.1.length)
 (cond (Nat.blt (0 : Int).toNat (r0.1.getD (4 : Int).toNat []).length)
 (some ((r0.1.getD (4 : Int).toNat []).getD (0 : Int).toNat [], ()))
 none)
 none) := by kernel_rfl
theorem A9s (x0 : List UInt8) (x1 : List Int) : @Eq _ (Ac3 (zE EE R L) x0 x1) ((eK R [x0]).bind fun r0 =>
 cond (!r0.1)
 (some (([], ((0, (0, (0, (0, ([], ([], ([], ()))))))), (([], ([], ())), (false, (false, ()))))), (2, ())))
 (cond (decide (4096 < (x1.length : Int)))
 (some (([], ((0, (0, (0, (0, ([], ([], ([], ()))))))), (([], ([], ())), (false, (false, ()))))), (2, ())))
 (cond (!(eqI (x0.length : Int) 32))
 (some (([], ((0, (0, (0, (0, ([], ([], ([], ()))))))), (([], ([], ())), (false, (false, ()))))), (8, ())))
 ((dX R x1).bind fun r1 =>
 cond (!(eqI r1.2.1 0))
 (some (([], ((0, (0, (0, (0, ([], ([], ([], ()))))))), (([], ([], ())), (false, (false, ()))))), (r1.2.1, ())))
 ((bG R).bind fun r2 =>
 (qB R x0 0 r1.1 [] 0).bind fun r3 =>
 cond (Nat.ble r3.1.length r2.1.1.length)
 ((iS R).bind fun r4 =>
 (iS R).bind fun r5 =>
 (AG8 R r3.1).bind fun r6 =>
 some ((x0, ((0, (0, (0, (0, (r4.1, (r5.1, (r6.1, ()))))))), ((r3.1 ++ (List.drop r3.1.length r2.1.1), r2.1.2), (true, (false, ()))))), (0, ())))
 none))))) := by kernel_rfl
theorem AV5 (x0 : d81) : @Eq _ (nN (zE EE R L) x0) (cond (zA (IntKind.wrap .i64 (16 * (IntKind.wrap .i64 (x0.2.1.2.1 + 1)))))
 (cond (zA (IntKind.wrap .i64 (16 * x0.2.1.2.1)))
 (cond (Nat.ble (IntKind.wrap .i64 (16 * (IntKind.wrap .i64 (x0.2.1.2.1 + 1)))).toNat x0.2.2.1.1.length)
 (cond (Nat.ble (IntKind.wrap .i64 (16 * x0.2.1.2.1)).toNat (IntKind.wrap .i64 (16 * (IntKind.wrap .i64 (x0.2.1.2.1 + 1)))).toNat)
 (some (List.drop (IntKind.wrap .i64 (16 * x0.2.1.2.1)).toNat (List.take (IntKind.wrap .i64 (16 * (IntKind.wrap .i64 (x0.2.1.2.1 + 1)))).toNat x0.2.2.1.1), ()))
 none)
 none)
 none)
 none) := by kernel_rfl
theorem A4c (x0 x1 x2 x3 : List UInt8) : @Eq _ (AG6 (zE EE R L) x0 x1 x2 x3) (cond (decide ((x3.length : Int) < 16))
 (some ([], (false, ())))
 (cond (zA (IntKind.wrap .i64 ((x3.length : Int) - 16)))
 (cond (Nat.ble (IntKind.wrap .i64 ((x3.length : Int) - 16)).toNat x3.length)
 (cond (zA (IntKind.wrap .i64 ((x3.length : Int) - 16)))
 (cond (Nat.ble x3.length x3.length)
 (cond (Nat.ble (IntKind.wrap .i64 ((x3.length : Int) - 16)).toNat x3.length)
 ((cA R x0 x1 x2 (List.drop 0 (List.take (IntKind.wrap .i64 ((x3.length : Int) - 16)).toNat x3))).bind fun r0 =>
 cond (!(eqS r0.1 (List.drop (IntKind.wrap .i64 ((x3.length : Int) - 16)).toNat (List.take x3.length x3))))
 (some ([], (false, ())))
 ((cM R x0 x1 1 (List.drop 0 (List.take (IntKind.wrap .i64 ((x3.length : Int) - 16)).toNat x3))).bind fun r1 =>
 some (r1.1, (true, ()))))
 none)
 none)
 none)
 none)
 none)) := by kernel_rfl
theorem A6O (x0 : List UInt8) (x1 x2 x3 : Int) (x4 : List UInt8) : @Eq _ (jA (zE EE R L) x0 x1 x2 x3 x4) ((fK R x1 x2 x3).bind fun r0 =>
 (AG6 R x0 r0.1 [98, 108, 111, 99, 107] x4).bind fun r1 =>
 some (r1.1, (r1.2.1, ()))) := by kernel_rfl
theorem A1u (x0 : List UInt8) : @Eq _ (eX (zE EE R L) x0) (qA R L x0 [] 0) := by kernel_rfl
theorem AH7 (v0 : List UInt8) (v3 : List Int) (v4 : Int) : @Eq _ (qA R L v0 v3 v4 ([1, 1, 0, 1, 0] ++ [0])) (cond (decide (v4 < (v0.length : Int)))
 (cond (zA v4)
 (cond (Nat.ble v0.length v0.length)
 (cond (Nat.ble v4.toNat v0.length)
 ((mI R (List.drop v4.toNat (List.take v0.length v0))).bind fun r0 =>
 cond (yB (v3.length + ([IntKind.wrap .i64 r0.1]).length))
 (qA R L v0 (v3 ++ [IntKind.wrap .i64 r0.1]) (IntKind.wrap .i64 (v4 + 4)))
 none)
 none)
 none)
 none)
 (some (v3, ()))) := by kernel_rfl
theorem AA2 (x0 : d75) (x1 : FnVal) : @Eq _ (pL (zE EE R L) x0 x1) ((vJ EE R x1 [⟨t8, (x0 : d75)⟩]).bind fun (r0 : Bool) =>
 some (!r0, ())) := by kernel_rfl
theorem oX (x0 : List d75) (x1 : FnVal) : @Eq _ (xA (zE EE R L) x0 x1) (xW R L x0 x1 0 (x0.length : Int) 0) := by kernel_rfl
theorem pJ (v0 : List d75) (v1 : FnVal) (v4 v7 v8 : Int) : @Eq _ (xW R L v0 v1 v4 v7 v8 ([1, 0, 1, 0] ++ [0])) (cond (decide (v8 < v7))
 (cond (zA v8)
 (cond (Nat.blt v8.toNat v0.length)
 ((vJ EE R v1 [⟨t8, (v0.getD v8.toNat (0, ([], ())) : d75)⟩]).bind fun (r0 : Bool) =>
 cond r0
 (some (v8, ()))
 (zD R L v0 v1 v4 v8 v7 (IntKind.wrap .i64 (v8 + 1))))
 none)
 none)
 (some (-1, ()))) := by kernel_rfl
theorem wB (v0 : List d75) (v1 : FnVal) (v4 v5 v7 v8 : Int) : @Eq _ (zD R L v0 v1 v4 v5 v7 v8 ([1, 0, 1, 0] ++ [0])) (cond (decide (v8 < v7))
 (cond (zA v8)
 (cond (Nat.blt v8.toNat v0.length)
 ((vJ EE R v1 [⟨t8, (v0.getD v8.toNat (0, ([], ())) : d75)⟩]).bind fun (r0 : Bool) =>
 cond r0
 (some (v8, ()))
 (zD R L v0 v1 v4 v8 v7 (IntKind.wrap .i64 (v8 + 1))))
 none)
 none)
 (some (-1, ()))) := by kernel_rfl
theorem qV (x0 : List d75) (x1 : FnVal) : @Eq _ (yQ (zE EE R L) x0 x1) ((xA R x0 x1).bind fun r0 =>
 some (decide (0 ≤ r0.1), ())) := by kernel_rfl
theorem AH5 (x0 : List d75) (x1 : FnVal) : @Eq _ (rQ (zE EE R L) x0 x1) ((yQ R x0 (FnVal.mk (188 : Nat) (FCaps.fn x1 FCaps.nil))).bind fun r0 =>
 some (!r0.1, ())) := by kernel_rfl
theorem A6B (x0 : Int) : @Eq _ (AE7 (zE EE R L) x0) ((tM R x0 0 19).bind fun r0 =>
 some (r0.1, ())) := by kernel_rfl
theorem A0p (x0 : d75) : @Eq _ (eL (zE EE R L) x0) ((AE7 R x0.1).bind fun r0 =>
 cond r0.1
 (cond (decide ((x0.2.1.length : Int) ≤ 32))
 ((wI R x0.2.1 (FnVal.mk (165 : Nat) FCaps.nil)).bind fun r1 =>
 cond r1.1
 (cond (eqI x0.1 0)
 (some (true, ()))
 (some (eqI (x0.2.1.length : Int) 0, ())))
 (some (false, ())))
 (some (false, ())))
 (some (false, ()))) := by kernel_rfl
theorem Am0 (x0 : List d75) : @Eq _ (iA (zE EE R L) x0) (cond (decide ((x0.length : Int) ≤ 2))
 ((rQ R x0 (FnVal.mk (150 : Nat) FCaps.nil)).bind fun r0 =>
 some (r0.1, ()))
 (some (false, ()))) := by kernel_rfl
theorem AZ9 (x0 : d81) : @Eq _ (tU (zE EE R L) x0) ((uJ R x0).bind fun r0 =>
 some ((r0.1.1, (r0.1.2.1, (r0.1.2.2.1, (false, (true, r0.1.2.2.2.2.2))))), ())) := by kernel_rfl
end Go.Rf.S

end
section
namespace Go.Rf.S
open Go.Proofs
set_option maxRecDepth 100000
instance Bl4 : Laid := ⟨[]⟩
def Bj9 : List Dyn → Option (Ty.pair .str .unit).D
 | [k, n, c, t] => (A7w k).bind fun k => (A7w n).bind fun n => (BD0 c).bind fun c => (A7w t).bind fun t => some (chX k n (t.length / 64 + 1) c.toNat t, ())
 | _ => none
def itx (x : Int) : List UInt8 := ub (lit x.toNat 4)
def Bg4 : List Dyn → Option (Ty.pair .str .unit).D
 | [l] => (BX0 (.int .i64) l).bind fun l => some (l.flatMap itx, ())
 | _ => none
def Bj7 : List Dyn → Option (Ty.pair .bool .unit).D
 | [e] => (mB e.t tE e.x).bind fun e => some (Ac0 e, ())
 | _ => none
abbrev tB : Ty := .pair (.int .i64) (.pair (.int .i64) (.pair (.int .i64) .unit))
def Bk7 : List Dyn → Option (Ty.pair (.sl tB) .unit).D
 | [l] => (BX0 (.sl tB) l).bind fun l => some ((List.flatten (l : List (List tB.D)) : List tB.D), ())
 | _ => none
def Bk8 : List Dyn → Option (Ty.pair (.sl (.int .i64)) .unit).D
 | [l] => (BX0 (.int .i64) l).bind fun l => some ((l.reverse : List Int), ())
 | _ => none
abbrev tEn : Ty := .pair (.int .i64) (.pair (.int .i64) .unit)
noncomputable def X : (f : FuncId) → Option (List Dyn → Option (EE.cfg f).rt.D)
 | 138 => some Bc4
 | 132 => some (okH EE 132 Bj9)
 | 135 => some (okH EE 135 Bg4)
 | 34 => some (okH EE 34 Bj7)
 | 163 => some (okH EE 163 Bk7)
 | 201 => some (okH EE 201 Bk8)
 | 75 => some (okH EE 75 (Bj8 tEn))
 | 65 => some (fun _ => none)
 | _ => none
noncomputable abbrev R : Run EE := run X
noncomputable abbrev L : lT := lps X
theorem A53 {f : FuncId} {h : List Dyn → Option (EE.cfg f).rt.D} (hX : X f = some h) (ds : List Dyn) : run X f ds = h ds := by
 rw [BF3]; unfold AL5; rw [hX]
theorem call {f : FuncId} {ds : List Dyn} {r : Option (EE.cfg f).rt.D} (h : zE EE R L f ds = r) (hX : X f = none := by rfl) : R f ds = r := (BW3 X hX ds).trans h
theorem round {f : FuncId} {fn : Func} {p : List Nat} {σ : List SV} {r : Option (EE.cfg f).rt.D} (h : (kO (A4K fn) p && !A6W (EE.cfg f).keep) = true) (q : yC EE R L f fn (p ++ [0]) σ = r) : yC EE R L f fn p σ = r := (A79 h).trans q
theorem Bi2 : ∀ f h, X f = some h → ∀ ds x, h ds = some x → BE7 EE f ds x := by
 intro f h hX ds x hx
 unfold X at hX
 split at hX
 ·cases hX
  obtain ⟨s, n, rfl, h1, h2, rfl⟩ := A71 hx
  exact A8g (E := EE) Tryz.laysRep Tryz.extra rfl Tryz.func138 (by kernel_rfl) (by kernel_rfl) s n h1 h2
 ·cases hX; exact Ap2 hx
 ·cases hX; exact Ap2 hx
 ·cases hX; exact Ap2 hx
 ·cases hX; exact Ap2 hx
 ·cases hX; exact Ap2 hx
 ·cases hX; exact Ap2 hx
 ·cases hX; cases hx
 ·cases hX
theorem mixed : EE.P.follows .mixedOrders = true := by kernel_rfl
theorem BM6 : AT9 EE.P := Ao0 (by kernel_rfl)
theorem A2m : Al0 EE R := BG0 X Bi2 mixed BM6
end Go.Rf.S

end
section
namespace Go.Rf.S
set_option maxRecDepth 100000
theorem Ak1 {k : IntKind} {a b : Nat} (h : a + b < tL k) : IntKind.wrap k ((a : Int) + (b : Int)) = ((a + b : Nat) : Int) := by
 rw [show (a : Int) + (b : Int) = ((a + b : Nat) : Int) from by omega, AR1 h]
theorem BE2 (a b : Nat) : IntKind.wrap .u32 ((a : Int) + (b : Int)) = (((a + b) % 4294967296 : Nat) : Int) := by
 rw [show (a : Int) + (b : Int) = ((a + b : Nat) : Int) from by omega, Aj5]
theorem m32 {a : Nat} (h : a < 9223372036854775808) : xF .and .i64 (a : Int) 4294967295 = ((a % 4294967296 : Nat) : Int) := by
 rw [show (4294967295 : Int) = ((4294967295 : Nat) : Int) from rfl, AN4 (k := .i64) h (by decide), BM2]
theorem A7M {a c : Nat} (h : c ≤ a) (ha : a < 9223372036854775808) : IntKind.wrap .i64 ((a : Int) - (c : Int)) = ((a - c : Nat) : Int) := by
 rw [zO (by omega) (by omega)]; omega
theorem A01 {k : IntKind} {a n : Nat} (h : a * 2 ^ n < tL k) : IntKind.wrap k ((a : Int) * (2 ^ n : Int)) = ((a * 2 ^ n : Nat) : Int) := by
 rw [A6P, AR1 h]
theorem Bg5 : ∀ n : Fin 32, 0 < n.val → xF .and .u64 (IntKind.wrap .u64 (BP0 .i64 (n.val : Int))) 31 = ((32 - n.val : Nat) : Int) := by decide +kernel
theorem BW1 (x n : Nat) (hx : x < 4294967296) (h0 : 0 < n) (hn : n < 32) : yT R (x : Int) (BP0 .i64 (n : Int)) = some (((rr n x : Nat) : Int), ()) := by
 have hq : yT R (x : Int) (BP0 .i64 (n : Int)) = _ := call (lA R L (x : Int) (BP0 .i64 (n : Int)))
 have e1 := Bg5 ⟨n, hn⟩ h0
 simp only at e1
 have e2 : IntKind.wrap .u64 ((32 : Int) - ((32 - n : Nat) : Int)) = (n : Int) := by
  rw [show (32 : Int) - ((32 - n : Nat) : Int) = (n : Int) by omega, AR1 (by simp only [tL]; omega)]
 rw [hq, e1, e2, decide_eq_false (show ¬ ((n : Int) < 0) by omega)]
 simp only [cond_false, tn]
 rw [show Min.min (32 - n) (IntKind.bits .u32) = 32 - n from Nat.min_eq_left (by simp only [IntKind.bits]; omega), show Min.min n (IntKind.bits .u32) = n from Nat.min_eq_left (by simp only [IntKind.bits]; omega), A6P, Aj5, kP,
  Ai5 (k := .u32) (wO _) (nB _ hx)]
 unfold rr rl
 rw [show 32 - (32 - n) = n by omega]
theorem iF (x n : Nat) (hx : x < 4294967296) (h0 : 0 < n) (hn : n < 32) : xM R (x : Int) (n : Int) = some (((rr n x : Nat) : Int), ()) := by
 have hq : xM R (x : Int) (n : Int) = _ := call (A5m R L (x : Int) (n : Int))
 rw [hq, BW1 x n hx h0 hn]
 rfl
theorem dM (x n : Nat) (hx : x < 4294967296) (h0 : 0 < n) (hn : n < 32) : yE R (x : Int) (n : Int) = some (((rr n x : Nat) : Int), ()) := by
 have hq : yE R (x : Int) (n : Int) = _ := call (A1z R L (x : Int) (n : Int))
 have e2 : IntKind.wrap .i64 ((32 : Int) - (n : Int)) = ((32 - n : Nat) : Int) := by
  rw [zO (by omega) (by omega)]; omega
 have hb : x * 2 ^ (32 - n) < 9223372036854775808 := by
  have h1 : 2 ^ (32 - n) ≤ 2 ^ 31 := Nat.pow_le_pow_right (by decide) (by omega)
  have h2 : x * 2 ^ (32 - n) ≤ x * 2 ^ 31 := Nat.mul_le_mul_left _ h1
  omega
 rw [hq, e2, decide_eq_false (show ¬ ((n : Int) < 0) by omega), decide_eq_false (show ¬ (((32 - n : Nat) : Int) < 0) by omega)]
 simp only [cond_false, tn]
 rw [show Min.min (32 - n) (IntKind.bits .i64) = 32 - n from Nat.min_eq_left (by simp only [IntKind.bits]; omega), show Min.min n (IntKind.bits .i64) = n from Nat.min_eq_left (by simp only [IntKind.bits]; omega), A01 (k := .i64) hb, kP,
  Ai5 (k := .i64) (Nat.lt_trans (nB _ hx) (by decide)) hb, m32 (Nat.or_lt_two_pow (n := 63) (Nat.lt_trans (nB _ hx) (by decide)) hb), BQ9 (by omega) hx]
theorem R7 {x : Nat} (hx : x < 4294967296) : yE R (x : Int) 7 = some (((rr 7 x : Nat) : Int), ()) := dM x 7 hx (by decide) (by decide)
theorem T7 {x : Nat} (hx : x < 4294967296) : xM R (x : Int) 7 = some (((rr 7 x : Nat) : Int), ()) := iF x 7 hx (by decide) (by decide)
theorem R18 {x : Nat} (hx : x < 4294967296) : yE R (x : Int) 18 = some (((rr 18 x : Nat) : Int), ()) := dM x 18 hx (by decide) (by decide)
theorem T18 {x : Nat} (hx : x < 4294967296) : xM R (x : Int) 18 = some (((rr 18 x : Nat) : Int), ()) := iF x 18 hx (by decide) (by decide)
theorem R17 {x : Nat} (hx : x < 4294967296) : yE R (x : Int) 17 = some (((rr 17 x : Nat) : Int), ()) := dM x 17 hx (by decide) (by decide)
theorem T17 {x : Nat} (hx : x < 4294967296) : xM R (x : Int) 17 = some (((rr 17 x : Nat) : Int), ()) := iF x 17 hx (by decide) (by decide)
theorem R19 {x : Nat} (hx : x < 4294967296) : yE R (x : Int) 19 = some (((rr 19 x : Nat) : Int), ()) := dM x 19 hx (by decide) (by decide)
theorem T19 {x : Nat} (hx : x < 4294967296) : xM R (x : Int) 19 = some (((rr 19 x : Nat) : Int), ()) := iF x 19 hx (by decide) (by decide)
theorem R6 {x : Nat} (hx : x < 4294967296) : yE R (x : Int) 6 = some (((rr 6 x : Nat) : Int), ()) := dM x 6 hx (by decide) (by decide)
theorem T6 {x : Nat} (hx : x < 4294967296) : xM R (x : Int) 6 = some (((rr 6 x : Nat) : Int), ()) := iF x 6 hx (by decide) (by decide)
theorem R11 {x : Nat} (hx : x < 4294967296) : yE R (x : Int) 11 = some (((rr 11 x : Nat) : Int), ()) := dM x 11 hx (by decide) (by decide)
theorem T11 {x : Nat} (hx : x < 4294967296) : xM R (x : Int) 11 = some (((rr 11 x : Nat) : Int), ()) := iF x 11 hx (by decide) (by decide)
theorem R25 {x : Nat} (hx : x < 4294967296) : yE R (x : Int) 25 = some (((rr 25 x : Nat) : Int), ()) := dM x 25 hx (by decide) (by decide)
theorem T25 {x : Nat} (hx : x < 4294967296) : xM R (x : Int) 25 = some (((rr 25 x : Nat) : Int), ()) := iF x 25 hx (by decide) (by decide)
theorem R2 {x : Nat} (hx : x < 4294967296) : yE R (x : Int) 2 = some (((rr 2 x : Nat) : Int), ()) := dM x 2 hx (by decide) (by decide)
theorem T2 {x : Nat} (hx : x < 4294967296) : xM R (x : Int) 2 = some (((rr 2 x : Nat) : Int), ()) := iF x 2 hx (by decide) (by decide)
theorem R13 {x : Nat} (hx : x < 4294967296) : yE R (x : Int) 13 = some (((rr 13 x : Nat) : Int), ()) := dM x 13 hx (by decide) (by decide)
theorem T13 {x : Nat} (hx : x < 4294967296) : xM R (x : Int) 13 = some (((rr 13 x : Nat) : Int), ()) := iF x 13 hx (by decide) (by decide)
theorem R22 {x : Nat} (hx : x < 4294967296) : yE R (x : Int) 22 = some (((rr 22 x : Nat) : Int), ()) := dM x 22 hx (by decide) (by decide)
theorem T22 {x : Nat} (hx : x < 4294967296) : xM R (x : Int) 22 = some (((rr 22 x : Nat) : Int), ()) := iF x 22 hx (by decide) (by decide)
theorem A1L {k : IntKind} (hk : 256 ≤ tL k) (b : UInt8) : IntKind.wrap k ((b.toNat : Nat) : Int) = ((b.toNat : Nat) : Int) := AR1 (Nat.lt_of_lt_of_le (UInt8.toNat_lt _) hk)
theorem BT6 {k : IntKind} (hk : 4294967296 ≤ tL k) {a b : Nat} (ha : a < 4294967296) (hb : b < 4294967296) : xF .or k (a : Int) (b : Int) = ((a ||| b : Nat) : Int) := Ai5 (Nat.lt_of_lt_of_le ha hk) (Nat.lt_of_lt_of_le hb hk)
theorem aY {k : IntKind} (hk : 4294967296 ≤ tL k) {a b : Nat} (ha : a < 4294967296) (hb : b < 4294967296) : xF .xor k (a : Int) (b : Int) = ((a ^^^ b : Nat) : Int) := A3M (Nat.lt_of_lt_of_le ha hk) (Nat.lt_of_lt_of_le hb hk)
theorem A8F {k : IntKind} (hk : 4294967296 ≤ tL k) {a b : Nat} (ha : a < 4294967296) (hb : b < 4294967296) : xF .and k (a : Int) (b : Int) = ((a &&& b : Nat) : Int) := AN4 (Nat.lt_of_lt_of_le ha hk) (Nat.lt_of_lt_of_le hb hk)
theorem BH1 (k : IntKind) (hk : 4294967296 ≤ tL k) (h32 : 32 ≤ k.bits) (t : List UInt8) (i : Nat) :
  xF .or k (xF .or k (xF .or k (IntKind.wrap k (IntKind.wrap k (((t.getD i 0).toNat : Nat) : Int) * ((2 : Int) ^ Min.min (Int.toNat 24) k.bits)))
   (IntKind.wrap k (IntKind.wrap k (((t.getD (i + 1) 0).toNat : Nat) : Int) * ((2 : Int) ^ Min.min (Int.toNat 16) k.bits))))
   (IntKind.wrap k (IntKind.wrap k (((t.getD (i + 2) 0).toNat : Nat) : Int) * ((2 : Int) ^ Min.min (Int.toNat 8) k.bits))))
   (IntKind.wrap k (((t.getD (i + 3) 0).toNat : Nat) : Int)) = ((wBE t i : Nat) : Int) := by
 have h0 := sT t i; have h1 := sT t (i + 1); have h2 := sT t (i + 2); have h3 := sT t (i + 3)
 have m24 : Min.min (Int.toNat 24) k.bits = 24 := Nat.min_eq_left (by show 24 ≤ _; omega)
 have m16 : Min.min (Int.toNat 16) k.bits = 16 := Nat.min_eq_left (by show 16 ≤ _; omega)
 have m8 : Min.min (Int.toNat 8) k.bits = 8 := Nat.min_eq_left (by show 8 ≤ _; omega)
 have hk8 : 256 ≤ tL k := Nat.le_trans (by decide) hk
 unfold bt at h0 h1 h2 h3
 rw [m24, m16, m8, A1L hk8, A1L hk8, A1L hk8, A1L hk8, A01 (by omega), A01 (by omega), A01 (by omega), BT6 hk (by omega) (by omega), BT6 hk (jT (by omega) (by omega)) (by omega), BT6 hk (jT (jT (by omega) (by omega)) (by omega)) (by omega)]
 rfl
theorem Ai4 {i : Nat} (c : Nat) (h : i + c < 9223372036854775808) : IntKind.wrap .i64 ((i : Int) + (c : Int)) = ((i + c : Nat) : Int) := Ak1 h
theorem BZ2 (t : List UInt8) (i : Nat) (h : i + 3 < t.length) (hi : i < 1099511627776) : cZ R t (i : Int) = some (((wBE t i : Nat) : Int), ()) := by
 have hq : cZ R t (i : Int) = _ := call (A2o R L t (i : Int))
 have e1 : IntKind.wrap .i64 ((i : Int) + 1) = ((i + 1 : Nat) : Int) := Ai4 1 (by omega)
 have e2 : IntKind.wrap .i64 ((i : Int) + 2) = ((i + 2 : Nat) : Int) := Ai4 2 (by omega)
 have e3 : IntKind.wrap .i64 ((i : Int) + 3) = ((i + 3 : Nat) : Int) := Ai4 3 (by omega)
 rw [hq, e1, e2, e3]
 simp only [nn, tn, yP (show i < t.length by omega), yP (show i + 1 < t.length by omega), yP (show i + 2 < t.length by omega), yP h, cond_true]
 rw [BH1 .i64 (by decide) (by decide)]
end Go.Rf.S

end
section
namespace Go.Rf.S
set_option maxRecDepth 100000
theorem g0C (k : IntKind) (hk : 4294967296 ≤ tL k) (h32 : 32 ≤ k.bits) {x : Nat} (h : x < 4294967296) :
  xF .xor k (xF .xor k ((rr 7 x : Nat) : Int) ((rr 18 x : Nat) : Int)) (Int.fdiv (x : Int) ((2 : Int) ^ Min.min (Int.toNat 3) k.bits)) = ((g0 x : Nat) : Int) := by
 rw [show Min.min (Int.toNat 3) k.bits = 3 from Nat.min_eq_left (by show 3 ≤ _; omega), kP, aY hk (kQ h) (kQ h), aY hk (xE (kQ h) (kQ h)) (nB _ h)]
 rfl
theorem g1C (k : IntKind) (hk : 4294967296 ≤ tL k) (h32 : 32 ≤ k.bits) {x : Nat} (h : x < 4294967296) :
  xF .xor k (xF .xor k ((rr 17 x : Nat) : Int) ((rr 19 x : Nat) : Int)) (Int.fdiv (x : Int) ((2 : Int) ^ Min.min (Int.toNat 10) k.bits)) = ((g1 x : Nat) : Int) := by
 rw [show Min.min (Int.toNat 10) k.bits = 10 from Nat.min_eq_left (by show 10 ≤ _; omega), kP, aY hk (kQ h) (kQ h), aY hk (xE (kQ h) (kQ h)) (nB _ h)]
 rfl
theorem S1C (k : IntKind) (hk : 4294967296 ≤ tL k) {x : Nat} (h : x < 4294967296) :
  xF .xor k (xF .xor k ((rr 6 x : Nat) : Int) ((rr 11 x : Nat) : Int)) ((rr 25 x : Nat) : Int) = ((S1 x : Nat) : Int) := by
 rw [aY hk (kQ h) (kQ h), aY hk (xE (kQ h) (kQ h)) (kQ h)]
 rfl
theorem S0C (k : IntKind) (hk : 4294967296 ≤ tL k) {x : Nat} (h : x < 4294967296) :
  xF .xor k (xF .xor k ((rr 2 x : Nat) : Int) ((rr 13 x : Nat) : Int)) ((rr 22 x : Nat) : Int) = ((S0 x : Nat) : Int) := by
 rw [aY hk (kQ h) (kQ h), aY hk (xE (kQ h) (kQ h)) (kQ h)]
 rfl
theorem chC (k : IntKind) (hk : 4294967296 ≤ tL k) {e f g : Nat} (he : e < 4294967296) (hf : f < 4294967296) (hg : g < 4294967296) :
  xF .xor k (xF .and k (e : Int) (f : Int)) (xF .and k (xF .xor k 4294967295 (e : Int)) (g : Int)) = ((ch e f g : Nat) : Int) := by
 rw [show (4294967295 : Int) = ((4294967295 : Nat) : Int) from rfl, A8F hk he hf, aY hk (by decide) he, A8F hk (xE (by decide) he) hg, aY hk (mK he) (mK (xE (by decide) he))]
 rfl
theorem mjC (k : IntKind) (hk : 4294967296 ≤ tL k) {e f g : Nat} (he : e < 4294967296) (hf : f < 4294967296) (hg : g < 4294967296) :
  xF .xor k (xF .xor k (xF .and k (e : Int) (f : Int)) (xF .and k (e : Int) (g : Int))) (xF .and k (f : Int) (g : Int)) = ((mj e f g : Nat) : Int) := by
 rw [A8F hk he hf, A8F hk he hg, A8F hk hf hg, aY hk (mK he) (mK he), aY hk (xE (mK he) (mK he)) (mK hf)]
 rfl
def Wd (n : Nat) (w : List Nat) : Prop := w.length = n ∧ Bd 4294967296 w
theorem Wd.g {n : Nat} {w : List Nat} (h : Wd n w) (i : Nat) : w.getD i 0 < 4294967296 := h.2.get (by decide) i
theorem Wd.s {n : Nat} {w : List Nat} (h : Wd n w) {i a : Nat} (ha : a < 4294967296) : Wd n (w.set i a) := ⟨by rw [List.length_set]; exact h.1, h.2.set ha⟩
theorem Wd.rep (n : Nat) : Wd n (List.replicate n 0) := ⟨List.length_replicate, Bd.rep (by decide)⟩
theorem BU3 {t : List UInt8} {i : Nat} {w : List Nat} (h : Wd 64 w) : Wd 64 (stA t i w) := h.s (Bb8 _ _)
theorem BX6 {i : Nat} {w : List Nat} (h : Wd 64 w) : Wd 64 (stB i w) := h.s (wO _)
theorem Bb5 {k w v : List Nat} {i : Nat} (h : Wd 8 v) : Wd 8 (stC k w i v) := ⟨rfl, fun x hx => by
 simp only [stC, List.mem_cons, List.not_mem_nil, or_false] at hx
 rcases hx with rfl | rfl | rfl | rfl | rfl | rfl | rfl | rfl
 ·exact wO _
 ·exact h.g 0
 ·exact h.g 1
 ·exact h.g 2
 ·exact wO _
 ·exact h.g 4
 ·exact h.g 5
 ·exact h.g 6⟩
theorem BK3 {v : List Nat} {i : Nat} {w : List Nat} {n : Nat} (h : Wd n w) : Wd n (stD v i w) := h.s (wO _)
def kT : List Nat := [1116352408, 1899447441, 3049323471, 3921009573, 961987163, 1508970993, 2453635748, 2870763221, 3624381080, 310598401, 607225278, 1426881987, 1925078388, 2162078206, 2614888103, 3248222580, 3835390401, 4022224774, 264347078, 604807628, 770255983, 1249150122, 1555081692, 1996064986, 2554220882, 2821834349, 2952996808, 3210313671, 3336571891, 3584528711, 113926993, 338241895, 666307205, 773529912, 1294757372, 1396182291, 1695183700, 1986661051, 2177026350, 2456956037, 2730485921, 2820302411, 3259730800, 3345764771, 3516065817, 3600352804, 4094571909, 275423344, 430227734, 506948616, 659060556, 883997877, 958139571, 1322822218, 1537002063, 1747873779, 1955562222, 2024104815, 2227730452, 2361852424, 2428436474, 2756734187, 3204031479, 3329325298]
def hT : List Nat := [1779033703, 3144134277, 1013904242, 2773480762, 1359893119, 2600822924, 528734635, 1541459225]
theorem BZ9 : Wd 8 hT := ⟨rfl, by intro x hx; revert x; decide⟩
theorem Bk2 : Wd 64 kT := ⟨rfl, by intro x hx; revert x; decide⟩
theorem BO1 : AD4 R = some (cl kT, ()) := call (A1r R L)
theorem A26 : bW R = some (cl kT, ()) := call (A0M R L)
theorem BR2 : AC7 R = some (cl hT, ()) := call (A12 R L)
theorem BU1 (t : List UInt8) (ht : 64 ≤ t.length) (v2 v4 : List Int) :
  uG R L t v2 v4 (cl (List.replicate 64 0)) 0 = xL R L v2 v4 (cl (wE (stA t) 16 0 (List.replicate 64 0))) 16 ∧ Wd 64 (wE (stA t) 16 0 (List.replicate 64 0)) :=
 yI (fun (w : List Nat) i => uG R L t v2 v4 (cl w) i) (stA t) (fun _ w => Wd 64 w) 16 (fun w => xL R L v2 v4 (cl w) 16)
  (fun w hw => by
   have hq : uG R L t v2 v4 (cl w) (16 : Nat) = _ := round (by kernel_rfl) (AJ0 R L t v2 v4 (cl w) (16 : Nat))
   show uG R L t v2 v4 (cl w) (16 : Nat) = _
   rw [hq]; rfl)
  (fun w i hi hw => by
   have hq : uG R L t v2 v4 (cl w) (i : Nat) = _ := round (by kernel_rfl) (AJ0 R L t v2 v4 (cl w) (i : Nat))
   refine ⟨?_, BU3 hw⟩
   show uG R L t v2 v4 (cl w) (i : Nat) = _
   have e4 : IntKind.wrap .i64 ((4 : Int) * (i : Int)) = ((4 * i : Nat) : Int) := by rw [zO (by omega) (by omega)]; omega
   rw [hq, show decide ((i : Int) < 16) = true from decide_eq_true (by omega), e4, BZ2 t (4 * i) (by omega) (by omega), zB (by omega)]
   simp only [nn, tn, cond_true, Option.bind_some]
   rw [yP (show i < 64 by omega), uS]
   rfl)
  (List.replicate 64 0) (Wd.rep 64)
theorem BV9 (v2 v4 : List Int) (w0 : List Nat) (h0 : Wd 64 w0) :
  xL R L v2 v4 (cl w0) 16 = xX R L v2 v4 (cl (wE stB 48 0 w0)) (cl kT) v2 0 ∧ Wd 64 (wE stB 48 0 w0) := by
 have h : xL R L v2 v4 (cl w0) (0 + 16) = xX R L v2 v4 (cl (wE stB 48 0 w0)) (cl kT) v2 0 ∧ Wd 64 (wE stB 48 0 w0) := yI (fun (w : List Nat) i => xL R L v2 v4 (cl w) (i + 16)) stB (fun _ w => Wd 64 w) 48 (fun w => xX R L v2 v4 (cl w) (cl kT) v2 0)
  (fun w hw => by
   have hq : xL R L v2 v4 (cl w) (64 : Nat) = _ := round (by kernel_rfl) (AK0 R L v2 v4 (cl w) (64 : Nat))
   show xL R L v2 v4 (cl w) (64 : Nat) = _
   rw [hq, show decide (((64 : Nat) : Int) < 64) = false from by decide, BO1]; rfl)
  (fun w i hi hw => by
   have hq : xL R L v2 v4 (cl w) ((i + 16 : Nat) : Int) = _ := round (by kernel_rfl) (AK0 R L v2 v4 (cl w) ((i + 16 : Nat) : Int))
   refine ⟨?_, BX6 hw⟩
   show xL R L v2 v4 (cl w) ((i : Int) + 16) = xL R L v2 v4 (cl (stB i w)) (((i + 1 : Nat) : Int) + 16)
   rw [show (i : Int) + 16 = ((i + 16 : Nat) : Int) by omega, show ((i + 1 : Nat) : Int) + 16 = ((i + 16 + 1 : Nat) : Int) by omega]
   have e15 : IntKind.wrap .i64 (((i + 16 : Nat) : Int) - 15) = ((i + 1 : Nat) : Int) := A7M (c := 15) (by omega) (by omega)
   have e2 : IntKind.wrap .i64 (((i + 16 : Nat) : Int) - 2) = ((i + 14 : Nat) : Int) := A7M (c := 2) (by omega) (by omega)
   have e16 : IntKind.wrap .i64 (((i + 16 : Nat) : Int) - 16) = ((i : Nat) : Int) := A7M (c := 16) (by omega) (by omega)
   have e7 : IntKind.wrap .i64 (((i + 16 : Nat) : Int) - 7) = ((i + 9 : Nat) : Int) := A7M (c := 7) (by omega) (by omega)
   have a1 := hw.g (i + 1); have a14 := hw.g (i + 14); have a0 := hw.g i; have a9 := hw.g (i + 9)
   have b1 := Bg9 a1; have b2 := Bf1 a14
   rw [hq, show decide (((i + 16 : Nat) : Int) < 64) = true from decide_eq_true (by omega), e15, e2, e16, e7, zB (by omega)]
   simp only [nn, tn, cond_true, yP (show i + 1 < 64 by omega), yP (show i + 14 < 64 by omega), yP (show i < 64 by omega), yP (show i + 9 < 64 by omega), yP (show i + 16 < 64 by omega), yA]
   rw [R7 a1, R18 a1, R17 a14, R19 a14]
   simp only [Option.bind_some]
   rw [g0C .i64 (by decide) (by decide) a1, g1C .i64 (by decide) (by decide) a14, Ak1 (by simp only [tL]; omega), Ak1 (by simp only [tL]; omega), Ak1 (by simp only [tL]; omega), m32 (by omega), uS]
   rfl)
  w0 h0
 rw [Int.zero_add] at h
 exact h
theorem BV2 (v2 v4 : List Int) (w v0 : List Nat) (hw : Wd 64 w) (h0 : Wd 8 v0) :
  xX R L v2 v4 (cl w) (cl kT) (cl v0) 0 = wH R L v2 v4 (cl (wE (stC kT w) 64 0 v0)) 0 ∧ Wd 8 (wE (stC kT w) 64 0 v0) :=
 yI (fun (v : List Nat) i => xX R L v2 v4 (cl w) (cl kT) (cl v) i) (stC kT w) (fun _ v => Wd 8 v) 64 (fun v => wH R L v2 v4 (cl v) 0)
  (fun v hv => by
   have hq : xX R L v2 v4 (cl w) (cl kT) (cl v) (64 : Nat) = _ := round (by kernel_rfl) (AJ6 R L v2 v4 (cl w) (cl kT) (cl v) (64 : Nat))
   show xX R L v2 v4 (cl w) (cl kT) (cl v) (64 : Nat) = _
   rw [hq]; rfl)
  (fun v i hi hv => by
   have hq : xX R L v2 v4 (cl w) (cl kT) (cl v) (i : Nat) = _ := round (by kernel_rfl) (AJ6 R L v2 v4 (cl w) (cl kT) (cl v) (i : Nat))
   refine ⟨?_, Bb5 hv⟩
   show xX R L v2 v4 (cl w) (cl kT) (cl v) (i : Nat) = _
   have a0 := hv.g 0; have a1 := hv.g 1; have a2 := hv.g 2; have a3 := hv.g 3; have a4 := hv.g 4; have a5 := hv.g 5; have a6 := hv.g 6; have a7 := hv.g 7
   have ak := Bk2.g i; have aw := hw.g i
   have b1 := Be0 a4; have b0 := Bg0 a0; have bc := Bf4 (f := v.getD 5 0) (g := v.getD 6 0) a4; have bm := Be9 (c := v.getD 2 0) a0 a1
   rw [hq, show decide ((i : Int) < 64) = true from decide_eq_true (by omega), zB (by omega)]
   simp only [nn, tn, cond_true, yP (show i < 64 by omega), yA, show Int.toNat 0 = 0 from rfl, show Int.toNat 1 = 1 from rfl, show Int.toNat 2 = 2 from rfl, show Int.toNat 3 = 3 from rfl, show Int.toNat 4 = 4 from rfl, show Int.toNat 5 = 5 from rfl, show Int.toNat 6 = 6 from rfl, show Int.toNat 7 = 7 from rfl]
   rw [R6 a4, R11 a4, R25 a4, R2 a0, R13 a0, R22 a0]
   simp only [Option.bind_some]
   rw [S1C .i64 (by decide) a4, S0C .i64 (by decide) a0, chC .i64 (by decide) a4 a5 a6, mjC .i64 (by decide) a0 a1 a2]
   rw [Ak1 (a := v.getD 7 0) (by simp only [tL]; omega), Ak1 (b := ch _ _ _) (by simp only [tL]; omega), Ak1 (b := kT.getD i 0) (by simp only [tL]; omega), Ak1 (b := w.getD i 0) (by simp only [tL]; omega), Ak1 (b := S0 _) (by simp only [tL]; omega), Ak1 (b := mj _ _ _) (by simp only [tL]; omega), Ak1 (a := v.getD 3 0) (by simp only [tL]; omega), m32 (by omega), m32 (by omega)]
   rfl)
  v0 h0
theorem BV3 (v4 : List Int) (v h0 : List Nat) (hv : Wd 8 v) (hh : Wd 8 h0) :
  wH R L (cl h0) v4 (cl v) 0 = some (cl (wE (stD v) 8 0 h0), ()) ∧ Wd 8 (wE (stD v) 8 0 h0) :=
 yI (fun (h : List Nat) i => wH R L (cl h) v4 (cl v) i) (stD v) (fun _ h => Wd 8 h) 8 (fun h => some (cl h, ()))
  (fun h _ => by
   have hq : wH R L (cl h) v4 (cl v) (8 : Nat) = _ := round (by kernel_rfl) (AK4 R L (cl h) v4 (cl v) (8 : Nat))
   show wH R L (cl h) v4 (cl v) (8 : Nat) = _
   rw [hq]; rfl)
  (fun h i hi hh => by
   have hq : wH R L (cl h) v4 (cl v) (i : Nat) = _ := round (by kernel_rfl) (AK4 R L (cl h) v4 (cl v) (i : Nat))
   refine ⟨?_, BK3 hh⟩
   show wH R L (cl h) v4 (cl v) (i : Nat) = _
   have a := hh.g i; have b := hv.g i
   rw [hq, show decide ((i : Int) < 8) = true from decide_eq_true (by omega), zB (by omega)]
   simp only [nn, tn, cond_true, yP (show i < 8 from hi), yA]
   rw [Ak1 (by simp only [tL]; omega), m32 (by omega), uS]
   rfl)
  h0 hh
theorem A2k (h : List Nat) (t : List UInt8) (hh : Wd 8 h) (ht : 64 ≤ t.length) : eJ R (cl h) t = some (cl (A89 kT h t), ()) ∧ Wd 8 (A89 kT h t) := by
 have hq : eJ R (cl h) t = _ := call (A0z R L (cl h) t)
 obtain ⟨a1, a2⟩ := BU1 t ht (cl h) (List.replicate 8 0)
 obtain ⟨b1, b2⟩ := BV9 (cl h) (List.replicate 8 0) _ a2
 obtain ⟨c1, c2⟩ := BV2 (cl h) (List.replicate 8 0) _ h b2 hh
 obtain ⟨d1, d2⟩ := BV3 (List.replicate 8 0) _ h c2 hh
 exact ⟨hq.trans (a1.trans (b1.trans (c1.trans d1))), d2⟩
end Go.Rf.S

end
section
namespace Go.Rf.S
set_option maxRecDepth 100000
abbrev HS : Type := List Int × (List UInt8 × (Int × Unit))
theorem BV1 (v0 : HS) (t : List UInt8) (ht : 64 ≤ t.length) (v2 : List Int) :
  yY R L v0 t v2 (cl (List.replicate 64 0)) 0 = zT R L v0 v2 (cl (wE (stA t) 16 0 (List.replicate 64 0))) 16 ∧ Wd 64 (wE (stA t) 16 0 (List.replicate 64 0)) :=
 yI (fun (w : List Nat) i => yY R L v0 t v2 (cl w) i) (stA t) (fun _ w => Wd 64 w) 16 (fun w => zT R L v0 v2 (cl w) 16)
  (fun w hw => by
   have hq : yY R L v0 t v2 (cl w) (16 : Nat) = _ := round (by kernel_rfl) (hU R L v0 t v2 (cl w) (16 : Nat))
   show yY R L v0 t v2 (cl w) (16 : Nat) = _
   rw [hq]; rfl)
  (fun w i hi hw => by
   have hq : yY R L v0 t v2 (cl w) (i : Nat) = _ := round (by kernel_rfl) (hU R L v0 t v2 (cl w) (i : Nat))
   refine ⟨?_, BU3 hw⟩
   show yY R L v0 t v2 (cl w) (i : Nat) = _
   have e4 : IntKind.wrap .i64 ((4 : Int) * (i : Int)) = ((4 * i : Nat) : Int) := by rw [zO (by omega) (by omega)]; omega
   have e1 : IntKind.wrap .i64 (((4 * i : Nat) : Int) + 1) = ((4 * i + 1 : Nat) : Int) := Ai4 1 (by omega)
   have e2 : IntKind.wrap .i64 (((4 * i : Nat) : Int) + 2) = ((4 * i + 2 : Nat) : Int) := Ai4 2 (by omega)
   have e3 : IntKind.wrap .i64 (((4 * i : Nat) : Int) + 3) = ((4 * i + 3 : Nat) : Int) := Ai4 3 (by omega)
   rw [hq, show decide ((i : Int) < 16) = true from decide_eq_true (by omega), e4, e1, e2, e3, zB (by omega)]
   simp only [nn, tn, cond_true, yP (show 4 * i < t.length by omega), yP (show 4 * i + 1 < t.length by omega), yP (show 4 * i + 2 < t.length by omega), yP (show 4 * i + 3 < t.length by omega)]
   rw [BH1 .u32 (by decide) (by decide), yP (show i < 64 by omega), uS]
   rfl)
  (List.replicate 64 0) (Wd.rep 64)
theorem BP9 (a b c d : Nat) : (((a + b) % 4294967296 + c) % 4294967296 + d) % 4294967296 = (a + b + c + d) % 4294967296 := by simp only [Nat.mod_add_mod]
theorem BZ8 (v0 : HS) (v2 : List Int) (w0 : List Nat) (h0 : Wd 64 w0) :
  zT R L v0 v2 (cl w0) 16 = zV R L v0 v2 (cl (wE stB 48 0 w0)) (List.replicate 8 0) v0.1 0 ∧ Wd 64 (wE stB 48 0 w0) := by
 have h : zT R L v0 v2 (cl w0) (0 + 16) = zV R L v0 v2 (cl (wE stB 48 0 w0)) (List.replicate 8 0) v0.1 0 ∧ Wd 64 (wE stB 48 0 w0) :=
  yI (fun (w : List Nat) i => zT R L v0 v2 (cl w) (i + 16)) stB (fun _ w => Wd 64 w) 48 (fun w => zV R L v0 v2 (cl w) (List.replicate 8 0) v0.1 0)
  (fun w hw => by
   have hq : zT R L v0 v2 (cl w) (64 : Nat) = _ := round (by kernel_rfl) (hM R L v0 v2 (cl w) (64 : Nat))
   show zT R L v0 v2 (cl w) (64 : Nat) = _
   rw [hq, show decide (((64 : Nat) : Int) < 64) = false from by decide]; rfl)
  (fun w i hi hw => by
   have hq : zT R L v0 v2 (cl w) ((i + 16 : Nat) : Int) = _ := round (by kernel_rfl) (hM R L v0 v2 (cl w) ((i + 16 : Nat) : Int))
   refine ⟨?_, BX6 hw⟩
   show zT R L v0 v2 (cl w) ((i : Int) + 16) = zT R L v0 v2 (cl (stB i w)) (((i + 1 : Nat) : Int) + 16)
   rw [show (i : Int) + 16 = ((i + 16 : Nat) : Int) by omega, show ((i + 1 : Nat) : Int) + 16 = ((i + 16 + 1 : Nat) : Int) by omega]
   have e15 : IntKind.wrap .i64 (((i + 16 : Nat) : Int) - 15) = ((i + 1 : Nat) : Int) := A7M (c := 15) (by omega) (by omega)
   have e2 : IntKind.wrap .i64 (((i + 16 : Nat) : Int) - 2) = ((i + 14 : Nat) : Int) := A7M (c := 2) (by omega) (by omega)
   have e16 : IntKind.wrap .i64 (((i + 16 : Nat) : Int) - 16) = ((i : Nat) : Int) := A7M (c := 16) (by omega) (by omega)
   have e7 : IntKind.wrap .i64 (((i + 16 : Nat) : Int) - 7) = ((i + 9 : Nat) : Int) := A7M (c := 7) (by omega) (by omega)
   have a1 := hw.g (i + 1); have a14 := hw.g (i + 14); have a0 := hw.g i; have a9 := hw.g (i + 9)
   rw [hq, show decide (((i + 16 : Nat) : Int) < 64) = true from decide_eq_true (by omega), e15, e2, e16, e7, zB (by omega)]
   simp only [nn, tn, cond_true, yP (show i + 1 < 64 by omega), yP (show i + 14 < 64 by omega), yP (show i < 64 by omega), yP (show i + 9 < 64 by omega), yP (show i + 16 < 64 by omega), yA]
   rw [T7 a1, T18 a1, T17 a14, T19 a14]
   simp only [Option.bind_some]
   rw [g0C .u32 (by decide) (by decide) a1, g1C .u32 (by decide) (by decide) a14, BE2, BE2, BE2, BP9, uS]
   rfl)
  w0 h0
 rw [Int.zero_add] at h
 exact h
theorem Bf7 {x : List Nat} (h : x.length = 8) : x = [x.getD 0 0, x.getD 1 0, x.getD 2 0, x.getD 3 0, x.getD 4 0, x.getD 5 0, x.getD 6 0, x.getD 7 0] := by
 match x, h with
 | [a, b, c, d, e, f, g, i], _ => rfl
theorem BW2 (v0 : HS) (v2 v6 : List Int) (h : List Nat) (hh : Wd 8 h) :
  zV R L v0 v2 v6 (List.replicate 8 0) (cl h) 0 = yF R L v0 v2 v6 (cl h) 0 := by
 have := (yI (fun (w : List Nat) i => zV R L v0 v2 v6 (cl w) (cl h) i) (fun i w => w.set i (h.getD i 0)) (fun _ w => True) 8 (fun w => yF R L v0 v2 v6 (cl w) 0)
  (fun w hw => by
   have hq : zV R L v0 v2 v6 (cl w) (cl h) (8 : Nat) = _ := round (by kernel_rfl) (gA R L v0 v2 v6 (cl w) (cl h) (8 : Nat))
   show zV R L v0 v2 v6 (cl w) (cl h) (8 : Nat) = _
   rw [hq]; rfl)
  (fun w i hi hw => by
   have hq : zV R L v0 v2 v6 (cl w) (cl h) (i : Nat) = _ := round (by kernel_rfl) (gA R L v0 v2 v6 (cl w) (cl h) (i : Nat))
   refine ⟨?_, trivial⟩
   show zV R L v0 v2 v6 (cl w) (cl h) (i : Nat) = _
   rw [hq, show decide ((i : Int) < 8) = true from decide_eq_true (by omega), zB (by omega)]
   simp only [nn, tn, cond_true, yP (show i < 8 from hi), yA]
   rw [AR1 (k := .u32) (hh.g i), uS])
  (List.replicate 8 0) trivial).1
 refine this.trans ?_
 rw [Bf7 hh.1]
 rfl
theorem BN8 (h s c k w a m : Nat) : (((((h + s) % 4294967296 + c) % 4294967296 + k) % 4294967296 + w) % 4294967296 + (a + m) % 4294967296) % 4294967296 = (h + s + c + k + w + a + m) % 4294967296 := by
 simp only [Nat.mod_add_mod, Nat.add_mod_mod, Nat.add_assoc]
theorem BE0 (d h s c k w : Nat) : (d + ((((h + s) % 4294967296 + c) % 4294967296 + k) % 4294967296 + w) % 4294967296) % 4294967296 = (d + (h + s + c + k + w)) % 4294967296 := by
 simp only [Nat.mod_add_mod, Nat.add_mod_mod]
theorem BW4 (v0 : HS) (w v00 : List Nat) (hw : Wd 64 w) (h0 : Wd 8 v00) :
  yF R L v0 (cl kT) (cl w) (cl v00) 0 = yG R L v0 (cl (wE (stC kT w) 64 0 v00)) 0 ∧ Wd 8 (wE (stC kT w) 64 0 v00) :=
 yI (fun (v : List Nat) i => yF R L v0 (cl kT) (cl w) (cl v) i) (stC kT w) (fun _ v => Wd 8 v) 64 (fun v => yG R L v0 (cl v) 0)
  (fun v hv => by
   have hq : yF R L v0 (cl kT) (cl w) (cl v) (64 : Nat) = _ := round (by kernel_rfl) (hP R L v0 (cl kT) (cl w) (cl v) (64 : Nat))
   show yF R L v0 (cl kT) (cl w) (cl v) (64 : Nat) = _
   rw [hq]; rfl)
  (fun v i hi hv => by
   have hq : yF R L v0 (cl kT) (cl w) (cl v) (i : Nat) = _ := round (by kernel_rfl) (hP R L v0 (cl kT) (cl w) (cl v) (i : Nat))
   refine ⟨?_, Bb5 hv⟩
   show yF R L v0 (cl kT) (cl w) (cl v) (i : Nat) = _
   have a0 := hv.g 0; have a1 := hv.g 1; have a2 := hv.g 2; have a3 := hv.g 3; have a4 := hv.g 4; have a5 := hv.g 5; have a6 := hv.g 6; have a7 := hv.g 7
   rw [hq, show decide ((i : Int) < 64) = true from decide_eq_true (by omega), zB (by omega), show ((2 : Int) ^ IntKind.bits .u32 - 1) = 4294967295 from by decide]
   simp only [nn, tn, cond_true, yP (show i < 64 by omega), yA, show Int.toNat 0 = 0 from rfl, show Int.toNat 1 = 1 from rfl, show Int.toNat 2 = 2 from rfl, show Int.toNat 3 = 3 from rfl, show Int.toNat 4 = 4 from rfl, show Int.toNat 5 = 5 from rfl, show Int.toNat 6 = 6 from rfl, show Int.toNat 7 = 7 from rfl]
   rw [T6 a4, T11 a4, T25 a4, T2 a0, T13 a0, T22 a0]
   simp only [Option.bind_some]
   rw [S1C .u32 (by decide) a4, S0C .u32 (by decide) a0, chC .u32 (by decide) a4 a5 a6, mjC .u32 (by decide) a0 a1 a2]
   simp only [BE2]
   rw [BN8, BE0]
   rfl)
  v00 h0
theorem Ba5 (rest : List UInt8 × (Int × Unit)) (v h0 : List Nat) (hv : Wd 8 v) (hh : Wd 8 h0) :
  yG R L (cl h0, rest) (cl v) 0 = some ((cl (wE (stD v) 8 0 h0), rest), ()) ∧ Wd 8 (wE (stD v) 8 0 h0) :=
 yI (fun (h : List Nat) i => yG R L (cl h, rest) (cl v) i) (stD v) (fun _ h => Wd 8 h) 8 (fun h => some ((cl h, rest), ()))
  (fun h _ => by
   have hq : yG R L (cl h, rest) (cl v) (8 : Nat) = _ := round (by kernel_rfl) (iZ R L (cl h, rest) (cl v) (8 : Nat))
   show yG R L (cl h, rest) (cl v) (8 : Nat) = _
   rw [hq]; rfl)
  (fun h i hi hh => by
   have hq : yG R L (cl h, rest) (cl v) (i : Nat) = _ := round (by kernel_rfl) (iZ R L (cl h, rest) (cl v) (i : Nat))
   refine ⟨?_, BK3 hh⟩
   show yG R L (cl h, rest) (cl v) (i : Nat) = _
   have a := hh.g i; have b := hv.g i
   rw [hq, show decide ((i : Int) < 8) = true from decide_eq_true (by omega), zB (by omega)]
   simp only [nn, tn, cond_true, yP (show i < 8 from hi), yA]
   rw [AR1 (k := .u32) a, BE2, sI (by omega), uS]
   rfl)
  h0 hh
theorem cN (t : List UInt8) {i n : Nat} (h : i < n) : (t.take n).getD i 0 = t.getD i 0 := by
 rw [List.getD_eq_getElem?_getD, List.getD_eq_getElem?_getD, List.getElem?_take, if_pos h]
theorem Aj7 {α : Type} {f g : Nat → α → α} : ∀ (n i : Nat) (a : α), (∀ j b, i ≤ j → j < i + n → f j b = g j b) → wE f n i a = wE g n i a
 | 0, _, _, _ => rfl
 | n + 1, i, a, h => by
  show wE f n (i + 1) (f i a) = wE g n (i + 1) (g i a)
  rw [h i a (Nat.le_refl _) (by omega), Aj7 n (i + 1) _ (fun j b h1 h2 => h j b (by omega) (by omega))]
theorem A8E (k h : List Nat) (t : List UInt8) : A89 k h (t.take 64) = A89 k h t := by
 have e : wE (stA (t.take 64)) 16 0 (List.replicate 64 0) = wE (stA t) 16 0 (List.replicate 64 0) := Aj7 16 0 _ fun j b h1 h2 => by
  unfold stA wBE bt
  rw [cN t (by omega), cN t (by omega), cN t (by omega), cN t (by omega)]
 unfold A89 Bh4
 rw [e]
theorem BK6 (h : List Nat) (rest : List UInt8 × (Int × Unit)) (t : List UInt8) (hh : Wd 8 h) (ht : 64 ≤ t.length) :
  pQ R (cl h, rest) t (cl kT) = some ((cl (A89 kT h t), rest), ()) := by
 have hq : pQ R (cl h, rest) t (cl kT) = _ := call (AR7 R L (cl h, rest) t (cl kT))
 obtain ⟨a1, a2⟩ := BV1 (cl h, rest) t ht (cl kT)
 obtain ⟨b1, b2⟩ := BZ8 (cl h, rest) (cl kT) _ a2
 obtain ⟨c1, c2⟩ := BW4 (cl h, rest) _ h b2 hh
 obtain ⟨d1, d2⟩ := Ba5 rest _ h c2 hh
 exact hq.trans (a1.trans (b1.trans ((BW2 _ _ _ h hh).trans (c1.trans d1))))
end Go.Rf.S

end
section
namespace Go.Rf.S
set_option maxRecDepth 100000
theorem A75 {k h : List Nat} {t : List UInt8} (hh : Wd 8 h) : Wd 8 (A89 k h t) := by
 have : ∀ (v : List Nat) (n i : Nat) (x : List Nat), Wd 8 x → Wd 8 (wE (stD v) n i x) := by
  intro v n
  induction n with
  | zero => intro i x hx; exact hx
  | succ n ih => intro i x hx; exact ih (i + 1) _ (BK3 hx)
 exact this _ _ _ _ hh
theorem BI8 {k : List Nat} : ∀ {n : Nat} {h : List Nat} {t : List UInt8}, Wd 8 h → t.length < 64 * (n + 1) → Wd 8 (A9F k n h t).1 ∧ (A9F k n h t).2.length = t.length % 64
 | 0, h, t, hh, ht => ⟨hh, by show t.length = _; omega⟩
 | n + 1, h, t, hh, ht => by
  unfold A9F
  split
  ·rename_i h64
   have := BI8 (k := k) (n := n) (h := A89 k h t) (t := t.drop 64) (A75 hh) (by rw [List.length_drop]; omega)
   refine ⟨this.1, this.2.trans ?_⟩
   rw [List.length_drop]
   omega
  ·exact ⟨hh, by show t.length = _; omega⟩
theorem A5S {a b : Nat} (h : a ≤ b) : Nat.ble a b = true := by rw [Nat.ble_eq]; exact h
theorem A7X (v4 : HS) (m : Int) : ∀ (n : Nat) (h : List Nat) (t : List UInt8), Wd 8 h → t.length < 64 * (n + 1) →
  rN R L (cl h, (t, (m, ()))) v4 = some ((cl (A9F kT n h t).1, ((A9F kT n h t).2, (m, ()))), ()) := by
 have stop : ∀ (h : List Nat) (t : List UInt8), t.length < 64 → rN R L (cl h, (t, (m, ()))) v4 = some ((cl h, (t, (m, ()))), ()) := by
  intro h t ht
  have hq : rN R L (cl h, (t, (m, ()))) v4 = _ := round (by kernel_rfl) (AR2 R L (cl h, (t, (m, ()))) v4)
  rw [hq, decide_eq_false (show ¬ ((64 : Int) ≤ ((t.length : Nat) : Int)) by omega)]
  rfl
 intro n
 induction n with
 | zero => intro h t hh ht; exact stop h t (by omega)
 | succ n ih =>
  intro h t hh ht
  unfold A9F
  split
  ·rename_i h64
   have hq : rN R L (cl h, (t, (m, ()))) v4 = _ := round (by kernel_rfl) (AR2 R L (cl h, (t, (m, ()))) v4)
   rw [hq, decide_eq_true (show (64 : Int) ≤ ((t.length : Nat) : Int) by omega), (A2k h t hh h64).1]
   simp only [cond_true, Option.bind_some]
   rw [A5S (Nat.le_refl _), show Int.toNat 64 = 64 from rfl, A5S h64, List.take_length]
   exact ih (A89 kT h t) (t.drop 64) (A75 hh) (by rw [List.length_drop]; omega)
  ·rename_i h64
   exact stop h t (by omega)
theorem A7o (v4 : HS) (m : Int) (old : List UInt8) : ∀ (n : Nat) (h : List Nat) (t : List UInt8), Wd 8 h → t.length < 64 * (n + 1) →
  tV R L t (cl h, (old, (m, ()))) v4 (cl kT) = some ((cl (A9F kT n h t).1, ((A9F kT n h t).2, (m, ()))), ()) := by
 have stop : ∀ (h : List Nat) (t : List UInt8), t.length < 64 → tV R L t (cl h, (old, (m, ()))) v4 (cl kT) = some ((cl h, (t, (m, ()))), ()) := by
  intro h t ht
  have hq : tV R L t (cl h, (old, (m, ()))) v4 (cl kT) = _ := round (by kernel_rfl) (AB8 R L t (cl h, (old, (m, ()))) v4 (cl kT))
  rw [hq, decide_eq_false (show ¬ ((64 : Int) ≤ ((t.length : Nat) : Int)) by omega)]
  rfl
 intro n
 induction n with
 | zero => intro h t hh ht; exact stop h t (by omega)
 | succ n ih =>
  intro h t hh ht
  unfold A9F
  split
  ·rename_i h64
   have hq : tV R L t (cl h, (old, (m, ()))) v4 (cl kT) = _ := round (by kernel_rfl) (AB8 R L t (cl h, (old, (m, ()))) v4 (cl kT))
   rw [hq, decide_eq_true (show (64 : Int) ≤ ((t.length : Nat) : Int) by omega), show Int.toNat 64 = 64 from rfl, A5S h64, List.drop_zero, BK6 h _ (t.take 64) hh (by rw [List.length_take]; omega), A8E]
   simp only [cond_true, Option.bind_some]
   rw [A5S (Nat.le_refl _), List.take_length]
   exact ih (A89 kT h t) (t.drop 64) (A75 hh) (by rw [List.length_drop]; omega)
  ·rename_i h64
   exact stop h t (by omega)
def hS (h : List Nat) (r : List UInt8) (m : Nat) : HS := (cl h, (r, ((m : Int), ())))
def BB9 (h : List Nat) (r t : List UInt8) : List Nat × List UInt8 := A9F kT ((r ++ t).length / 64) h (r ++ t)
theorem A3L (n : Nat) : n < 64 * (n / 64 + 1) := by omega
theorem As9 (h : List Nat) (r t : List UInt8) (m : Nat) (hh : Wd 8 h) (hr : r.length ≤ 1024) (ht : t.length ≤ 549755813888) (hm : m ≤ 549755813888) :
  mW R (hS h r m) t = some (hS (BB9 h r t).1 (BB9 h r t).2 (m + t.length), ()) := by
 have hq : mW R (hS h r m) t = _ := call (A3b R L (hS h r m) t)
 rw [hq]
 unfold hS
 simp only
 rw [uB (by omega), Ak1 (by simp only [tL]; omega)]
 simp only [cond_true]
 exact A7X _ _ _ h (r ++ t) hh (A3L _)
theorem BF7 (h : List Nat) (r t : List UInt8) (m : Nat) (hh : Wd 8 h) (hr : r.length ≤ 1024) (ht : t.length ≤ 549755813888) (hm : m ≤ 549755813888) :
  qI R (hS h r m) t = some (hS (BB9 h r t).1 (BB9 h r t).2 (m + t.length), ()) := by
 have hq : qI R (hS h r m) t = _ := call (Ay6 R L (hS h r m) t)
 rw [hq, A26]
 unfold hS
 simp only [Option.bind_some]
 rw [uB (by omega), Ak1 (by simp only [tL]; omega)]
 simp only [cond_true]
 exact A7o _ _ _ _ h (r ++ t) hh (A3L _)
theorem Aq7 {h : List Nat} {r t : List UInt8} (hh : Wd 8 h) : Wd 8 (BB9 h r t).1 ∧ (BB9 h r t).2.length = (r ++ t).length % 64 := BI8 hh (A3L _)
theorem Aa5 (l : List Nat) : List.map (fun n : Int => UInt8.ofNat (Int.toNat n)) (cl l) = ub l := by
 unfold cl ub
 rw [List.map_map]
 rfl
theorem AO1 (a b : List Nat) : cl a ++ cl b = cl (a ++ b) := by
 unfold cl; rw [List.map_append]
def A2e (m : Nat) : Nat := (119 - m % 64) % 64
def A9L (b : Nat) : List Nat := [b / 2 ^ 56 % 256, b / 2 ^ 48 % 256, b / 2 ^ 40 % 256, b / 2 ^ 32 % 256, b / 2 ^ 24 % 256, b / 2 ^ 16 % 256, b / 2 ^ 8 % 256, b / 2 ^ 0 % 256]
def BF4 (m : Nat) : List Nat := 128 :: List.replicate (A2e m) 0
def BI6 (m : Nat) : List UInt8 := ub (BF4 m ++ A9L (8 * m))
theorem A46 (m : Nat) : (BI6 m).length = A2e m + 9 := by
 unfold BI6 ub BF4 A9L
 rw [List.length_map, List.length_append, List.length_cons, List.length_replicate]
 rfl
def be4 (x : Nat) : List Nat := [x / 2 ^ 24 % 256, x / 2 ^ 16 % 256, x / 2 ^ 8 % 256, x % 256]
theorem A6w (a b : Nat) : Int.tmod (a : Int) (b : Int) = ((a % b : Nat) : Int) := rfl
theorem A5A (v1 : HS) (v3 : Int) (m : Nat) (hv : v1.2.2.1 = (m : Int)) (hm : m ≤ 549755813888) : ∀ (k j : Nat), j + k = A2e m →
  qM R L v1 v3 (cl (128 :: List.replicate j 0)) = vI R L v1 v3 (cl (BF4 m)) 7
 | 0, j, hj => by
  have hq : qM R L v1 v3 (cl (128 :: List.replicate j 0)) = _ := round (by kernel_rfl) (AZ5 R L v1 v3 (cl (128 :: List.replicate j 0)))
  have hp : A2e m = (119 - m % 64) % 64 := rfl
  rw [hq, hv, mF, List.length_cons, List.length_replicate, Ak1 (by simp only [tL]; omega), show Int.tmod ((m + (j + 1) : Nat) : Int) 64 = (((m + (j + 1)) % 64 : Nat) : Int) from A6w _ 64,
   show eqI (((m + (j + 1)) % 64 : Nat) : Int) 56 = true from by rw [oJ]; exact decide_eq_true (by omega)]
  have : j = A2e m := by omega
  subst this
  rfl
 | k + 1, j, hj => by
  have hq : qM R L v1 v3 (cl (128 :: List.replicate j 0)) = _ := round (by kernel_rfl) (AZ5 R L v1 v3 (cl (128 :: List.replicate j 0)))
  have hp : A2e m = (119 - m % 64) % 64 := rfl
  rw [hq, hv, mF, List.length_cons, List.length_replicate, Ak1 (by simp only [tL]; omega), show Int.tmod ((m + (j + 1) : Nat) : Int) 64 = (((m + (j + 1)) % 64 : Nat) : Int) from A6w _ 64,
   show eqI (((m + (j + 1)) % 64 : Nat) : Int) 56 = false from by rw [oJ]; exact decide_eq_false (by omega)]
  simp only [Bool.not_false, cond_true]
  rw [uB (by simp only [List.length_cons, List.length_nil]; omega)]
  simp only [cond_true]
  have e : cl (128 :: List.replicate j 0) ++ [(0 : Int)] = cl (128 :: List.replicate (j + 1) 0) := by
   rw [show [(0 : Int)] = cl [0] from rfl, AO1, List.replicate_succ', List.cons_append]
  rw [e]
  exact A5A v1 v3 m hv hm k (j + 1) (by omega)
theorem BC7 (v1 : HS) (b : Nat) (hb : b < 9223372036854775808) (p : List Nat) (hp : p.length ≤ 100) (j : Nat) (hj : j < 8) :
  vI R L v1 (b : Int) (cl p) (j : Int) = vI R L v1 (b : Int) (cl (p ++ [b / 2 ^ (8 * j) % 256])) (IntKind.wrap .i64 ((j : Int) - 1)) := by
 have hq : vI R L v1 (b : Int) (cl p) (j : Int) = _ := round (by kernel_rfl) (AX6 R L v1 (b : Int) (cl p) (j : Int))
 have e8 : IntKind.wrap .i64 ((8 : Int) * (j : Int)) = ((8 * j : Nat) : Int) := by rw [zO (by omega) (by omega)]; omega
 rw [hq, decide_eq_true (show (0 : Int) ≤ (j : Int) by omega), e8, decide_eq_false (show ¬ (((8 * j : Nat) : Int) < 0) by omega), tn, show Min.min (8 * j) (IntKind.bits .i64) = 8 * j from Nat.min_eq_left (by simp only [IntKind.bits]; omega), kP, tS,
  uB (by rw [mF]; simp only [List.length_cons, List.length_nil]; omega)]
 simp only [cond_true, cond_false]
 rw [show [((b / 2 ^ (8 * j) % 256 : Nat) : Int)] = cl [b / 2 ^ (8 * j) % 256] from rfl, AO1]
theorem A9k (v1 : HS) (b : Nat) (hb : b < 9223372036854775808) (p : List Nat) (hp : p.length ≤ 100) (j : Nat) (hj : j < 8) :
  xV R L v1 (b : Int) (ub p) (j : Int) = xV R L v1 (b : Int) (ub (p ++ [b / 2 ^ (8 * j) % 256])) (IntKind.wrap .i64 ((j : Int) - 1)) := by
 have hq : xV R L v1 (b : Int) (ub p) (j : Int) = _ := round (by kernel_rfl) (AI1 R L v1 (b : Int) (ub p) (j : Int))
 have e8 : IntKind.wrap .i64 ((8 : Int) * (j : Int)) = ((8 * j : Nat) : Int) := by rw [zO (by omega) (by omega)]; omega
 have hl : (ub p).length = p.length := List.length_map _
 rw [hq, decide_eq_true (show (0 : Int) ≤ (j : Int) by omega), e8, decide_eq_false (show ¬ (((8 * j : Nat) : Int) < 0) by omega), tn, show Min.min (8 * j) (IntKind.bits .i64) = 8 * j from Nat.min_eq_left (by simp only [IntKind.bits]; omega), kP, tS,
  uB (by rw [hl, List.length_map]; simp only [List.length_cons, List.length_nil]; omega)]
 simp only [cond_true, cond_false]
 rw [show [((b / 2 ^ (8 * j) % 256 : Nat) : Int)] = cl [b / 2 ^ (8 * j) % 256] from rfl, Aa5]
 unfold ub
 rw [List.map_append]
theorem A7h (v1 : HS) (b : Nat) (hb : b < 9223372036854775808) (p : List Nat) (hp : p.length ≤ 64) :
  vI R L v1 (b : Int) (cl p) 7 = (mW R v1 (ub (p ++ A9L b))).bind fun r0 => vG R L r0.1 ([] : List Int) 0 := by
 have st := fun (q : List Nat) (hq : q.length ≤ 100) (j : Nat) hj => BC7 v1 b hb q hq j hj
 have e : vI R L v1 (b : Int) (cl p) 7 = vI R L v1 (b : Int) (cl (p ++ A9L b)) (-1) := by
  have d : ∀ j : Nat, j < 8 → IntKind.wrap .i64 (((j + 1 : Nat) : Int) - 1) = (j : Int) := fun j hj => A7M (c := 1) (by omega) (by omega)
  have len : ∀ (q : List Nat) (x : Nat), (q ++ [x]).length = q.length + 1 := fun q x => by simp
  show vI R L v1 (b : Int) (cl p) ((7 : Nat) : Int) = _
  rw [st p (by omega) 7 (by decide), d 6 (by decide), st _ (by simp only [len]; omega) 6 (by decide), d 5 (by decide), st _ (by simp only [len]; omega) 5 (by decide), d 4 (by decide), st _ (by simp only [len]; omega) 4 (by decide), d 3 (by decide),
   st _ (by simp only [len]; omega) 3 (by decide), d 2 (by decide), st _ (by simp only [len]; omega) 2 (by decide), d 1 (by decide), st _ (by simp only [len]; omega) 1 (by decide), d 0 (by decide), st _ (by simp only [len]; omega) 0 (by decide)]
  simp only [List.append_assoc]
  rfl
 have hq : vI R L v1 (b : Int) (cl (p ++ A9L b)) (-1) = _ := round (by kernel_rfl) (AX6 R L v1 (b : Int) (cl (p ++ A9L b)) (-1))
 rw [e, hq, show decide ((0 : Int) ≤ -1) = false from by decide, Aa5]
 rfl
theorem A7z (v1 : HS) (b : Nat) (hb : b < 9223372036854775808) (p : List Nat) (hp : p.length ≤ 64) :
  xV R L v1 (b : Int) (ub p) 7 = (qI R v1 (ub (p ++ A9L b))).bind fun r0 => vA R L ([] : List Int) r0.1.1 0 := by
 have st := fun (q : List Nat) (hq : q.length ≤ 100) (j : Nat) hj => A9k v1 b hb q hq j hj
 have e : xV R L v1 (b : Int) (ub p) 7 = xV R L v1 (b : Int) (ub (p ++ A9L b)) (-1) := by
  have d : ∀ j : Nat, j < 8 → IntKind.wrap .i64 (((j + 1 : Nat) : Int) - 1) = (j : Int) := fun j hj => A7M (c := 1) (by omega) (by omega)
  have len : ∀ (q : List Nat) (x : Nat), (q ++ [x]).length = q.length + 1 := fun q x => by simp
  show xV R L v1 (b : Int) (ub p) ((7 : Nat) : Int) = _
  rw [st p (by omega) 7 (by decide), d 6 (by decide), st _ (by simp only [len]; omega) 6 (by decide), d 5 (by decide), st _ (by simp only [len]; omega) 5 (by decide), d 4 (by decide), st _ (by simp only [len]; omega) 4 (by decide), d 3 (by decide),
   st _ (by simp only [len]; omega) 3 (by decide), d 2 (by decide), st _ (by simp only [len]; omega) 2 (by decide), d 1 (by decide), st _ (by simp only [len]; omega) 1 (by decide), d 0 (by decide), st _ (by simp only [len]; omega) 0 (by decide)]
  simp only [List.append_assoc]
  rfl
 have hq : xV R L v1 (b : Int) (ub (p ++ A9L b)) (-1) = _ := round (by kernel_rfl) (AI1 R L v1 (b : Int) (ub (p ++ A9L b)) (-1))
 rw [e, hq, show decide ((0 : Int) ≤ -1) = false from by decide]
 rfl
end Go.Rf.S

end
section
namespace Go.Rf.S
set_option maxRecDepth 100000
def stO (h : List Nat) (i : Nat) (o : List Nat) : List Nat := o ++ be4 (h.getD i 0)
theorem A61 (h : List Nat) (hh : Wd 8 h) (rest : List UInt8 × (Int × Unit)) (o : List Nat) (ho : o.length ≤ 100) (i : Nat) (hi : i < 8) :
  uY R L (cl h, rest) (cl o) (i : Int) 3 = vG R L (cl h, rest) (cl (stO h i o)) ((i + 1 : Nat) : Int) := by
 have st : ∀ (q : List Nat), q.length ≤ 200 → ∀ j, j < 4 → uY R L (cl h, rest) (cl q) (i : Int) (j : Nat) = uY R L (cl h, rest) (cl (q ++ [h.getD i 0 / 2 ^ (8 * j) % 256])) (i : Int) (IntKind.wrap .i64 ((j : Int) - 1)) := by
  intro q hq j hj
  have hq' : uY R L (cl h, rest) (cl q) (i : Int) (j : Nat) = _ := round (by kernel_rfl) (AZ6 R L (cl h, rest) (cl q) (i : Int) (j : Nat))
  have e8 : IntKind.wrap .i64 ((8 : Int) * (j : Int)) = ((8 * j : Nat) : Int) := by rw [zO (by omega) (by omega)]; omega
  rw [hq', decide_eq_true (show (0 : Int) ≤ (j : Int) by omega), e8, decide_eq_false (show ¬ (((8 * j : Nat) : Int) < 0) by omega)]
  simp only [nn, tn, cond_true, cond_false, yP (show i < 8 from hi), yA]
  rw [show Min.min (8 * j) (IntKind.bits .i64) = 8 * j from Nat.min_eq_left (by simp only [IntKind.bits]; omega), kP, tS, uB (by rw [mF]; simp only [List.length_cons, List.length_nil]; omega)]
  simp only [cond_true]
  rw [show [((h.getD i 0 / 2 ^ (8 * j) % 256 : Nat) : Int)] = cl [h.getD i 0 / 2 ^ (8 * j) % 256] from rfl, AO1]
 have d : ∀ j : Nat, j < 8 → IntKind.wrap .i64 (((j + 1 : Nat) : Int) - 1) = (j : Int) := fun j hj => A7M (c := 1) (by omega) (by omega)
 have len : ∀ (q : List Nat) (x : Nat), (q ++ [x]).length = q.length + 1 := fun q x => by simp
 have hend : ∀ q, uY R L (cl h, rest) q (i : Int) (-1) = vG R L (cl h, rest) q (IntKind.wrap .i64 ((i : Int) + 1)) := fun q => by
  have hq' : uY R L (cl h, rest) q (i : Int) (-1) = _ := round (by kernel_rfl) (AZ6 R L (cl h, rest) q (i : Int) (-1))
  rw [hq']; rfl
 show uY R L (cl h, rest) (cl o) (i : Int) ((3 : Nat) : Int) = _
 rw [st o (by omega) 3 (by decide), d 2 (by decide), st _ (by simp only [len]; omega) 2 (by decide), d 1 (by decide), st _ (by simp only [len]; omega) 1 (by decide), d 0 (by decide), st _ (by simp only [len]; omega) 0 (by decide),
  show IntKind.wrap .i64 (((0 : Nat) : Int) - 1) = -1 from by decide, hend, zB (by omega)]
 simp only [List.append_assoc]
 unfold stO be4
 simp only [Nat.mul_zero, Nat.pow_zero, Nat.div_one, List.cons_append, List.nil_append, show 8 * 3 = 24 from rfl, show 8 * 2 = 16 from rfl, show 8 * 1 = 8 from rfl]
theorem A9A (h : List Nat) (i : Nat) (o : List Nat) : (stO h i o).length = o.length + 4 := by
 unfold stO be4; rw [List.length_append]; rfl
theorem A4p (h : List Nat) (hh : Wd 8 h) (rest : List UInt8 × (Int × Unit)) :
  vG R L (cl h, rest) (cl []) 0 = some (ub (wE (stO h) 8 0 []), ()) ∧ (wE (stO h) 8 0 []).length = 4 * 8 :=
 yI (fun (o : List Nat) i => vG R L (cl h, rest) (cl o) i) (stO h) (fun i o => o.length = 4 * i) 8 (fun o => some (ub o, ()))
  (fun o _ => by
   have hq : vG R L (cl h, rest) (cl o) (8 : Nat) = _ := round (by kernel_rfl) (AX3 R L (cl h, rest) (cl o) (8 : Nat))
   show vG R L (cl h, rest) (cl o) (8 : Nat) = _
   rw [hq, show decide (((8 : Nat) : Int) < 8) = false from by decide, Aa5]; rfl)
  (fun o i hi ho => by
   have hq : vG R L (cl h, rest) (cl o) (i : Nat) = _ := round (by kernel_rfl) (AX3 R L (cl h, rest) (cl o) (i : Nat))
   refine ⟨?_, by rw [A9A]; omega⟩
   show vG R L (cl h, rest) (cl o) (i : Nat) = _
   rw [hq, show decide ((i : Int) < 8) = true from decide_eq_true (by omega)]
   exact A61 h hh rest o (by omega) i hi)
  [] rfl
theorem BA8 (h : List Nat) (hh : Wd 8 h) :
  vA R L (cl []) (cl h) 0 = some (ub (wE (stO h) 8 0 []), ()) ∧ (wE (stO h) 8 0 []).length = 4 * 8 :=
 yI (fun (o : List Nat) i => vA R L (cl o) (cl h) i) (stO h) (fun i o => o.length = 4 * i) 8 (fun o => some (ub o, ()))
  (fun o _ => by
   have hq : vA R L (cl o) (cl h) (8 : Nat) = _ := round (by kernel_rfl) (AJ3 R L (cl o) (cl h) (8 : Nat))
   show vA R L (cl o) (cl h) (8 : Nat) = _
   rw [hq, show decide (((8 : Nat) : Int) < 8) = false from by decide, Aa5]; rfl)
  (fun o i hi ho => by
   have hq : vA R L (cl o) (cl h) (i : Nat) = _ := round (by kernel_rfl) (AJ3 R L (cl o) (cl h) (i : Nat))
   refine ⟨?_, by rw [A9A]; omega⟩
   show vA R L (cl o) (cl h) (i : Nat) = _
   have m24 : Min.min (Int.toNat 24) (IntKind.bits .i64) = 24 := rfl
   have m16 : Min.min (Int.toNat 16) (IntKind.bits .i64) = 16 := rfl
   have m8 : Min.min (Int.toNat 8) (IntKind.bits .i64) = 8 := rfl
   rw [hq, show decide ((i : Int) < 8) = true from decide_eq_true (by omega), zB (by omega)]
   simp only [nn, tn, cond_true, yP (show i < 8 from hi), yA]
   rw [m24, m16, m8, kP, kP, kP, tS, tS, tS, tS, uB (by rw [mF]; simp only [List.length_cons, List.length_nil]; omega)]
   simp only [cond_true]
   rw [show [((h.getD i 0 / 2 ^ 24 % 256 : Nat) : Int), ((h.getD i 0 / 2 ^ 16 % 256 : Nat) : Int), ((h.getD i 0 / 2 ^ 8 % 256 : Nat) : Int), ((h.getD i 0 % 256 : Nat) : Int)] = cl (be4 (h.getD i 0)) from rfl, AO1]
   rfl)
  [] rfl
theorem Ai8 : ∀ n : Nat, Go.Lib.repeatL [(0 : UInt8)] n = ub (List.replicate n 0)
 | 0 => by simp [Go.Lib.repeatL, ub]
 | n + 1 => by
  show [(0 : UInt8)] ++ Go.Lib.repeatL [0] n = _
  rw [Ai8 n]
  unfold ub
  rw [List.replicate_succ, List.map_cons]
  rfl
theorem A13 (n : Nat) (hn : n ≤ 64) : qS R [0] (n : Int) = some (ub (List.replicate n 0), ()) := by
 have e : qS R [0] (n : Int) = Bc4 [⟨.str, [0]⟩, ⟨.int .i64, (n : Int)⟩] := A53 rfl _
 rw [e]
 show cond (decide (0 ≤ (n : Int)) && (Nat.blt 0 ([0] : List UInt8).length && Nat.ble (([0] : List UInt8).length * Int.toNat (n : Int)) 1099511627776)) (some (Go.Lib.repeatL [0] (Int.toNat (n : Int)), ())) none = _
 rw [decide_eq_true (show (0 : Int) ≤ (n : Int) by omega), tn, show Nat.blt 0 ([0] : List UInt8).length = true from rfl, show Nat.ble (([0] : List UInt8).length * n) 1099511627776 = true from by rw [Nat.ble_eq]; simp only [List.length_cons, List.length_nil]; omega, Ai8]
 rfl
def BU2 (h : List Nat) (r : List UInt8) (m : Nat) : List UInt8 := ub (wE (stO (BB9 h r (BI6 m)).1) 8 0 [])
theorem BB1 (h : List Nat) (r : List UInt8) (m : Nat) (hh : Wd 8 h) : (BU2 h r m).length = 32 := by
 unfold BU2 ub
 rw [List.length_map, (A4p _ (Aq7 (r := r) (t := BI6 m) hh).1 ([], ((0 : Int), ()))).2]
theorem A7i (h : List Nat) (r : List UInt8) (m : Nat) (hh : Wd 8 h) (hr : r.length = m % 64) (hm : m ≤ 549755813888) : AE3 R (hS h r m) = some (BU2 h r m, ()) := by
 have hq : AE3 R (hS h r m) = _ := call (A5l R L (hS h r m))
 have e8 : IntKind.wrap .i64 ((8 : Int) * (m : Int)) = ((8 * m : Nat) : Int) := by rw [zO (by omega) (by omega)]; omega
 have hp : A2e m ≤ 63 := by unfold A2e; omega
 have hpl : (BF4 m).length ≤ 64 := by unfold BF4; rw [List.length_cons, List.length_replicate]; omega
 have hT := A46 m
 rw [hq]
 show qM R L (hS h r m) (IntKind.wrap .i64 ((8 : Int) * (m : Int))) (cl (128 :: List.replicate 0 0)) = _
 rw [e8, A5A (hS h r m) _ m rfl hm (A2e m) 0 (by omega), A7h _ _ (by omega) _ hpl]
 show (mW R (hS h r m) (BI6 m)).bind _ = _
 rw [As9 h r (BI6 m) m hh (by omega) (by omega) hm]
 simp only [Option.bind_some]
 exact (A4p _ (Aq7 hh).1 _).1
theorem Be6 (h : List Nat) (r : List UInt8) (m : Nat) (hh : Wd 8 h) (hr : r.length = m % 64) (hm : m ≤ 549755813888) : eU R (hS h r m) = some (BU2 h r m, ()) := by
 have hq : eU R (hS h r m) = _ := call (A1b R L (hS h r m))
 have e8 : IntKind.wrap .i64 ((8 : Int) * (m : Int)) = ((8 * m : Nat) : Int) := by rw [zO (by omega) (by omega)]; omega
 have hp : A2e m ≤ 63 := by unfold A2e; omega
 have hpl : (BF4 m).length ≤ 64 := by unfold BF4; rw [List.length_cons, List.length_replicate]; omega
 have hT := A46 m
 have en : Int.tmod (IntKind.wrap .i64 ((119 : Int) - ((r.length : Nat) : Int))) 64 = ((A2e m : Nat) : Int) := by
  rw [show (119 : Int) - ((r.length : Nat) : Int) = ((119 - r.length : Nat) : Int) by omega, sI (by omega), show Int.tmod ((119 - r.length : Nat) : Int) 64 = (((119 - r.length) % 64 : Nat) : Int) from A6w _ 64, hr]
  rfl
 rw [hq]
 show (qS R [0] (Int.tmod (IntKind.wrap .i64 ((119 : Int) - ((r.length : Nat) : Int))) 64)).bind (fun r0 => cond (yB (1 + r0.1.length)) (xV R L (hS h r m) (IntKind.wrap .i64 ((8 : Int) * (m : Int))) ([128] ++ r0.1) 7) none) = _
 rw [en, A13 _ (by omega)]
 simp only [Option.bind_some]
 have hul : (ub (List.replicate (A2e m) 0)).length = A2e m := by unfold ub; rw [List.length_map, List.length_replicate]
 rw [uB (by omega), e8, show ([128] : List UInt8) ++ ub (List.replicate (A2e m) 0) = ub (BF4 m) from rfl]
 simp only [cond_true]
 rw [A7z _ _ (by omega) _ hpl]
 show (qI R (hS h r m) (BI6 m)).bind _ = _
 rw [BF7 h r (BI6 m) m hh (by omega) (by omega) hm]
 simp only [Option.bind_some]
 exact (BA8 _ (Aq7 hh).1).1
def dig (t : List UInt8) : List UInt8 := BU2 (BB9 hT [] t).1 (BB9 hT [] t).2 t.length
theorem A0I (t : List UInt8) : (dig t).length = 32 := BB1 _ _ _ (Aq7 BZ9).1
theorem Az8 (t : List UInt8) (ht : t.length ≤ 549755813888) : jF R t = some (dig t, ()) := by
 have hq : jF R t = _ := call (A6Q R L t)
 have hn : AM4 R = some (hS hT [] 0, ()) := call (A3l R L)
 have hw := Aq7 (r := []) (t := t) BZ9
 rw [hq, hn]
 simp only [Option.bind_some]
 rw [BF7 hT [] t 0 BZ9 (by simp) ht (by decide)]
 simp only [Option.bind_some]
 rw [Nat.zero_add, Be6 _ _ t.length hw.1 hw.2 ht]
 rfl
theorem A3c (t : List UInt8) (ht : t.length ≤ 549755813888) : eC R t = some (dig t, ()) := by
 have hq : eC R t = _ := call (A6x R L t)
 have hn0 : bX R = _ := call (A3h R L)
 have hn : bX R = some (hS hT [] 0, ()) := by rw [hn0, BR2]; rfl
 have hw := Aq7 (r := []) (t := t) BZ9
 rw [hq, hn]
 simp only [Option.bind_some]
 rw [As9 hT [] t 0 BZ9 (by simp) ht (by decide)]
 simp only [Option.bind_some]
 rw [Nat.zero_add, A7i _ _ t.length hw.1 hw.2 ht]
 rfl
end Go.Rf.S

end
