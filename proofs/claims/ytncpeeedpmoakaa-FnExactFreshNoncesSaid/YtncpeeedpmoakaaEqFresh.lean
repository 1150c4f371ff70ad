import Derived.Test.YtncpeeedpmoakaaProg
import Derived.KernelRfl
import Derived.Test.YtncpeeedpmoakaaRfC
set_option linter.unusedVariables false
set_option linter.unusedSimpArgs false
open Go Go.Rf
set_option maxRecDepth 100000
namespace Go.Rf.S
noncomputable def cfgs : List (Nat × FCfg) := [
  (46, ⟨[.ro (.pair (.int .i64) (.pair (.int .i64) (.pair (.int .i64) (.pair (.int .i64) (.pair .str (.pair .str (.pair .str .unit))))))), .ro (.int .i64)], 1, (.pair (.int .i64) .unit), .sh, [0, 1, 2, 4, 11, 18, 25], [(3, 0), (6, 0), (10, 1), (9, 0)]⟩),
  (38, ⟨[.ro (.sl .str), .ro (.int .i64)], 1, (.pair (.int .i64) .unit), .sh, [0, 1, 4, 5, 11, 15, 26], [(3, 0), (10, 1), (9, 0)]⟩),
  (71, ⟨[.ro (.pair (.int .i64) (.pair .str .unit)), .ro (.int .i64)], 1, (.pair (.int .i64) .unit), .sh, [0, 1, 2, 4, 11], [(4, 1), (3, 0)]⟩),
  (39, ⟨[.ro (.sl (.pair (.int .i64) (.pair .str .unit))), .ro (.int .i64)], 1, (.pair (.int .i64) .unit), .sh, [0, 1, 4, 5, 11, 15, 25], [(3, 0), (10, 1), (9, 0)]⟩),
  (6, ⟨[.ro (.pair (.sl .str) (.pair (.sl (.pair (.int .i64) (.pair .str .unit))) .unit)), .ro (.int .i64)], 1, (.pair (.int .i64) .unit), .sh, [0, 1, 2, 4, 10, 16], [(3, 0), (7, 1), (6, 0)]⟩),
  (15, ⟨[.ro (.pair .str (.pair (.pair (.int .i64) (.pair (.int .i64) (.pair (.int .i64) (.pair (.int .i64) (.pair .str (.pair .str (.pair .str .unit))))))) (.pair (.pair (.sl .str) (.pair (.sl (.pair (.int .i64) (.pair .str .unit))) .unit)) (.pair .bool (.pair .bool .unit))))), .ro (.int .i64)], 1, (.pair (.int .i64) .unit), .sh, [0, 1, 2, 4, 11, 17, 23], [(3, 0), (6, 0), (10, 1), (9, 0)]⟩),
  (50, ⟨[.ro (.pair (.int .i64) (.pair (.int .i64) (.pair (.int .i64) (.pair (.int .i64) (.pair .str (.pair .str (.pair .str .unit)))))))], 1, (.pair (.pair (.int .i64) (.pair (.int .i64) (.pair (.int .i64) (.pair (.int .i64) (.pair .str (.pair .str (.pair .str .unit))))))) .unit), .sh, [0, 1, 2, 3], [(9, 1)]⟩),
  (41, ⟨[.ro (.sl .str)], 1, (.pair (.sl .str) .unit), (.pr (.own .sh) .sh), [0, 2, 3, 4, 11], [(1, 2), (6, 1)]⟩),
  (73, ⟨[.ro (.pair (.int .i64) (.pair .str .unit))], 1, (.pair (.pair (.int .i64) (.pair .str .unit)) .unit), .sh, [0, 1, 2, 3], [(4, 1)]⟩),
  (42, ⟨[.ro (.sl (.pair (.int .i64) (.pair .str .unit)))], 1, (.pair (.sl (.pair (.int .i64) (.pair .str .unit))) .unit), (.pr (.own .sh) .sh), [0, 2, 3, 4, 11], [(1, 2), (6, 1)]⟩),
  (8, ⟨[.ro (.pair (.sl .str) (.pair (.sl (.pair (.int .i64) (.pair .str .unit))) .unit))], 1, (.pair (.pair (.sl .str) (.pair (.sl (.pair (.int .i64) (.pair .str .unit))) .unit)) .unit), (.pr (.pr (.own .sh) (.pr (.own .sh) .sh)) .sh), [0, 1, 2, 3], [(4, 1)]⟩),
  (17, ⟨[.ro (.pair .str (.pair (.pair (.int .i64) (.pair (.int .i64) (.pair (.int .i64) (.pair (.int .i64) (.pair .str (.pair .str (.pair .str .unit))))))) (.pair (.pair (.sl .str) (.pair (.sl (.pair (.int .i64) (.pair .str .unit))) .unit)) (.pair .bool (.pair .bool .unit)))))], 1, (.pair (.pair .str (.pair (.pair (.int .i64) (.pair (.int .i64) (.pair (.int .i64) (.pair (.int .i64) (.pair .str (.pair .str (.pair .str .unit))))))) (.pair (.pair (.sl .str) (.pair (.sl (.pair (.int .i64) (.pair .str .unit))) .unit)) (.pair .bool (.pair .bool .unit))))) .unit), (.pr (.pr .sh (.pr .sh (.pr (.pr (.own .sh) (.pr (.own .sh) .sh)) .sh))) .sh), [0, 1, 2, 3], [(7, 1)]⟩),
  (86, ⟨[.ro (.int .i64), .ro (.int .i64), .ro (.int .i64)], 1, (.pair .bool .unit), .sh, [0, 1, 2, 6], [(1, 8)]⟩),
  (80, ⟨[.ro (.pair (.int .i64) (.pair (.int .i64) (.pair (.int .i64) (.pair (.int .i64) (.pair .str (.pair .str (.pair .str .unit)))))))], 1, (.pair .bool .unit), .sh, [0, 1, 2], [(1, 56)]⟩),
  (72, ⟨[.ro (.int .i64)], 1, (.pair .bool .unit), .sh, [0, 2], [(1, 2)]⟩),
  (40, ⟨[.ro (.pair (.sl .str) (.pair (.sl (.pair (.int .i64) (.pair .str .unit))) .unit))], 1, (.pair .bool .unit), .sh, [0, 1, 2, 3, 4, 14, 19, 28, 33, 53], [(2, 0), (7, 0), (13, 0), (12, 0)]⟩),
  (47, ⟨[.ro (.pair .str (.pair (.pair (.int .i64) (.pair (.int .i64) (.pair (.int .i64) (.pair (.int .i64) (.pair .str (.pair .str (.pair .str .unit))))))) (.pair (.pair (.sl .str) (.pair (.sl (.pair (.int .i64) (.pair .str .unit))) .unit)) (.pair .bool (.pair .bool .unit)))))], 1, (.pair .bool .unit), .sh, [0, 1, 2], [(1, 30)]⟩),
  (81, ⟨[.ro (.int .i64)], 1, (.pair .str .unit), .sh, [0, 2, 3, 4, 7], [(6, 2)]⟩),
  (48, ⟨[.ro (.int .i64), .ro (.int .i64), .ro (.int .i64)], 1, (.pair .str .unit), .sh, [0, 1, 2, 6], [(1, 12)]⟩),
  (49, ⟨[.ro (.int .i64), .ro (.int .i64)], 1, (.pair (.int .i64) .unit), .sh, [0, 1, 4], [(1, 4)]⟩),
  (16, ⟨[.ro (.pair .str (.pair (.pair (.int .i64) (.pair (.int .i64) (.pair (.int .i64) (.pair (.int .i64) (.pair .str (.pair .str (.pair .str .unit))))))) (.pair (.pair (.sl .str) (.pair (.sl (.pair (.int .i64) (.pair .str .unit))) .unit)) (.pair .bool (.pair .bool .unit)))))], 2, (.pair (.sl .str) (.pair (.int .i64) .unit)), (.pr (.own .sh) .sh), [0, 1, 2, 3, 4, 5, 6, 7, 10, 25], [(2, 1), (2, 2), (10, 12), (10, 13)]⟩),
  (92, ⟨[.ro (.int .i64), .ro (.int .i64), .ro (.int .i64)], 1, (.pair .bool .unit), .sh, [0, 1, 2, 6], [(1, 8)]⟩),
  (101, ⟨[.ro .str], 1, (.pair .bool .unit), .sh, [0, 2], [(1, 3)]⟩),
  (102, ⟨[.ro (.pair (.int .i64) (.pair (.int .i64) (.pair (.int .i64) (.pair (.int .i64) (.pair .str (.pair .str (.pair .str .unit)))))))], 1, (.pair (.int .i64) .unit), .sh, [0, 1, 2], [(1, 5)]⟩),
  (82, ⟨[.ro (.pair (.int .i64) (.pair (.int .i64) (.pair (.int .i64) (.pair (.int .i64) (.pair .str (.pair .str (.pair .str .unit)))))))], 1, (.pair .bool .unit), .sh, [0, 1, 2], [(1, 51)]⟩),
  (98, ⟨[.ro .str, .ro (.ptr .fn)], 1, (.pair .bool .unit), .sh, [0, 1, 3], [(1, 4)]⟩),
  (112, ⟨[.ro (.sl .str), .ro .fn], 1, (.pair (.int .i64) .unit), .sh, [0, 1, 4, 5, 7, 8, 9, 16], [(7, 0), (5, 1)]⟩),
  (97, ⟨[.ro (.sl .str), .ro .fn], 1, (.pair .bool .unit), .sh, [0, 1, 4], [(1, 4)]⟩),
  (74, ⟨[.ro (.sl .str), .ro .fn], 1, (.pair .bool .unit), .sh, [0, 1, 3, 4], [(1, 4)]⟩),
  (75, ⟨[.ro .str], 1, (.pair .bool .unit), .sh, [0, 2], [(1, 3)]⟩),
  (100, ⟨[.ro (.pair (.int .i64) (.pair .str .unit)), .ro (.ptr .fn)], 1, (.pair .bool .unit), .sh, [0, 1, 2, 3], [(1, 4)]⟩),
  (113, ⟨[.ro (.sl (.pair (.int .i64) (.pair .str .unit))), .ro .fn], 1, (.pair (.int .i64) .unit), .sh, [0, 1, 4, 5, 7, 8, 9, 16], [(7, 0), (5, 1)]⟩),
  (99, ⟨[.ro (.sl (.pair (.int .i64) (.pair .str .unit))), .ro .fn], 1, (.pair .bool .unit), .sh, [0, 1, 4], [(1, 4)]⟩),
  (76, ⟨[.ro (.sl (.pair (.int .i64) (.pair .str .unit))), .ro .fn], 1, (.pair .bool .unit), .sh, [0, 1, 3, 4], [(1, 4)]⟩),
  (78, ⟨[.ro (.int .i64)], 1, (.pair .bool .unit), .sh, [0, 2], [(1, 2)]⟩),
  (77, ⟨[.ro (.pair (.int .i64) (.pair .str .unit))], 1, (.pair .bool .unit), .sh, [0, 1, 2], [(1, 8)]⟩),
  (43, ⟨[.ro (.pair (.sl .str) (.pair (.sl (.pair (.int .i64) (.pair .str .unit))) .unit))], 1, (.pair .bool .unit), .sh, [0, 1, 2], [(1, 20)]⟩),
  (83, ⟨[.ro (.pair (.sl .str) (.pair (.sl (.pair (.int .i64) (.pair .str .unit))) .unit))], 1, (.pair .bool .unit), .sh, [0, 1, 2], [(1, 8)]⟩),
  (51, ⟨[.ro (.pair .str (.pair (.pair (.int .i64) (.pair (.int .i64) (.pair (.int .i64) (.pair (.int .i64) (.pair .str (.pair .str (.pair .str .unit))))))) (.pair (.pair (.sl .str) (.pair (.sl (.pair (.int .i64) (.pair .str .unit))) .unit)) (.pair .bool (.pair .bool .unit)))))], 1, (.pair .bool .unit), .sh, [0, 1, 2], [(1, 23)]⟩),
  (84, ⟨[.ro (.int .i64), .ro (.int .i64)], 1, (.pair .str .unit), .sh, [0, 1, 4, 5, 6, 7, 8, 9], [(7, 2)]⟩),
  (52, ⟨[.ro (.int .i64), .ro (.int .i64), .ro (.int .i64)], 1, (.pair .str .unit), .sh, [0, 1, 2, 6], [(1, 10)]⟩),
  (53, ⟨[.ro (.int .i64)], 1, (.pair (.int .i64) .unit), .sh, [0, 2], [(1, 3)]⟩),
  (54, ⟨[.ro (.int .i64), .ro (.int .i64)], 1, (.pair (.int .i64) .unit), .sh, [0, 1, 4], [(1, 4)]⟩),
  (18, ⟨[.ro (.pair .str (.pair (.pair (.int .i64) (.pair (.int .i64) (.pair (.int .i64) (.pair (.int .i64) (.pair .str (.pair .str (.pair .str .unit))))))) (.pair (.pair (.sl .str) (.pair (.sl (.pair (.int .i64) (.pair .str .unit))) .unit)) (.pair .bool (.pair .bool .unit)))))], 2, (.pair (.sl .str) (.pair (.int .i64) .unit)), (.pr (.own .sh) .sh), [0, 1, 2, 3, 4, 5, 6, 7, 8, 11, 25, 26], [(2, 0), (2, 1), (11, 11), (11, 12)]⟩),
  (19, ⟨[.ro (.sl .str), .ro (.sl .str)], 1, (.pair .bool .unit), .sh, [0, 1, 4, 5, 10, 14, 25], [(2, 0), (8, 0), (7, 0)]⟩),
  (55, ⟨[.ro (.pair (.int .i64) (.pair (.int .i64) (.pair (.int .i64) (.pair (.int .i64) (.pair .str (.pair .str (.pair .str .unit))))))), .ro (.pair (.int .i64) (.pair (.int .i64) (.pair (.int .i64) (.pair (.int .i64) (.pair .str (.pair .str (.pair .str .unit)))))))], 1, (.pair .bool .unit), .sh, [0, 1, 2, 3, 4, 9, 14, 19, 24, 29, 34, 39], [(2, 0), (4, 0), (6, 0), (8, 0), (10, 0), (12, 0), (15, 0), (14, 0)]⟩),
  (79, ⟨[.ro (.pair (.int .i64) (.pair .str .unit)), .ro (.pair (.int .i64) (.pair .str .unit))], 1, (.pair .bool .unit), .sh, [0, 1, 2, 3, 4, 9, 14], [(2, 0), (5, 0), (4, 0)]⟩),
  (44, ⟨[.ro (.sl (.pair (.int .i64) (.pair .str .unit))), .ro (.sl (.pair (.int .i64) (.pair .str .unit)))], 1, (.pair .bool .unit), .sh, [0, 1, 4, 5, 10, 14, 26], [(2, 0), (8, 0), (7, 0)]⟩),
  (11, ⟨[.ro (.pair (.sl .str) (.pair (.sl (.pair (.int .i64) (.pair .str .unit))) .unit)), .ro (.pair (.sl .str) (.pair (.sl (.pair (.int .i64) (.pair .str .unit))) .unit))], 1, (.pair .bool .unit), .sh, [0, 1, 2, 3, 4, 10, 16], [(2, 0), (5, 0), (4, 0)]⟩),
  (20, ⟨[.ro (.pair .str (.pair (.pair (.int .i64) (.pair (.int .i64) (.pair (.int .i64) (.pair (.int .i64) (.pair .str (.pair .str (.pair .str .unit))))))) (.pair (.pair (.sl .str) (.pair (.sl (.pair (.int .i64) (.pair .str .unit))) .unit)) (.pair .bool (.pair .bool .unit))))), .ro (.pair .str (.pair (.pair (.int .i64) (.pair (.int .i64) (.pair (.int .i64) (.pair (.int .i64) (.pair .str (.pair .str (.pair .str .unit))))))) (.pair (.pair (.sl .str) (.pair (.sl (.pair (.int .i64) (.pair .str .unit))) .unit)) (.pair .bool (.pair .bool .unit)))))], 1, (.pair .bool .unit), .sh, [0, 1, 2, 3, 4, 9, 15, 21, 26, 31], [(2, 0), (4, 0), (6, 0), (8, 0), (11, 0), (10, 0)]⟩),
  (56, ⟨[.ro (.int .i64)], 1, (.pair .str .unit), .sh, [0, 2, 3, 5, 7], [(2, 0), (7, 2)]⟩),
  (22, ⟨[.io (.sl .str) (.own .sh) (.own .sh) 0 [], .ro (.int .i64)], 1, (.pair (.int .i64) (.pair (.sl .str) .unit)), (.pr .sh (.pr (.own .sh) .sh)), [0, 1, 4, 5, 9], [(6, 1)]⟩),
  (45, ⟨[.io (.sl (.pair (.int .i64) (.pair .str .unit))) (.own .sh) (.own .sh) 0 [], .ro (.int .i64)], 1, (.pair (.int .i64) (.pair (.sl (.pair (.int .i64) (.pair .str .unit))) .unit)), (.pr .sh (.pr (.own .sh) .sh)), [0, 1, 4, 5, 9], [(8, 1)]⟩),
  (12, ⟨[.io (.pair (.sl .str) (.pair (.sl (.pair (.int .i64) (.pair .str .unit))) .unit)) (.pr (.own .sh) (.pr (.own .sh) .sh)) (.pr (.own .sh) (.pr (.own .sh) .sh)) 2 [.der], .ro (.int .i64)], 1, (.pair (.int .i64) (.pair (.pair (.sl .str) (.pair (.sl (.pair (.int .i64) (.pair .str .unit))) .unit)) .unit)), (.pr .sh (.pr (.pr (.own .sh) (.pr (.own .sh) .sh)) .sh)), [0, 1, 2, 4], [(3, 1)]⟩),
  (21, ⟨[.io (.pair .str (.pair (.pair (.int .i64) (.pair (.int .i64) (.pair (.int .i64) (.pair (.int .i64) (.pair .str (.pair .str (.pair .str .unit))))))) (.pair (.pair (.sl .str) (.pair (.sl (.pair (.int .i64) (.pair .str .unit))) .unit)) (.pair .bool (.pair .bool .unit))))) (.pr .sh (.pr .sh (.pr (.pr (.own .sh) (.pr (.own .sh) .sh)) .sh))) (.pr .sh (.pr .sh (.pr (.pr (.own .sh) (.pr (.own .sh) .sh)) .sh))) 2 [.der], .ro (.int .i64)], 1, (.pair (.int .i64) (.pair (.pair .str (.pair (.pair (.int .i64) (.pair (.int .i64) (.pair (.int .i64) (.pair (.int .i64) (.pair .str (.pair .str (.pair .str .unit))))))) (.pair (.pair (.sl .str) (.pair (.sl (.pair (.int .i64) (.pair .str .unit))) .unit)) (.pair .bool (.pair .bool .unit))))) .unit)), (.pr .sh (.pr (.pr .sh (.pr .sh (.pr (.pr (.own .sh) (.pr (.own .sh) .sh)) .sh))) .sh)), [0, 1, 2, 4], [(2, 1)]⟩),
  (23, ⟨[.ro (.sl .str), .ro (.int .i64)], 1, (.pair (.int .i64) .unit), .sh, [0, 1, 4, 5, 9, 18], [(7, 1), (5, 0)]⟩),
  (4, ⟨[.ro (.pair .str (.pair (.pair (.int .i64) (.pair (.int .i64) (.pair (.int .i64) (.pair (.int .i64) (.pair .str (.pair .str (.pair .str .unit))))))) (.pair (.pair (.sl .str) (.pair (.sl (.pair (.int .i64) (.pair .str .unit))) .unit)) (.pair .bool (.pair .bool .unit)))))], 1, (.pair .bool .unit), .sh, [0, 1, 2, 3, 4, 5, 6, 7, 8, 9, 10, 11, 12, 13, 18, 40, 45, 61, 69, 72, 87, 92, 95], [(4, 0), (9, 0), (11, 0), (15, 0), (21, 0), (23, 0), (26, 0), (30, 0), (33, 0), (32, 0)]⟩)]
noncomputable def EE : Env := ⟨Go.Proofs.Try.prog, lookC cfgs⟩
/-- loop.example/g00548/laws.szRegister -/
noncomputable def c_46 (R : Run EE) (x0 : (Int × (Int × (Int × (Int × (List UInt8 × (List UInt8 × (List UInt8 × Unit)))))))) (x1 : Int) : Option ((Int × Unit)) := R 46 [⟨(.pair (.int .i64) (.pair (.int .i64) (.pair (.int .i64) (.pair (.int .i64) (.pair .str (.pair .str (.pair .str .unit))))))), x0⟩, ⟨(.int .i64), x1⟩]
/-- loop.example/g00548/laws.szStringS -/
noncomputable def c_38 (R : Run EE) (x0 : List (List UInt8)) (x1 : Int) : Option ((Int × Unit)) := R 38 [⟨(.sl .str), x0⟩, ⟨(.int .i64), x1⟩]
/-- loop.example/g00548/laws.szIo -/
noncomputable def c_71 (R : Run EE) (x0 : (Int × (List UInt8 × Unit))) (x1 : Int) : Option ((Int × Unit)) := R 71 [⟨(.pair (.int .i64) (.pair .str .unit)), x0⟩, ⟨(.int .i64), x1⟩]
/-- loop.example/g00548/laws.szIoS -/
noncomputable def c_39 (R : Run EE) (x0 : List ((Int × (List UInt8 × Unit)))) (x1 : Int) : Option ((Int × Unit)) := R 39 [⟨(.sl (.pair (.int .i64) (.pair .str .unit))), x0⟩, ⟨(.int .i64), x1⟩]
/-- loop.example/g00548/laws.szDevice -/
noncomputable def c_6 (R : Run EE) (x0 : (List (List UInt8) × (List ((Int × (List UInt8 × Unit))) × Unit))) (x1 : Int) : Option ((Int × Unit)) := R 6 [⟨(.pair (.sl .str) (.pair (.sl (.pair (.int .i64) (.pair .str .unit))) .unit)), x0⟩, ⟨(.int .i64), x1⟩]
/-- loop.example/g00548/laws.szStore -/
noncomputable def c_15 (R : Run EE) (x0 : (List UInt8 × ((Int × (Int × (Int × (Int × (List UInt8 × (List UInt8 × (List UInt8 × Unit))))))) × ((List (List UInt8) × (List ((Int × (List UInt8 × Unit))) × Unit)) × (Bool × (Bool × Unit)))))) (x1 : Int) : Option ((Int × Unit)) := R 15 [⟨(.pair .str (.pair (.pair (.int .i64) (.pair (.int .i64) (.pair (.int .i64) (.pair (.int .i64) (.pair .str (.pair .str (.pair .str .unit))))))) (.pair (.pair (.sl .str) (.pair (.sl (.pair (.int .i64) (.pair .str .unit))) .unit)) (.pair .bool (.pair .bool .unit))))), x0⟩, ⟨(.int .i64), x1⟩]
/-- loop.example/g00548/laws.toRegister -/
noncomputable def c_50 (R : Run EE) (x0 : (Int × (Int × (Int × (Int × (List UInt8 × (List UInt8 × (List UInt8 × Unit)))))))) : Option (((Int × (Int × (Int × (Int × (List UInt8 × (List UInt8 × (List UInt8 × Unit))))))) × Unit)) := R 50 [⟨(.pair (.int .i64) (.pair (.int .i64) (.pair (.int .i64) (.pair (.int .i64) (.pair .str (.pair .str (.pair .str .unit))))))), x0⟩]
/-- loop.example/g00548/laws.toStringS -/
noncomputable def c_41 (R : Run EE) (x0 : List (List UInt8)) : Option ((List (List UInt8) × Unit)) := R 41 [⟨(.sl .str), x0⟩]
/-- loop.example/g00548/laws.toIo -/
noncomputable def c_73 (R : Run EE) (x0 : (Int × (List UInt8 × Unit))) : Option (((Int × (List UInt8 × Unit)) × Unit)) := R 73 [⟨(.pair (.int .i64) (.pair .str .unit)), x0⟩]
/-- loop.example/g00548/laws.toIoS -/
noncomputable def c_42 (R : Run EE) (x0 : List ((Int × (List UInt8 × Unit)))) : Option ((List ((Int × (List UInt8 × Unit))) × Unit)) := R 42 [⟨(.sl (.pair (.int .i64) (.pair .str .unit))), x0⟩]
/-- loop.example/g00548/laws.toDevice -/
noncomputable def c_8 (R : Run EE) (x0 : (List (List UInt8) × (List ((Int × (List UInt8 × Unit))) × Unit))) : Option (((List (List UInt8) × (List ((Int × (List UInt8 × Unit))) × Unit)) × Unit)) := R 8 [⟨(.pair (.sl .str) (.pair (.sl (.pair (.int .i64) (.pair .str .unit))) .unit)), x0⟩]
/-- loop.example/g00548/laws.toStore -/
noncomputable def c_17 (R : Run EE) (x0 : (List UInt8 × ((Int × (Int × (Int × (Int × (List UInt8 × (List UInt8 × (List UInt8 × Unit))))))) × ((List (List UInt8) × (List ((Int × (List UInt8 × Unit))) × Unit)) × (Bool × (Bool × Unit)))))) : Option (((List UInt8 × ((Int × (Int × (Int × (Int × (List UInt8 × (List UInt8 × (List UInt8 × Unit))))))) × ((List (List UInt8) × (List ((Int × (List UInt8 × Unit))) × Unit)) × (Bool × (Bool × Unit))))) × Unit)) := R 17 [⟨(.pair .str (.pair (.pair (.int .i64) (.pair (.int .i64) (.pair (.int .i64) (.pair (.int .i64) (.pair .str (.pair .str (.pair .str .unit))))))) (.pair (.pair (.sl .str) (.pair (.sl (.pair (.int .i64) (.pair .str .unit))) .unit)) (.pair .bool (.pair .bool .unit))))), x0⟩]
/-- loop.example/g00548/spec.l01In -/
noncomputable def c_86 (R : Run EE) (x0 : Int) (x1 : Int) (x2 : Int) : Option ((Bool × Unit)) := R 86 [⟨(.int .i64), x0⟩, ⟨(.int .i64), x1⟩, ⟨(.int .i64), x2⟩]
/-- loop.example/g00548/spec.RegisterOK -/
noncomputable def c_80 (R : Run EE) (x0 : (Int × (Int × (Int × (Int × (List UInt8 × (List UInt8 × (List UInt8 × Unit)))))))) : Option ((Bool × Unit)) := R 80 [⟨(.pair (.int .i64) (.pair (.int .i64) (.pair (.int .i64) (.pair (.int .i64) (.pair .str (.pair .str (.pair .str .unit))))))), x0⟩]
/-- loop.example/g00548/spec.l05In -/
noncomputable def c_72 (R : Run EE) (x0 : Int) : Option ((Bool × Unit)) := R 72 [⟨(.int .i64), x0⟩]
/-- loop.example/g00548/spec.DeviceOK -/
noncomputable def c_40 (R : Run EE) (x0 : (List (List UInt8) × (List ((Int × (List UInt8 × Unit))) × Unit))) : Option ((Bool × Unit)) := R 40 [⟨(.pair (.sl .str) (.pair (.sl (.pair (.int .i64) (.pair .str .unit))) .unit)), x0⟩]
/-- loop.example/g00548/spec.StoreOK -/
noncomputable def c_47 (R : Run EE) (x0 : (List UInt8 × ((Int × (Int × (Int × (Int × (List UInt8 × (List UInt8 × (List UInt8 × Unit))))))) × ((List (List UInt8) × (List ((Int × (List UInt8 × Unit))) × Unit)) × (Bool × (Bool × Unit)))))) : Option ((Bool × Unit)) := R 47 [⟨(.pair .str (.pair (.pair (.int .i64) (.pair (.int .i64) (.pair (.int .i64) (.pair (.int .i64) (.pair .str (.pair .str (.pair .str .unit))))))) (.pair (.pair (.sl .str) (.pair (.sl (.pair (.int .i64) (.pair .str .unit))) .unit)) (.pair .bool (.pair .bool .unit))))), x0⟩]
/-- loop.example/g00548/spec.l04Eight -/
noncomputable def c_81 (R : Run EE) (x0 : Int) : Option ((List UInt8 × Unit)) := R 81 [⟨(.int .i64), x0⟩]
/-- loop.example/g00548/spec.l06Nonce -/
noncomputable def c_48 (R : Run EE) (x0 : Int) (x1 : Int) (x2 : Int) : Option ((List UInt8 × Unit)) := R 48 [⟨(.int .i64), x0⟩, ⟨(.int .i64), x1⟩, ⟨(.int .i64), x2⟩]
/-- loop.example/g00548/spec.l13Number -/
noncomputable def c_49 (R : Run EE) (x0 : Int) (x1 : Int) : Option ((Int × Unit)) := R 49 [⟨(.int .i64), x0⟩, ⟨(.int .i64), x1⟩]
/-- loop.example/g00548/spec.FreshNonces -/
noncomputable def c_16 (R : Run EE) (x0 : (List UInt8 × ((Int × (Int × (Int × (Int × (List UInt8 × (List UInt8 × (List UInt8 × Unit))))))) × ((List (List UInt8) × (List ((Int × (List UInt8 × Unit))) × Unit)) × (Bool × (Bool × Unit)))))) : Option ((List (List UInt8) × (Int × Unit))) := R 16 [⟨(.pair .str (.pair (.pair (.int .i64) (.pair (.int .i64) (.pair (.int .i64) (.pair (.int .i64) (.pair .str (.pair .str (.pair .str .unit))))))) (.pair (.pair (.sl .str) (.pair (.sl (.pair (.int .i64) (.pair .str .unit))) .unit)) (.pair .bool (.pair .bool .unit))))), x0⟩]
/-- loop.example/g00548/impl.within -/
noncomputable def c_92 (R : Run EE) (x0 : Int) (x1 : Int) (x2 : Int) : Option ((Bool × Unit)) := R 92 [⟨(.int .i64), x0⟩, ⟨(.int .i64), x1⟩, ⟨(.int .i64), x2⟩]
/-- loop.example/g00548/impl.isDigest -/
noncomputable def c_101 (R : Run EE) (x0 : List UInt8) : Option ((Bool × Unit)) := R 101 [⟨.str, x0⟩]
/-- (loop.example/g00548/impl.Register).waiting -/
noncomputable def c_102 (R : Run EE) (x0 : (Int × (Int × (Int × (Int × (List UInt8 × (List UInt8 × (List UInt8 × Unit)))))))) : Option ((Int × Unit)) := R 102 [⟨(.pair (.int .i64) (.pair (.int .i64) (.pair (.int .i64) (.pair (.int .i64) (.pair .str (.pair .str (.pair .str .unit))))))), x0⟩]
/-- loop.example/g00548/impl.RegisterOK -/
noncomputable def c_82 (R : Run EE) (x0 : (Int × (Int × (Int × (Int × (List UInt8 × (List UInt8 × (List UInt8 × Unit)))))))) : Option ((Bool × Unit)) := R 82 [⟨(.pair (.int .i64) (.pair (.int .i64) (.pair (.int .i64) (.pair (.int .i64) (.pair .str (.pair .str (.pair .str .unit))))))), x0⟩]
/-- loop.example/g00548/impl.areAll[string]$1 -/
noncomputable def c_98 (R : Run EE) (x0 : List UInt8) (x1 : FnVal) : Option ((Bool × Unit)) := R 98 [⟨.str, x0⟩, ⟨(.ptr .fn), x1⟩]
/-- slices.IndexFunc[[]string,string] -/
noncomputable def c_112 (R : Run EE) (x0 : List (List UInt8)) (x1 : FnVal) : Option ((Int × Unit)) := R 112 [⟨(.sl .str), x0⟩, ⟨.fn, x1⟩]
/-- slices.ContainsFunc[[]string,string] -/
noncomputable def c_97 (R : Run EE) (x0 : List (List UInt8)) (x1 : FnVal) : Option ((Bool × Unit)) := R 97 [⟨(.sl .str), x0⟩, ⟨.fn, x1⟩]
/-- loop.example/g00548/impl.areAll[string] -/
noncomputable def c_74 (R : Run EE) (x0 : List (List UInt8)) (x1 : FnVal) : Option ((Bool × Unit)) := R 74 [⟨(.sl .str), x0⟩, ⟨.fn, x1⟩]
/-- loop.example/g00548/impl.isContent -/
noncomputable def c_75 (R : Run EE) (x0 : List UInt8) : Option ((Bool × Unit)) := R 75 [⟨.str, x0⟩]
/-- loop.example/g00548/impl.areAll[loop.example/g00548/impl.Io]$1 -/
noncomputable def c_100 (R : Run EE) (x0 : (Int × (List UInt8 × Unit))) (x1 : FnVal) : Option ((Bool × Unit)) := R 100 [⟨(.pair (.int .i64) (.pair .str .unit)), x0⟩, ⟨(.ptr .fn), x1⟩]
/-- slices.IndexFunc[[]loop.example/g00548/impl.Io,loop.example/g00548/impl.Io] -/
noncomputable def c_113 (R : Run EE) (x0 : List ((Int × (List UInt8 × Unit)))) (x1 : FnVal) : Option ((Int × Unit)) := R 113 [⟨(.sl (.pair (.int .i64) (.pair .str .unit))), x0⟩, ⟨.fn, x1⟩]
/-- slices.ContainsFunc[[]loop.example/g00548/impl.Io,loop.example/g00548/impl.Io] -/
noncomputable def c_99 (R : Run EE) (x0 : List ((Int × (List UInt8 × Unit)))) (x1 : FnVal) : Option ((Bool × Unit)) := R 99 [⟨(.sl (.pair (.int .i64) (.pair .str .unit))), x0⟩, ⟨.fn, x1⟩]
/-- loop.example/g00548/impl.areAll[loop.example/g00548/impl.Io] -/
noncomputable def c_76 (R : Run EE) (x0 : List ((Int × (List UInt8 × Unit)))) (x1 : FnVal) : Option ((Bool × Unit)) := R 76 [⟨(.sl (.pair (.int .i64) (.pair .str .unit))), x0⟩, ⟨.fn, x1⟩]
/-- loop.example/g00548/impl.isSector -/
noncomputable def c_78 (R : Run EE) (x0 : Int) : Option ((Bool × Unit)) := R 78 [⟨(.int .i64), x0⟩]
/-- loop.example/g00548/impl.DeviceOK$1 -/
noncomputable def c_77 (R : Run EE) (x0 : (Int × (List UInt8 × Unit))) : Option ((Bool × Unit)) := R 77 [⟨(.pair (.int .i64) (.pair .str .unit)), x0⟩]
/-- loop.example/g00548/impl.DeviceOK -/
noncomputable def c_43 (R : Run EE) (x0 : (List (List UInt8) × (List ((Int × (List UInt8 × Unit))) × Unit))) : Option ((Bool × Unit)) := R 43 [⟨(.pair (.sl .str) (.pair (.sl (.pair (.int .i64) (.pair .str .unit))) .unit)), x0⟩]
/-- loop.example/g00548/impl.isSure -/
noncomputable def c_83 (R : Run EE) (x0 : (List (List UInt8) × (List ((Int × (List UInt8 × Unit))) × Unit))) : Option ((Bool × Unit)) := R 83 [⟨(.pair (.sl .str) (.pair (.sl (.pair (.int .i64) (.pair .str .unit))) .unit)), x0⟩]
/-- loop.example/g00548/impl.StoreOK -/
noncomputable def c_51 (R : Run EE) (x0 : (List UInt8 × ((Int × (Int × (Int × (Int × (List UInt8 × (List UInt8 × (List UInt8 × Unit))))))) × ((List (List UInt8) × (List ((Int × (List UInt8 × Unit))) × Unit)) × (Bool × (Bool × Unit)))))) : Option ((Bool × Unit)) := R 51 [⟨(.pair .str (.pair (.pair (.int .i64) (.pair (.int .i64) (.pair (.int .i64) (.pair (.int .i64) (.pair .str (.pair .str (.pair .str .unit))))))) (.pair (.pair (.sl .str) (.pair (.sl (.pair (.int .i64) (.pair .str .unit))) .unit)) (.pair .bool (.pair .bool .unit))))), x0⟩]
/-- loop.example/g00548/impl.little -/
noncomputable def c_84 (R : Run EE) (x0 : Int) (x1 : Int) : Option ((List UInt8 × Unit)) := R 84 [⟨(.int .i64), x0⟩, ⟨(.int .i64), x1⟩]
/-- loop.example/g00548/impl.nonceOf -/
noncomputable def c_52 (R : Run EE) (x0 : Int) (x1 : Int) (x2 : Int) : Option ((List UInt8 × Unit)) := R 52 [⟨(.int .i64), x0⟩, ⟨(.int .i64), x1⟩, ⟨(.int .i64), x2⟩]
/-- loop.example/g00548/impl.entrySector -/
noncomputable def c_53 (R : Run EE) (x0 : Int) : Option ((Int × Unit)) := R 53 [⟨(.int .i64), x0⟩]
/-- loop.example/g00548/impl.logEpoch -/
noncomputable def c_54 (R : Run EE) (x0 : Int) (x1 : Int) : Option ((Int × Unit)) := R 54 [⟨(.int .i64), x0⟩, ⟨(.int .i64), x1⟩]
/-- loop.example/g00548/impl.FreshNonces -/
noncomputable def c_18 (R : Run EE) (x0 : (List UInt8 × ((Int × (Int × (Int × (Int × (List UInt8 × (List UInt8 × (List UInt8 × Unit))))))) × ((List (List UInt8) × (List ((Int × (List UInt8 × Unit))) × Unit)) × (Bool × (Bool × Unit)))))) : Option ((List (List UInt8) × (Int × Unit))) := R 18 [⟨(.pair .str (.pair (.pair (.int .i64) (.pair (.int .i64) (.pair (.int .i64) (.pair (.int .i64) (.pair .str (.pair .str (.pair .str .unit))))))) (.pair (.pair (.sl .str) (.pair (.sl (.pair (.int .i64) (.pair .str .unit))) .unit)) (.pair .bool (.pair .bool .unit))))), x0⟩]
/-- loop.example/g00548/laws.eqStringS -/
noncomputable def c_19 (R : Run EE) (x0 : List (List UInt8)) (x1 : List (List UInt8)) : Option ((Bool × Unit)) := R 19 [⟨(.sl .str), x0⟩, ⟨(.sl .str), x1⟩]
/-- loop.example/g00548/laws.eqRegister -/
noncomputable def c_55 (R : Run EE) (x0 : (Int × (Int × (Int × (Int × (List UInt8 × (List UInt8 × (List UInt8 × Unit)))))))) (x1 : (Int × (Int × (Int × (Int × (List UInt8 × (List UInt8 × (List UInt8 × Unit)))))))) : Option ((Bool × Unit)) := R 55 [⟨(.pair (.int .i64) (.pair (.int .i64) (.pair (.int .i64) (.pair (.int .i64) (.pair .str (.pair .str (.pair .str .unit))))))), x0⟩, ⟨(.pair (.int .i64) (.pair (.int .i64) (.pair (.int .i64) (.pair (.int .i64) (.pair .str (.pair .str (.pair .str .unit))))))), x1⟩]
/-- loop.example/g00548/laws.eqIo -/
noncomputable def c_79 (R : Run EE) (x0 : (Int × (List UInt8 × Unit))) (x1 : (Int × (List UInt8 × Unit))) : Option ((Bool × Unit)) := R 79 [⟨(.pair (.int .i64) (.pair .str .unit)), x0⟩, ⟨(.pair (.int .i64) (.pair .str .unit)), x1⟩]
/-- loop.example/g00548/laws.eqIoS -/
noncomputable def c_44 (R : Run EE) (x0 : List ((Int × (List UInt8 × Unit)))) (x1 : List ((Int × (List UInt8 × Unit)))) : Option ((Bool × Unit)) := R 44 [⟨(.sl (.pair (.int .i64) (.pair .str .unit))), x0⟩, ⟨(.sl (.pair (.int .i64) (.pair .str .unit))), x1⟩]
/-- loop.example/g00548/laws.eqDevice -/
noncomputable def c_11 (R : Run EE) (x0 : (List (List UInt8) × (List ((Int × (List UInt8 × Unit))) × Unit))) (x1 : (List (List UInt8) × (List ((Int × (List UInt8 × Unit))) × Unit))) : Option ((Bool × Unit)) := R 11 [⟨(.pair (.sl .str) (.pair (.sl (.pair (.int .i64) (.pair .str .unit))) .unit)), x0⟩, ⟨(.pair (.sl .str) (.pair (.sl (.pair (.int .i64) (.pair .str .unit))) .unit)), x1⟩]
/-- loop.example/g00548/laws.eqStore -/
noncomputable def c_20 (R : Run EE) (x0 : (List UInt8 × ((Int × (Int × (Int × (Int × (List UInt8 × (List UInt8 × (List UInt8 × Unit))))))) × ((List (List UInt8) × (List ((Int × (List UInt8 × Unit))) × Unit)) × (Bool × (Bool × Unit)))))) (x1 : (List UInt8 × ((Int × (Int × (Int × (Int × (List UInt8 × (List UInt8 × (List UInt8 × Unit))))))) × ((List (List UInt8) × (List ((Int × (List UInt8 × Unit))) × Unit)) × (Bool × (Bool × Unit)))))) : Option ((Bool × Unit)) := R 20 [⟨(.pair .str (.pair (.pair (.int .i64) (.pair (.int .i64) (.pair (.int .i64) (.pair (.int .i64) (.pair .str (.pair .str (.pair .str .unit))))))) (.pair (.pair (.sl .str) (.pair (.sl (.pair (.int .i64) (.pair .str .unit))) .unit)) (.pair .bool (.pair .bool .unit))))), x0⟩, ⟨(.pair .str (.pair (.pair (.int .i64) (.pair (.int .i64) (.pair (.int .i64) (.pair (.int .i64) (.pair .str (.pair .str (.pair .str .unit))))))) (.pair (.pair (.sl .str) (.pair (.sl (.pair (.int .i64) (.pair .str .unit))) .unit)) (.pair .bool (.pair .bool .unit))))), x1⟩]
/-- loop.example/g00548/laws.markText -/
noncomputable def c_56 (R : Run EE) (x0 : Int) : Option ((List UInt8 × Unit)) := R 56 [⟨(.int .i64), x0⟩]
/-- loop.example/g00548/laws.markStringS -/
noncomputable def c_22 (R : Run EE) (x0 : List (List UInt8)) (x1 : Int) : Option ((Int × (List (List UInt8) × Unit))) := R 22 [⟨(.sl .str), x0⟩, ⟨(.int .i64), x1⟩]
/-- loop.example/g00548/laws.markIoS -/
noncomputable def c_45 (R : Run EE) (x0 : List ((Int × (List UInt8 × Unit)))) (x1 : Int) : Option ((Int × (List ((Int × (List UInt8 × Unit))) × Unit))) := R 45 [⟨(.sl (.pair (.int .i64) (.pair .str .unit))), x0⟩, ⟨(.int .i64), x1⟩]
/-- loop.example/g00548/laws.markDevice -/
noncomputable def c_12 (R : Run EE) (x0 : (List (List UInt8) × (List ((Int × (List UInt8 × Unit))) × Unit))) (x1 : Int) : Option ((Int × ((List (List UInt8) × (List ((Int × (List UInt8 × Unit))) × Unit)) × Unit))) := R 12 [⟨(.pair (.sl .str) (.pair (.sl (.pair (.int .i64) (.pair .str .unit))) .unit)), x0⟩, ⟨(.int .i64), x1⟩]
/-- loop.example/g00548/laws.markStore -/
noncomputable def c_21 (R : Run EE) (x0 : (List UInt8 × ((Int × (Int × (Int × (Int × (List UInt8 × (List UInt8 × (List UInt8 × Unit))))))) × ((List (List UInt8) × (List ((Int × (List UInt8 × Unit))) × Unit)) × (Bool × (Bool × Unit)))))) (x1 : Int) : Option ((Int × ((List UInt8 × ((Int × (Int × (Int × (Int × (List UInt8 × (List UInt8 × (List UInt8 × Unit))))))) × ((List (List UInt8) × (List ((Int × (List UInt8 × Unit))) × Unit)) × (Bool × (Bool × Unit))))) × Unit))) := R 21 [⟨(.pair .str (.pair (.pair (.int .i64) (.pair (.int .i64) (.pair (.int .i64) (.pair (.int .i64) (.pair .str (.pair .str (.pair .str .unit))))))) (.pair (.pair (.sl .str) (.pair (.sl (.pair (.int .i64) (.pair .str .unit))) .unit)) (.pair .bool (.pair .bool .unit))))), x0⟩, ⟨(.int .i64), x1⟩]
/-- loop.example/g00548/laws.heldStringS -/
noncomputable def c_23 (R : Run EE) (x0 : List (List UInt8)) (x1 : Int) : Option ((Int × Unit)) := R 23 [⟨(.sl .str), x0⟩, ⟨(.int .i64), x1⟩]
/-- loop.example/g00548/laws.FnExactFreshNonces -/
noncomputable def c_4 (R : Run EE) (x0 : (List UInt8 × ((Int × (Int × (Int × (Int × (List UInt8 × (List UInt8 × (List UInt8 × Unit))))))) × ((List (List UInt8) × (List ((Int × (List UInt8 × Unit))) × Unit)) × (Bool × (Bool × Unit)))))) : Option ((Bool × Unit)) := R 4 [⟨(.pair .str (.pair (.pair (.int .i64) (.pair (.int .i64) (.pair (.int .i64) (.pair (.int .i64) (.pair .str (.pair .str (.pair .str .unit))))))) (.pair (.pair (.sl .str) (.pair (.sl (.pair (.int .i64) (.pair .str .unit))) .unit)) (.pair .bool (.pair .bool .unit))))), x0⟩]

noncomputable def lp_38_0 (R : Run EE) (L : Loops) (v0 : List (List UInt8)) (v1 : Int) (v4 : Int) (v5 : Int) : Option ((Int × Unit)) := from_ EE R L 38 Go.Proofs.Try.f38 [1, 1, 1, 0, 1, 0] (mk 28 [(0, .dat ⟨(.sl .str), v0, .sh⟩), (1, .dat ⟨(.int .i64), v1, .sh⟩), (4, .dat ⟨(.int .i64), v4, .sh⟩), (5, .dat ⟨(.int .i64), v5, .sh⟩)])
noncomputable def lp_39_0 (R : Run EE) (L : Loops) (v0 : List ((Int × (List UInt8 × Unit)))) (v1 : Int) (v4 : Int) (v5 : Int) : Option ((Int × Unit)) := from_ EE R L 39 Go.Proofs.Try.f39 [1, 1, 1, 0, 1, 0] (mk 27 [(0, .dat ⟨(.sl (.pair (.int .i64) (.pair .str .unit))), v0, .sh⟩), (1, .dat ⟨(.int .i64), v1, .sh⟩), (4, .dat ⟨(.int .i64), v4, .sh⟩), (5, .dat ⟨(.int .i64), v5, .sh⟩)])
noncomputable def lp_41_0 (R : Run EE) (L : Loops) (v0 : List (List UInt8)) (v2 : List (List UInt8)) (v3 : List (List UInt8)) (v4 : Int) : Option ((List (List UInt8) × Unit)) := from_ EE R L 41 Go.Proofs.Try.f41 [1, 1, 0, 1, 0] (mk 22 [(0, .dat ⟨(.sl .str), v0, .sh⟩), (2, .dat ⟨(.sl .str), v2, (.own .sh)⟩), (3, .dat ⟨(.sl .str), v3, (.own .sh)⟩), (4, .dat ⟨(.int .i64), v4, .sh⟩)])
noncomputable def lp_42_0 (R : Run EE) (L : Loops) (v0 : List ((Int × (List UInt8 × Unit)))) (v2 : List ((Int × (List UInt8 × Unit)))) (v3 : List ((Int × (List UInt8 × Unit)))) (v4 : Int) : Option ((List ((Int × (List UInt8 × Unit))) × Unit)) := from_ EE R L 42 Go.Proofs.Try.f42 [1, 1, 0, 1, 0] (mk 23 [(0, .dat ⟨(.sl (.pair (.int .i64) (.pair .str .unit))), v0, .sh⟩), (2, .dat ⟨(.sl (.pair (.int .i64) (.pair .str .unit))), v2, (.own .sh)⟩), (3, .dat ⟨(.sl (.pair (.int .i64) (.pair .str .unit))), v3, (.own .sh)⟩), (4, .dat ⟨(.int .i64), v4, .sh⟩)])
noncomputable def lp_40_0 (R : Run EE) (L : Loops) (v0 : (List (List UInt8) × (List ((Int × (List UInt8 × Unit))) × Unit))) (v1 : (List (List UInt8) × (List ((Int × (List UInt8 × Unit))) × Unit))) (v2 : Bool) (v3 : Int) : Option ((Bool × Unit)) := from_ EE R L 40 Go.Proofs.Try.f40 [1, 1, 0, 1, 0] (mk 54 [(0, .dat ⟨(.pair (.sl .str) (.pair (.sl (.pair (.int .i64) (.pair .str .unit))) .unit)), v0, .sh⟩), (1, .dat ⟨(.ptr (.pair (.sl .str) (.pair (.sl (.pair (.int .i64) (.pair .str .unit))) .unit))), v1, (.own .sh)⟩), (2, .dat ⟨.bool, v2, .sh⟩), (3, .dat ⟨(.int .i64), v3, .sh⟩)])
noncomputable def lp_40_1 (R : Run EE) (L : Loops) (v0 : (List (List UInt8) × (List ((Int × (List UInt8 × Unit))) × Unit))) (v1 : (List (List UInt8) × (List ((Int × (List UInt8 × Unit))) × Unit))) (v2 : Bool) (v3 : Int) (v4 : Int) : Option ((Bool × Unit)) := from_ EE R L 40 Go.Proofs.Try.f40 [1, 1, 1, 0, 1, 0] (mk 54 [(0, .dat ⟨(.pair (.sl .str) (.pair (.sl (.pair (.int .i64) (.pair .str .unit))) .unit)), v0, .sh⟩), (1, .dat ⟨(.ptr (.pair (.sl .str) (.pair (.sl (.pair (.int .i64) (.pair .str .unit))) .unit))), v1, (.own .sh)⟩), (2, .dat ⟨.bool, v2, .sh⟩), (3, .dat ⟨(.int .i64), v3, .sh⟩), (4, .dat ⟨(.int .i64), v4, .sh⟩)])
noncomputable def lp_81_0 (R : Run EE) (L : Loops) (v0 : Int) (v2 : List UInt8) (v3 : List (Int)) (v4 : Int) : Option ((List UInt8 × Unit)) := from_ EE R L 81 Go.Proofs.Try.f81 [1, 1, 0, 1, 0] (mk 20 [(0, .dat ⟨(.int .i64), v0, .sh⟩), (2, .dat ⟨.str, v2, .sh⟩), (3, .dat ⟨(.sl (.int .u8)), v3, (.own .sh)⟩), (4, .dat ⟨(.int .i64), v4, .sh⟩)])
noncomputable def lp_16_0 (R : Run EE) (L : Loops) (v0 : (List UInt8 × ((Int × (Int × (Int × (Int × (List UInt8 × (List UInt8 × (List UInt8 × Unit))))))) × ((List (List UInt8) × (List ((Int × (List UInt8 × Unit))) × Unit)) × (Bool × (Bool × Unit)))))) (v1 : (List UInt8 × ((Int × (Int × (Int × (Int × (List UInt8 × (List UInt8 × (List UInt8 × Unit))))))) × ((List (List UInt8) × (List ((Int × (List UInt8 × Unit))) × Unit)) × (Bool × (Bool × Unit)))))) (v2 : List (List UInt8)) (v3 : Int) (v4 : Int) (v5 : List (List UInt8)) (v6 : Int) : Option ((List (List UInt8) × (Int × Unit))) := from_ EE R L 16 Go.Proofs.Try.f16 [1, 1, 1, 1, 0, 1, 0] (mk 56 [(0, .dat ⟨(.pair .str (.pair (.pair (.int .i64) (.pair (.int .i64) (.pair (.int .i64) (.pair (.int .i64) (.pair .str (.pair .str (.pair .str .unit))))))) (.pair (.pair (.sl .str) (.pair (.sl (.pair (.int .i64) (.pair .str .unit))) .unit)) (.pair .bool (.pair .bool .unit))))), v0, .sh⟩), (1, .dat ⟨(.ptr (.pair .str (.pair (.pair (.int .i64) (.pair (.int .i64) (.pair (.int .i64) (.pair (.int .i64) (.pair .str (.pair .str (.pair .str .unit))))))) (.pair (.pair (.sl .str) (.pair (.sl (.pair (.int .i64) (.pair .str .unit))) .unit)) (.pair .bool (.pair .bool .unit)))))), v1, (.own .sh)⟩), (2, .dat ⟨(.sl .str), v2, (.own .sh)⟩), (3, .dat ⟨(.int .i64), v3, .sh⟩), (4, .dat ⟨(.int .i64), v4, .sh⟩), (5, .dat ⟨(.sl .str), v5, (.own .sh)⟩), (6, .dat ⟨(.int .i64), v6, .sh⟩)])
noncomputable def lp_112_0 (R : Run EE) (L : Loops) (v0 : List (List UInt8)) (v1 : FnVal) (v4 : Int) (v7 : Int) (v8 : Int) : Option ((Int × Unit)) := from_ EE R L 112 Go.Proofs.Try.f112 [1, 0, 1, 0] (mk 19 [(0, .dat ⟨(.sl .str), v0, .sh⟩), (1, .dat ⟨.fn, v1, .sh⟩), (4, .dat ⟨(.int .i64), v4, .sh⟩), (7, .dat ⟨(.int .i64), v7, .sh⟩), (8, .dat ⟨(.int .i64), v8, .sh⟩)])
noncomputable def lp_112_1 (R : Run EE) (L : Loops) (v0 : List (List UInt8)) (v1 : FnVal) (v4 : Int) (v5 : Int) (v7 : Int) (v8 : Int) : Option ((Int × Unit)) := from_ EE R L 112 Go.Proofs.Try.f112 [1, 0, 1, 0] (mk 19 [(0, .dat ⟨(.sl .str), v0, .sh⟩), (1, .dat ⟨.fn, v1, .sh⟩), (4, .dat ⟨(.int .i64), v4, .sh⟩), (5, .dat ⟨(.int .i64), v5, .sh⟩), (7, .dat ⟨(.int .i64), v7, .sh⟩), (8, .dat ⟨(.int .i64), v8, .sh⟩)])
noncomputable def lp_113_0 (R : Run EE) (L : Loops) (v0 : List ((Int × (List UInt8 × Unit)))) (v1 : FnVal) (v4 : Int) (v7 : Int) (v8 : Int) : Option ((Int × Unit)) := from_ EE R L 113 Go.Proofs.Try.f113 [1, 0, 1, 0] (mk 19 [(0, .dat ⟨(.sl (.pair (.int .i64) (.pair .str .unit))), v0, .sh⟩), (1, .dat ⟨.fn, v1, .sh⟩), (4, .dat ⟨(.int .i64), v4, .sh⟩), (7, .dat ⟨(.int .i64), v7, .sh⟩), (8, .dat ⟨(.int .i64), v8, .sh⟩)])
noncomputable def lp_113_1 (R : Run EE) (L : Loops) (v0 : List ((Int × (List UInt8 × Unit)))) (v1 : FnVal) (v4 : Int) (v5 : Int) (v7 : Int) (v8 : Int) : Option ((Int × Unit)) := from_ EE R L 113 Go.Proofs.Try.f113 [1, 0, 1, 0] (mk 19 [(0, .dat ⟨(.sl (.pair (.int .i64) (.pair .str .unit))), v0, .sh⟩), (1, .dat ⟨.fn, v1, .sh⟩), (4, .dat ⟨(.int .i64), v4, .sh⟩), (5, .dat ⟨(.int .i64), v5, .sh⟩), (7, .dat ⟨(.int .i64), v7, .sh⟩), (8, .dat ⟨(.int .i64), v8, .sh⟩)])
noncomputable def lp_84_0 (R : Run EE) (L : Loops) (v0 : Int) (v1 : Int) (v4 : List UInt8) (v5 : List (Int)) (v7 : Int) (v8 : Int) : Option ((List UInt8 × Unit)) := from_ EE R L 84 Go.Proofs.Try.f84 [1, 1, 0, 1, 0] (mk 22 [(0, .dat ⟨(.int .i64), v0, .sh⟩), (1, .dat ⟨(.int .i64), v1, .sh⟩), (4, .dat ⟨.str, v4, .sh⟩), (5, .dat ⟨(.sl (.int .u8)), v5, (.own .sh)⟩), (7, .dat ⟨(.int .i64), v7, .sh⟩), (8, .dat ⟨(.int .i64), v8, .sh⟩)])
noncomputable def lp_84_1 (R : Run EE) (L : Loops) (v0 : Int) (v1 : Int) (v4 : List UInt8) (v5 : List (Int)) (v6 : Int) (v7 : Int) (v8 : Int) : Option ((List UInt8 × Unit)) := from_ EE R L 84 Go.Proofs.Try.f84 [1, 1, 0, 1, 0] (mk 22 [(0, .dat ⟨(.int .i64), v0, .sh⟩), (1, .dat ⟨(.int .i64), v1, .sh⟩), (4, .dat ⟨.str, v4, .sh⟩), (5, .dat ⟨(.sl (.int .u8)), v5, (.own .sh)⟩), (6, .dat ⟨(.int .i64), v6, .sh⟩), (7, .dat ⟨(.int .i64), v7, .sh⟩), (8, .dat ⟨(.int .i64), v8, .sh⟩)])
noncomputable def lp_18_0 (R : Run EE) (L : Loops) (v0 : (List UInt8 × ((Int × (Int × (Int × (Int × (List UInt8 × (List UInt8 × (List UInt8 × Unit))))))) × ((List (List UInt8) × (List ((Int × (List UInt8 × Unit))) × Unit)) × (Bool × (Bool × Unit)))))) (v1 : (List UInt8 × ((Int × (Int × (Int × (Int × (List UInt8 × (List UInt8 × (List UInt8 × Unit))))))) × ((List (List UInt8) × (List ((Int × (List UInt8 × Unit))) × Unit)) × (Bool × (Bool × Unit)))))) (v2 : List (List UInt8)) (v3 : Int) (v4 : Int) (v5 : Int) (v6 : List (List UInt8)) (v25 : Int) : Option ((List (List UInt8) × (Int × Unit))) := from_ EE R L 18 Go.Proofs.Try.f18 [1, 1, 1, 1, 0, 1, 0] (mk 53 [(0, .dat ⟨(.pair .str (.pair (.pair (.int .i64) (.pair (.int .i64) (.pair (.int .i64) (.pair (.int .i64) (.pair .str (.pair .str (.pair .str .unit))))))) (.pair (.pair (.sl .str) (.pair (.sl (.pair (.int .i64) (.pair .str .unit))) .unit)) (.pair .bool (.pair .bool .unit))))), v0, .sh⟩), (1, .dat ⟨(.ptr (.pair .str (.pair (.pair (.int .i64) (.pair (.int .i64) (.pair (.int .i64) (.pair (.int .i64) (.pair .str (.pair .str (.pair .str .unit))))))) (.pair (.pair (.sl .str) (.pair (.sl (.pair (.int .i64) (.pair .str .unit))) .unit)) (.pair .bool (.pair .bool .unit)))))), v1, (.own .sh)⟩), (2, .dat ⟨(.sl .str), v2, (.own .sh)⟩), (3, .dat ⟨(.int .i64), v3, .sh⟩), (4, .dat ⟨(.int .i64), v4, .sh⟩), (5, .dat ⟨(.int .i64), v5, .sh⟩), (6, .dat ⟨(.sl .str), v6, (.own .sh)⟩), (25, .dat ⟨(.int .i64), v25, .sh⟩)])
noncomputable def lp_18_1 (R : Run EE) (L : Loops) (v0 : (List UInt8 × ((Int × (Int × (Int × (Int × (List UInt8 × (List UInt8 × (List UInt8 × Unit))))))) × ((List (List UInt8) × (List ((Int × (List UInt8 × Unit))) × Unit)) × (Bool × (Bool × Unit)))))) (v1 : (List UInt8 × ((Int × (Int × (Int × (Int × (List UInt8 × (List UInt8 × (List UInt8 × Unit))))))) × ((List (List UInt8) × (List ((Int × (List UInt8 × Unit))) × Unit)) × (Bool × (Bool × Unit)))))) (v2 : List (List UInt8)) (v3 : Int) (v4 : Int) (v5 : Int) (v6 : List (List UInt8)) (v7 : Int) (v25 : Int) : Option ((List (List UInt8) × (Int × Unit))) := from_ EE R L 18 Go.Proofs.Try.f18 [1, 1, 1, 1, 0, 1, 0] (mk 53 [(0, .dat ⟨(.pair .str (.pair (.pair (.int .i64) (.pair (.int .i64) (.pair (.int .i64) (.pair (.int .i64) (.pair .str (.pair .str (.pair .str .unit))))))) (.pair (.pair (.sl .str) (.pair (.sl (.pair (.int .i64) (.pair .str .unit))) .unit)) (.pair .bool (.pair .bool .unit))))), v0, .sh⟩), (1, .dat ⟨(.ptr (.pair .str (.pair (.pair (.int .i64) (.pair (.int .i64) (.pair (.int .i64) (.pair (.int .i64) (.pair .str (.pair .str (.pair .str .unit))))))) (.pair (.pair (.sl .str) (.pair (.sl (.pair (.int .i64) (.pair .str .unit))) .unit)) (.pair .bool (.pair .bool .unit)))))), v1, (.own .sh)⟩), (2, .dat ⟨(.sl .str), v2, (.own .sh)⟩), (3, .dat ⟨(.int .i64), v3, .sh⟩), (4, .dat ⟨(.int .i64), v4, .sh⟩), (5, .dat ⟨(.int .i64), v5, .sh⟩), (6, .dat ⟨(.sl .str), v6, (.own .sh)⟩), (7, .dat ⟨(.int .i64), v7, .sh⟩), (25, .dat ⟨(.int .i64), v25, .sh⟩)])
noncomputable def lp_19_0 (R : Run EE) (L : Loops) (v0 : List (List UInt8)) (v1 : List (List UInt8)) (v4 : Bool) (v5 : Int) : Option ((Bool × Unit)) := from_ EE R L 19 Go.Proofs.Try.f19 [1, 1, 0, 1, 0] (mk 26 [(0, .dat ⟨(.sl .str), v0, .sh⟩), (1, .dat ⟨(.sl .str), v1, .sh⟩), (4, .dat ⟨.bool, v4, .sh⟩), (5, .dat ⟨(.int .i64), v5, .sh⟩)])
noncomputable def lp_44_0 (R : Run EE) (L : Loops) (v0 : List ((Int × (List UInt8 × Unit)))) (v1 : List ((Int × (List UInt8 × Unit)))) (v4 : Bool) (v5 : Int) : Option ((Bool × Unit)) := from_ EE R L 44 Go.Proofs.Try.f44 [1, 1, 0, 1, 0] (mk 27 [(0, .dat ⟨(.sl (.pair (.int .i64) (.pair .str .unit))), v0, .sh⟩), (1, .dat ⟨(.sl (.pair (.int .i64) (.pair .str .unit))), v1, .sh⟩), (4, .dat ⟨.bool, v4, .sh⟩), (5, .dat ⟨(.int .i64), v5, .sh⟩)])
noncomputable def lp_56_0 (R : Run EE) (L : Loops) (v0 : Int) (v2 : List UInt8) (v3 : List UInt8) : Option ((List UInt8 × Unit)) := from_ EE R L 56 Go.Proofs.Try.f56 [1, 1, 1, 0, 0] (mk 20 [(0, .dat ⟨(.int .i64), v0, .sh⟩), (2, .dat ⟨.str, v2, .sh⟩), (3, .dat ⟨.str, v3, .sh⟩)])
noncomputable def lp_22_0 (R : Run EE) (L : Loops) (v0 : List (List UInt8)) (v1 : Int) (v4 : Int) (v5 : Int) : Option ((Int × (List (List UInt8) × Unit))) := from_ EE R L 22 Go.Proofs.Try.f22 [1, 0, 1, 0] (mk 20 [(0, .dat ⟨(.sl .str), v0, (.pin 0 (.own .sh))⟩), (1, .dat ⟨(.int .i64), v1, .sh⟩), (4, .dat ⟨(.int .i64), v4, .sh⟩), (5, .dat ⟨(.int .i64), v5, .sh⟩)])
noncomputable def lp_45_0 (R : Run EE) (L : Loops) (v0 : List ((Int × (List UInt8 × Unit)))) (v1 : Int) (v4 : Int) (v5 : Int) : Option ((Int × (List ((Int × (List UInt8 × Unit))) × Unit))) := from_ EE R L 45 Go.Proofs.Try.f45 [1, 0, 1, 0] (mk 28 [(0, .dat ⟨(.sl (.pair (.int .i64) (.pair .str .unit))), v0, (.pin 0 (.own .sh))⟩), (1, .dat ⟨(.int .i64), v1, .sh⟩), (4, .dat ⟨(.int .i64), v4, .sh⟩), (5, .dat ⟨(.int .i64), v5, .sh⟩)])
noncomputable def lp_23_0 (R : Run EE) (L : Loops) (v0 : List (List UInt8)) (v1 : Int) (v4 : Int) (v5 : Int) : Option ((Int × Unit)) := from_ EE R L 23 Go.Proofs.Try.f23 [1, 0, 1, 0] (mk 22 [(0, .dat ⟨(.sl .str), v0, .sh⟩), (1, .dat ⟨(.int .i64), v1, .sh⟩), (4, .dat ⟨(.int .i64), v4, .sh⟩), (5, .dat ⟨(.int .i64), v5, .sh⟩)])

/-- loop.example/g00548/laws.szRegister -/
theorem q_46 (R : Run EE) (L : Loops) (x0 : (Int × (Int × (Int × (Int × (List UInt8 × (List UInt8 × (List UInt8 × Unit)))))))) (x1 : Int) : @Eq (Option ((Int × Unit))) (bodyK EE R L 46 [⟨(.pair (.int .i64) (.pair (.int .i64) (.pair (.int .i64) (.pair (.int .i64) (.pair .str (.pair .str (.pair .str .unit))))))), x0⟩, ⟨(.int .i64), x1⟩]) (
  cond (decide ((Go.IntKind.wrap .i64 (x1 - (((List.length x0.2.2.2.2.1) : Nat) : Int))) < (0 : Int)))
  (some ((-(1 : Int)), ()))
  (cond (decide ((Go.IntKind.wrap .i64 ((Go.IntKind.wrap .i64 (x1 - (((List.length x0.2.2.2.2.1) : Nat) : Int))) - (((List.length x0.2.2.2.2.2.1) : Nat) : Int))) < (0 : Int)))
    (some ((-(1 : Int)), ()))
    (cond (decide ((Go.IntKind.wrap .i64 ((Go.IntKind.wrap .i64 ((Go.IntKind.wrap .i64 (x1 - (((List.length x0.2.2.2.2.1) : Nat) : Int))) - (((List.length x0.2.2.2.2.2.1) : Nat) : Int))) - (((List.length x0.2.2.2.2.2.2.1) : Nat) : Int))) < (0 : Int)))
      (some ((-(1 : Int)), ()))
      (some ((Go.IntKind.wrap .i64 ((Go.IntKind.wrap .i64 ((Go.IntKind.wrap .i64 (x1 - (((List.length x0.2.2.2.2.1) : Nat) : Int))) - (((List.length x0.2.2.2.2.2.1) : Nat) : Int))) - (((List.length x0.2.2.2.2.2.2.1) : Nat) : Int))), ()))))) := by kernel_rfl
/-- loop.example/g00548/laws.szStringS -/
theorem q_38 (R : Run EE) (L : Loops) (x0 : List (List UInt8)) (x1 : Int) : @Eq (Option ((Int × Unit))) (bodyK EE R L 38 [⟨(.sl .str), x0⟩, ⟨(.int .i64), x1⟩]) (
  cond (decide ((Go.IntKind.wrap .i64 (x1 - (((List.length x0) : Nat) : Int))) < (0 : Int)))
  (some ((-(1 : Int)), ()))
  (lp_38_0 R L x0 (Go.IntKind.wrap .i64 (x1 - (((List.length x0) : Nat) : Int))) (0 : Int) (0 : Int))) := by kernel_rfl
theorem q_38_0 (R : Run EE) (L : Loops) (v0 : List (List UInt8)) (v1 : Int) (v4 : Int) (v5 : Int) : @Eq (Option ((Int × Unit))) (from_ EE R L 38 Go.Proofs.Try.f38 [1, 1, 1, 0, 1, 0, 0] (mk 28 [(0, .dat ⟨(.sl .str), v0, .sh⟩), (1, .dat ⟨(.int .i64), v1, .sh⟩), (4, .dat ⟨(.int .i64), v4, .sh⟩), (5, .dat ⟨(.int .i64), v5, .sh⟩)])) (
  cond (decide (v5 < (((List.length v0) : Nat) : Int)))
  (cond (Go.Rf.nonneg v5)
    (cond (Nat.blt (Int.toNat v5) (List.length v0))
      (cond (decide ((Go.IntKind.wrap .i64 (v1 - (((List.length (List.getD v0 (Int.toNat v5) ([] : List (UInt8)))) : Nat) : Int))) < (0 : Int)))
        (some ((-(1 : Int)), ()))
        (lp_38_0 R L v0 (Go.IntKind.wrap .i64 (v1 - (((List.length (List.getD v0 (Int.toNat v5) ([] : List (UInt8)))) : Nat) : Int))) v4 (Go.IntKind.wrap .i64 (v5 + (1 : Int)))))
      (none))
    (none))
  (some (v1, ()))) := by kernel_rfl
/-- loop.example/g00548/laws.szIo -/
theorem q_71 (R : Run EE) (L : Loops) (x0 : (Int × (List UInt8 × Unit))) (x1 : Int) : @Eq (Option ((Int × Unit))) (bodyK EE R L 71 [⟨(.pair (.int .i64) (.pair .str .unit)), x0⟩, ⟨(.int .i64), x1⟩]) (
  cond (decide ((Go.IntKind.wrap .i64 (x1 - (((List.length x0.2.1) : Nat) : Int))) < (0 : Int)))
  (some ((-(1 : Int)), ()))
  (some ((Go.IntKind.wrap .i64 (x1 - (((List.length x0.2.1) : Nat) : Int))), ()))) := by kernel_rfl
/-- loop.example/g00548/laws.szIoS -/
theorem q_39 (R : Run EE) (L : Loops) (x0 : List ((Int × (List UInt8 × Unit)))) (x1 : Int) : @Eq (Option ((Int × Unit))) (bodyK EE R L 39 [⟨(.sl (.pair (.int .i64) (.pair .str .unit))), x0⟩, ⟨(.int .i64), x1⟩]) (
  cond (decide ((Go.IntKind.wrap .i64 (x1 - (((List.length x0) : Nat) : Int))) < (0 : Int)))
  (some ((-(1 : Int)), ()))
  (lp_39_0 R L x0 (Go.IntKind.wrap .i64 (x1 - (((List.length x0) : Nat) : Int))) (0 : Int) (0 : Int))) := by kernel_rfl
theorem q_39_0 (R : Run EE) (L : Loops) (v0 : List ((Int × (List UInt8 × Unit)))) (v1 : Int) (v4 : Int) (v5 : Int) : @Eq (Option ((Int × Unit))) (from_ EE R L 39 Go.Proofs.Try.f39 [1, 1, 1, 0, 1, 0, 0] (mk 27 [(0, .dat ⟨(.sl (.pair (.int .i64) (.pair .str .unit))), v0, .sh⟩), (1, .dat ⟨(.int .i64), v1, .sh⟩), (4, .dat ⟨(.int .i64), v4, .sh⟩), (5, .dat ⟨(.int .i64), v5, .sh⟩)])) (
  cond (decide (v5 < (((List.length v0) : Nat) : Int)))
  (cond (Go.Rf.nonneg v5)
    (cond (Nat.blt (Int.toNat v5) (List.length v0))
      ((c_71 R (List.getD v0 (Int.toNat v5) ((0 : Int), (([] : List (UInt8)), ()))) v1).bind fun r0 =>
        cond (decide (r0.1 < (0 : Int)))
        (some ((-(1 : Int)), ()))
        (lp_39_0 R L v0 r0.1 v4 (Go.IntKind.wrap .i64 (v5 + (1 : Int)))))
      (none))
    (none))
  (some (v1, ()))) := by kernel_rfl
/-- loop.example/g00548/laws.szDevice -/
theorem q_6 (R : Run EE) (L : Loops) (x0 : (List (List UInt8) × (List ((Int × (List UInt8 × Unit))) × Unit))) (x1 : Int) : @Eq (Option ((Int × Unit))) (bodyK EE R L 6 [⟨(.pair (.sl .str) (.pair (.sl (.pair (.int .i64) (.pair .str .unit))) .unit)), x0⟩, ⟨(.int .i64), x1⟩]) (
  (c_38 R x0.1 x1).bind fun r0 =>
  cond (decide (r0.1 < (0 : Int)))
  (some ((-(1 : Int)), ()))
  ((c_39 R x0.2.1 r0.1).bind fun r1 =>
    cond (decide (r1.1 < (0 : Int)))
    (some ((-(1 : Int)), ()))
    (some (r1.1, ())))) := by kernel_rfl
/-- loop.example/g00548/laws.szStore -/
theorem q_15 (R : Run EE) (L : Loops) (x0 : (List UInt8 × ((Int × (Int × (Int × (Int × (List UInt8 × (List UInt8 × (List UInt8 × Unit))))))) × ((List (List UInt8) × (List ((Int × (List UInt8 × Unit))) × Unit)) × (Bool × (Bool × Unit)))))) (x1 : Int) : @Eq (Option ((Int × Unit))) (bodyK EE R L 15 [⟨(.pair .str (.pair (.pair (.int .i64) (.pair (.int .i64) (.pair (.int .i64) (.pair (.int .i64) (.pair .str (.pair .str (.pair .str .unit))))))) (.pair (.pair (.sl .str) (.pair (.sl (.pair (.int .i64) (.pair .str .unit))) .unit)) (.pair .bool (.pair .bool .unit))))), x0⟩, ⟨(.int .i64), x1⟩]) (
  cond (decide ((Go.IntKind.wrap .i64 (x1 - (((List.length x0.1) : Nat) : Int))) < (0 : Int)))
  (some ((-(1 : Int)), ()))
  ((c_46 R x0.2.1 (Go.IntKind.wrap .i64 (x1 - (((List.length x0.1) : Nat) : Int)))).bind fun r0 =>
    cond (decide (r0.1 < (0 : Int)))
    (some ((-(1 : Int)), ()))
    ((c_6 R x0.2.2.1 r0.1).bind fun r1 =>
      cond (decide (r1.1 < (0 : Int)))
      (some ((-(1 : Int)), ()))
      (some (r1.1, ()))))) := by kernel_rfl
/-- loop.example/g00548/laws.toRegister -/
theorem q_50 (R : Run EE) (L : Loops) (x0 : (Int × (Int × (Int × (Int × (List UInt8 × (List UInt8 × (List UInt8 × Unit)))))))) : @Eq (Option (((Int × (Int × (Int × (Int × (List UInt8 × (List UInt8 × (List UInt8 × Unit))))))) × Unit))) (bodyK EE R L 50 [⟨(.pair (.int .i64) (.pair (.int .i64) (.pair (.int .i64) (.pair (.int .i64) (.pair .str (.pair .str (.pair .str .unit))))))), x0⟩]) (
  some ((x0.1, (x0.2.1, (x0.2.2.1, (x0.2.2.2.1, (x0.2.2.2.2.1, (x0.2.2.2.2.2.1, (x0.2.2.2.2.2.2.1, ()))))))), ())) := by kernel_rfl
/-- loop.example/g00548/laws.toStringS -/
theorem q_41 (R : Run EE) (L : Loops) (x0 : List (List UInt8)) : @Eq (Option ((List (List UInt8) × Unit))) (bodyK EE R L 41 [⟨(.sl .str), x0⟩]) (
  cond (Go.Rf.leI (((List.length x0) : Nat) : Int) (((List.length x0) : Nat) : Int))
  (cond (Go.Rf.lenOK (Int.toNat (((List.length x0) : Nat) : Int)))
    (lp_41_0 R L x0 ([] : List (List (UInt8))) (List.replicate (Int.toNat (((List.length x0) : Nat) : Int)) ([] : List (UInt8))) (0 : Int))
    (none))
  (none)) := by kernel_rfl
theorem q_41_0 (R : Run EE) (L : Loops) (v0 : List (List UInt8)) (v2 : List (List UInt8)) (v3 : List (List UInt8)) (v4 : Int) : @Eq (Option ((List (List UInt8) × Unit))) (from_ EE R L 41 Go.Proofs.Try.f41 [1, 1, 0, 1, 0, 0] (mk 22 [(0, .dat ⟨(.sl .str), v0, .sh⟩), (2, .dat ⟨(.sl .str), v2, (.own .sh)⟩), (3, .dat ⟨(.sl .str), v3, (.own .sh)⟩), (4, .dat ⟨(.int .i64), v4, .sh⟩)])) (
  cond (decide (v4 < (((List.length v0) : Nat) : Int)))
  (cond (Go.Rf.nonneg v4)
    (cond (Nat.blt (Int.toNat v4) (List.length v0))
      (cond (Go.Rf.nonneg v4)
        (cond (Nat.blt (Int.toNat v4) (List.length v3))
          (lp_41_0 R L v0 v2 (List.set v3 (Int.toNat v4) (List.getD v0 (Int.toNat v4) ([] : List (UInt8)))) (Go.IntKind.wrap .i64 (v4 + (1 : Int))))
          (none))
        (none))
      (none))
    (none))
  (some (v3, ()))) := by kernel_rfl
/-- loop.example/g00548/laws.toIo -/
theorem q_73 (R : Run EE) (L : Loops) (x0 : (Int × (List UInt8 × Unit))) : @Eq (Option (((Int × (List UInt8 × Unit)) × Unit))) (bodyK EE R L 73 [⟨(.pair (.int .i64) (.pair .str .unit)), x0⟩]) (
  some ((x0.1, (x0.2.1, ())), ())) := by kernel_rfl
/-- loop.example/g00548/laws.toIoS -/
theorem q_42 (R : Run EE) (L : Loops) (x0 : List ((Int × (List UInt8 × Unit)))) : @Eq (Option ((List ((Int × (List UInt8 × Unit))) × Unit))) (bodyK EE R L 42 [⟨(.sl (.pair (.int .i64) (.pair .str .unit))), x0⟩]) (
  cond (Go.Rf.leI (((List.length x0) : Nat) : Int) (((List.length x0) : Nat) : Int))
  (cond (Go.Rf.lenOK (Int.toNat (((List.length x0) : Nat) : Int)))
    (lp_42_0 R L x0 ([] : List ((Int × (List (UInt8) × Unit)))) (List.replicate (Int.toNat (((List.length x0) : Nat) : Int)) ((0 : Int), (([] : List (UInt8)), ()))) (0 : Int))
    (none))
  (none)) := by kernel_rfl
theorem q_42_0 (R : Run EE) (L : Loops) (v0 : List ((Int × (List UInt8 × Unit)))) (v2 : List ((Int × (List UInt8 × Unit)))) (v3 : List ((Int × (List UInt8 × Unit)))) (v4 : Int) : @Eq (Option ((List ((Int × (List UInt8 × Unit))) × Unit))) (from_ EE R L 42 Go.Proofs.Try.f42 [1, 1, 0, 1, 0, 0] (mk 23 [(0, .dat ⟨(.sl (.pair (.int .i64) (.pair .str .unit))), v0, .sh⟩), (2, .dat ⟨(.sl (.pair (.int .i64) (.pair .str .unit))), v2, (.own .sh)⟩), (3, .dat ⟨(.sl (.pair (.int .i64) (.pair .str .unit))), v3, (.own .sh)⟩), (4, .dat ⟨(.int .i64), v4, .sh⟩)])) (
  cond (decide (v4 < (((List.length v0) : Nat) : Int)))
  (cond (Go.Rf.nonneg v4)
    (cond (Nat.blt (Int.toNat v4) (List.length v0))
      ((c_73 R (List.getD v0 (Int.toNat v4) ((0 : Int), (([] : List (UInt8)), ())))).bind fun r0 =>
        cond (Go.Rf.nonneg v4)
        (cond (Nat.blt (Int.toNat v4) (List.length v3))
          (lp_42_0 R L v0 v2 (List.set v3 (Int.toNat v4) r0.1) (Go.IntKind.wrap .i64 (v4 + (1 : Int))))
          (none))
        (none))
      (none))
    (none))
  (some (v3, ()))) := by kernel_rfl
/-- loop.example/g00548/laws.toDevice -/
theorem q_8 (R : Run EE) (L : Loops) (x0 : (List (List UInt8) × (List ((Int × (List UInt8 × Unit))) × Unit))) : @Eq (Option (((List (List UInt8) × (List ((Int × (List UInt8 × Unit))) × Unit)) × Unit))) (bodyK EE R L 8 [⟨(.pair (.sl .str) (.pair (.sl (.pair (.int .i64) (.pair .str .unit))) .unit)), x0⟩]) (
  (c_41 R x0.1).bind fun r0 =>
  (c_42 R x0.2.1).bind fun r1 =>
  some ((r0.1, (r1.1, ())), ())) := by kernel_rfl
/-- loop.example/g00548/laws.toStore -/
theorem q_17 (R : Run EE) (L : Loops) (x0 : (List UInt8 × ((Int × (Int × (Int × (Int × (List UInt8 × (List UInt8 × (List UInt8 × Unit))))))) × ((List (List UInt8) × (List ((Int × (List UInt8 × Unit))) × Unit)) × (Bool × (Bool × Unit)))))) : @Eq (Option (((List UInt8 × ((Int × (Int × (Int × (Int × (List UInt8 × (List UInt8 × (List UInt8 × Unit))))))) × ((List (List UInt8) × (List ((Int × (List UInt8 × Unit))) × Unit)) × (Bool × (Bool × Unit))))) × Unit))) (bodyK EE R L 17 [⟨(.pair .str (.pair (.pair (.int .i64) (.pair (.int .i64) (.pair (.int .i64) (.pair (.int .i64) (.pair .str (.pair .str (.pair .str .unit))))))) (.pair (.pair (.sl .str) (.pair (.sl (.pair (.int .i64) (.pair .str .unit))) .unit)) (.pair .bool (.pair .bool .unit))))), x0⟩]) (
  (c_50 R x0.2.1).bind fun r0 =>
  (c_8 R x0.2.2.1).bind fun r1 =>
  some ((x0.1, (r0.1, (r1.1, (x0.2.2.2.1, (x0.2.2.2.2.1, ()))))), ())) := by kernel_rfl
/-- loop.example/g00548/spec.l01In -/
theorem q_86 (R : Run EE) (L : Loops) (x0 : Int) (x1 : Int) (x2 : Int) : @Eq (Option ((Bool × Unit))) (bodyK EE R L 86 [⟨(.int .i64), x0⟩, ⟨(.int .i64), x1⟩, ⟨(.int .i64), x2⟩]) (
  cond (decide (x1 ≤ x0))
  (some ((decide (x0 ≤ x2)), ()))
  (some (false, ()))) := by kernel_rfl
/-- loop.example/g00548/spec.RegisterOK -/
theorem q_80 (R : Run EE) (L : Loops) (x0 : (Int × (Int × (Int × (Int × (List UInt8 × (List UInt8 × (List UInt8 × Unit)))))))) : @Eq (Option ((Bool × Unit))) (bodyK EE R L 80 [⟨(.pair (.int .i64) (.pair (.int .i64) (.pair (.int .i64) (.pair (.int .i64) (.pair .str (.pair .str (.pair .str .unit))))))), x0⟩]) (
  (c_86 R x0.1 (0 : Int) (1000000 : Int)).bind fun r0 =>
  cond r0.1
  ((c_86 R x0.2.1 (0 : Int) (1 : Int)).bind fun r1 =>
    cond r1.1
    ((c_86 R x0.2.2.2.1 (0 : Int) (1000000 : Int)).bind fun r2 =>
      cond r2.1
      ((c_86 R x0.2.2.1 x0.1 (Go.Rf.minI (Go.IntKind.wrap .i64 (x0.1 + (4 : Int))) (1000000 : Int))).bind fun r3 =>
        cond r3.1
        (cond (Go.Rf.eqI (((List.length x0.2.2.2.2.1) : Nat) : Int) (32 : Int))
          (cond (Go.Rf.eqI (((List.length x0.2.2.2.2.2.1) : Nat) : Int) (32 : Int))
            (cond (Go.Rf.eqI (((List.length x0.2.2.2.2.2.2.1) : Nat) : Int) (32 : Int))
              (cond (decide (x0.1 < x0.2.2.1))
                (some (true, ()))
                (some ((Go.Rf.eqS x0.2.2.2.2.1 x0.2.2.2.2.2.1), ())))
              (some (false, ())))
            (some (false, ())))
          (some (false, ())))
        (some (false, ())))
      (some (false, ())))
    (some (false, ())))
  (some (false, ()))) := by kernel_rfl
/-- loop.example/g00548/spec.l05In -/
theorem q_72 (R : Run EE) (L : Loops) (x0 : Int) : @Eq (Option ((Bool × Unit))) (bodyK EE R L 72 [⟨(.int .i64), x0⟩]) (
  (c_86 R x0 (0 : Int) (39 : Int)).bind fun r0 =>
  some (r0.1, ())) := by kernel_rfl
/-- loop.example/g00548/spec.DeviceOK -/
theorem q_40 (R : Run EE) (L : Loops) (x0 : (List (List UInt8) × (List ((Int × (List UInt8 × Unit))) × Unit))) : @Eq (Option ((Bool × Unit))) (bodyK EE R L 40 [⟨(.pair (.sl .str) (.pair (.sl (.pair (.int .i64) (.pair .str .unit))) .unit)), x0⟩]) (
  cond (!(Go.Rf.eqI (((List.length x0.1) : Nat) : Int) (40 : Int)))
  (some (false, ()))
  (cond (decide ((60 : Int) < (((List.length x0.2.1) : Nat) : Int)))
    (some (false, ()))
    (lp_40_0 R L x0 x0 false (0 : Int)))) := by kernel_rfl
theorem q_40_0 (R : Run EE) (L : Loops) (v0 : (List (List UInt8) × (List ((Int × (List UInt8 × Unit))) × Unit))) (v1 : (List (List UInt8) × (List ((Int × (List UInt8 × Unit))) × Unit))) (v2 : Bool) (v3 : Int) : @Eq (Option ((Bool × Unit))) (from_ EE R L 40 Go.Proofs.Try.f40 [1, 1, 0, 1, 0, 0] (mk 54 [(0, .dat ⟨(.pair (.sl .str) (.pair (.sl (.pair (.int .i64) (.pair .str .unit))) .unit)), v0, .sh⟩), (1, .dat ⟨(.ptr (.pair (.sl .str) (.pair (.sl (.pair (.int .i64) (.pair .str .unit))) .unit))), v1, (.own .sh)⟩), (2, .dat ⟨.bool, v2, .sh⟩), (3, .dat ⟨(.int .i64), v3, .sh⟩)])) (
  cond (decide (v3 < (((List.length v1.1) : Nat) : Int)))
  (cond (Go.Rf.nonneg v3)
    (cond (Nat.blt (Int.toNat v3) (List.length v1.1))
      (cond (decide ((700 : Int) < (((List.length (List.getD v1.1 (Int.toNat v3) ([] : List (UInt8)))) : Nat) : Int)))
        (some (false, ()))
        (lp_40_0 R L v0 v1 v2 (Go.IntKind.wrap .i64 (v3 + (1 : Int)))))
      (none))
    (none))
  (lp_40_1 R L v0 v1 v2 v3 (0 : Int))) := by kernel_rfl
theorem q_40_1 (R : Run EE) (L : Loops) (v0 : (List (List UInt8) × (List ((Int × (List UInt8 × Unit))) × Unit))) (v1 : (List (List UInt8) × (List ((Int × (List UInt8 × Unit))) × Unit))) (v2 : Bool) (v3 : Int) (v4 : Int) : @Eq (Option ((Bool × Unit))) (from_ EE R L 40 Go.Proofs.Try.f40 [1, 1, 1, 0, 1, 0, 0] (mk 54 [(0, .dat ⟨(.pair (.sl .str) (.pair (.sl (.pair (.int .i64) (.pair .str .unit))) .unit)), v0, .sh⟩), (1, .dat ⟨(.ptr (.pair (.sl .str) (.pair (.sl (.pair (.int .i64) (.pair .str .unit))) .unit))), v1, (.own .sh)⟩), (2, .dat ⟨.bool, v2, .sh⟩), (3, .dat ⟨(.int .i64), v3, .sh⟩), (4, .dat ⟨(.int .i64), v4, .sh⟩)])) (
  cond (decide (v4 < (((List.length v1.2.1) : Nat) : Int)))
  (cond (Go.Rf.nonneg v4)
    (cond (Nat.blt (Int.toNat v4) (List.length v1.2.1))
      ((c_72 R (List.getD v1.2.1 (Int.toNat v4) ((0 : Int), (([] : List (UInt8)), ()))).1).bind fun r0 =>
        cond (!r0.1)
        (some (false, ()))
        (cond (Go.Rf.nonneg v4)
          (cond (Nat.blt (Int.toNat v4) (List.length v1.2.1))
            (cond (decide ((700 : Int) < (((List.length (List.getD v1.2.1 (Int.toNat v4) ((0 : Int), (([] : List (UInt8)), ()))).2.1) : Nat) : Int)))
              (some (false, ()))
              (lp_40_1 R L v0 v1 v2 v3 (Go.IntKind.wrap .i64 (v4 + (1 : Int)))))
            (none))
          (none)))
      (none))
    (none))
  (some (true, ()))) := by kernel_rfl
/-- loop.example/g00548/spec.StoreOK -/
theorem q_47 (R : Run EE) (L : Loops) (x0 : (List UInt8 × ((Int × (Int × (Int × (Int × (List UInt8 × (List UInt8 × (List UInt8 × Unit))))))) × ((List (List UInt8) × (List ((Int × (List UInt8 × Unit))) × Unit)) × (Bool × (Bool × Unit)))))) : @Eq (Option ((Bool × Unit))) (bodyK EE R L 47 [⟨(.pair .str (.pair (.pair (.int .i64) (.pair (.int .i64) (.pair (.int .i64) (.pair (.int .i64) (.pair .str (.pair .str (.pair .str .unit))))))) (.pair (.pair (.sl .str) (.pair (.sl (.pair (.int .i64) (.pair .str .unit))) .unit)) (.pair .bool (.pair .bool .unit))))), x0⟩]) (
  cond (Go.Rf.eqI (((List.length x0.1) : Nat) : Int) (32 : Int))
  ((c_80 R x0.2.1).bind fun r0 =>
    cond r0.1
    ((c_40 R x0.2.2.1).bind fun r1 =>
      cond r1.1
      (cond (Go.Rf.eqI (((List.length x0.2.2.1.2.1) : Nat) : Int) (0 : Int))
        (cond x0.2.2.2.1
          (some ((!x0.2.2.2.2.1), ()))
          (some ((!false), ())))
        (some (false, ())))
      (some (false, ())))
    (some (false, ())))
  (some (false, ()))) := by kernel_rfl
/-- loop.example/g00548/spec.l04Eight -/
theorem q_81 (R : Run EE) (L : Loops) (x0 : Int) : @Eq (Option ((List UInt8 × Unit))) (bodyK EE R L 81 [⟨(.int .i64), x0⟩]) (
  lp_81_0 R L x0 ([] : List (UInt8)) ([] : List (Int)) (0 : Int)) := by kernel_rfl
theorem q_81_0 (R : Run EE) (L : Loops) (v0 : Int) (v2 : List UInt8) (v3 : List (Int)) (v4 : Int) : @Eq (Option ((List UInt8 × Unit))) (from_ EE R L 81 Go.Proofs.Try.f81 [1, 1, 0, 1, 0, 0] (mk 20 [(0, .dat ⟨(.int .i64), v0, .sh⟩), (2, .dat ⟨.str, v2, .sh⟩), (3, .dat ⟨(.sl (.int .u8)), v3, (.own .sh)⟩), (4, .dat ⟨(.int .i64), v4, .sh⟩)])) (
  cond (decide (v4 < (8 : Int)))
  (cond (decide ((Go.IntKind.wrap .i64 ((8 : Int) * v4)) < (0 : Int)))
    (none)
    (cond (Go.Rf.lenOK ((List.length v3) + (List.length ((Go.IntKind.wrap .u8 (Int.fdiv v0 ((2 : Int) ^ (Min.min (Int.toNat (Go.IntKind.wrap .i64 ((8 : Int) * v4))) (Go.IntKind.bits .i64))))) :: ([] : List (Int))))))
      (lp_81_0 R L v0 v2 (v3 ++ ((Go.IntKind.wrap .u8 (Int.fdiv v0 ((2 : Int) ^ (Min.min (Int.toNat (Go.IntKind.wrap .i64 ((8 : Int) * v4))) (Go.IntKind.bits .i64))))) :: ([] : List (Int)))) (Go.IntKind.wrap .i64 (v4 + (1 : Int))))
      (none)))
  (some ((List.map (fun (n : Int) => (UInt8.ofNat (Int.toNat n))) v3), ()))) := by kernel_rfl
/-- loop.example/g00548/spec.l06Nonce -/
theorem q_48 (R : Run EE) (L : Loops) (x0 : Int) (x1 : Int) (x2 : Int) : @Eq (Option ((List UInt8 × Unit))) (bodyK EE R L 48 [⟨(.int .i64), x0⟩, ⟨(.int .i64), x1⟩, ⟨(.int .i64), x2⟩]) (
  (c_81 R x2).bind fun r0 =>
  cond (Go.Rf.lenOK ((List.length (List.map (fun (n : Int) => (UInt8.ofNat (Int.toNat n))) ((Go.IntKind.wrap .u8 x0) :: ((Go.IntKind.wrap .u8 x1) :: ((Go.IntKind.wrap .u8 (Int.fdiv x1 ((2 : Int) ^ (Min.min (Int.toNat (8 : Int)) (Go.IntKind.bits .i64))))) :: ((0 : Int) :: ([] : List (Int)))))))) + (List.length r0.1)))
  (some (((List.map (fun (n : Int) => (UInt8.ofNat (Int.toNat n))) ((Go.IntKind.wrap .u8 x0) :: ((Go.IntKind.wrap .u8 x1) :: ((Go.IntKind.wrap .u8 (Int.fdiv x1 ((2 : Int) ^ (Min.min (Int.toNat (8 : Int)) (Go.IntKind.bits .i64))))) :: ((0 : Int) :: ([] : List (Int))))))) ++ r0.1), ()))
  (none)) := by kernel_rfl
/-- loop.example/g00548/spec.l13Number -/
theorem q_49 (R : Run EE) (L : Loops) (x0 : Int) (x1 : Int) : @Eq (Option ((Int × Unit))) (bodyK EE R L 49 [⟨(.int .i64), x0⟩, ⟨(.int .i64), x1⟩]) (
  some ((Go.IntKind.wrap .i64 (x0 + (Go.IntKind.wrap .i64 (x1 * ((2 : Int) ^ (Min.min (Int.toNat (20 : Int)) (Go.IntKind.bits .i64))))))), ())) := by kernel_rfl
/-- loop.example/g00548/spec.FreshNonces -/
theorem q_16 (R : Run EE) (L : Loops) (x0 : (List UInt8 × ((Int × (Int × (Int × (Int × (List UInt8 × (List UInt8 × (List UInt8 × Unit))))))) × ((List (List UInt8) × (List ((Int × (List UInt8 × Unit))) × Unit)) × (Bool × (Bool × Unit)))))) : @Eq (Option ((List (List UInt8) × (Int × Unit)))) (bodyK EE R L 16 [⟨(.pair .str (.pair (.pair (.int .i64) (.pair (.int .i64) (.pair (.int .i64) (.pair (.int .i64) (.pair .str (.pair .str (.pair .str .unit))))))) (.pair (.pair (.sl .str) (.pair (.sl (.pair (.int .i64) (.pair .str .unit))) .unit)) (.pair .bool (.pair .bool .unit))))), x0⟩]) (
  (c_47 R x0).bind fun r0 =>
  cond (!r0.1)
  (some (([] : List (List (UInt8))), ((1 : Int), ())))
  ((c_48 R (1 : Int) (Go.IntKind.wrap .i64 ((16 : Int) * (Go.IntKind.wrap .i64 ((1 : Int) - x0.2.1.2.1)))) (Go.IntKind.wrap .i64 (x0.2.1.1 + (1 : Int)))).bind fun r1 =>
    lp_16_0 R L x0 x0 ([] : List (List (UInt8))) (0 : Int) (Go.IntKind.wrap .i64 ((16 : Int) * (Go.IntKind.wrap .i64 ((1 : Int) - x0.2.1.2.1)))) (r1.1 :: ([] : List (List (UInt8)))) (0 : Int))) := by kernel_rfl
theorem q_16_0 (R : Run EE) (L : Loops) (v0 : (List UInt8 × ((Int × (Int × (Int × (Int × (List UInt8 × (List UInt8 × (List UInt8 × Unit))))))) × ((List (List UInt8) × (List ((Int × (List UInt8 × Unit))) × Unit)) × (Bool × (Bool × Unit)))))) (v1 : (List UInt8 × ((Int × (Int × (Int × (Int × (List UInt8 × (List UInt8 × (List UInt8 × Unit))))))) × ((List (List UInt8) × (List ((Int × (List UInt8 × Unit))) × Unit)) × (Bool × (Bool × Unit)))))) (v2 : List (List UInt8)) (v3 : Int) (v4 : Int) (v5 : List (List UInt8)) (v6 : Int) : @Eq (Option ((List (List UInt8) × (Int × Unit)))) (from_ EE R L 16 Go.Proofs.Try.f16 [1, 1, 1, 1, 0, 1, 0, 0] (mk 56 [(0, .dat ⟨(.pair .str (.pair (.pair (.int .i64) (.pair (.int .i64) (.pair (.int .i64) (.pair (.int .i64) (.pair .str (.pair .str (.pair .str .unit))))))) (.pair (.pair (.sl .str) (.pair (.sl (.pair (.int .i64) (.pair .str .unit))) .unit)) (.pair .bool (.pair .bool .unit))))), v0, .sh⟩), (1, .dat ⟨(.ptr (.pair .str (.pair (.pair (.int .i64) (.pair (.int .i64) (.pair (.int .i64) (.pair (.int .i64) (.pair .str (.pair .str (.pair .str .unit))))))) (.pair (.pair (.sl .str) (.pair (.sl (.pair (.int .i64) (.pair .str .unit))) .unit)) (.pair .bool (.pair .bool .unit)))))), v1, (.own .sh)⟩), (2, .dat ⟨(.sl .str), v2, (.own .sh)⟩), (3, .dat ⟨(.int .i64), v3, .sh⟩), (4, .dat ⟨(.int .i64), v4, .sh⟩), (5, .dat ⟨(.sl .str), v5, (.own .sh)⟩), (6, .dat ⟨(.int .i64), v6, .sh⟩)])) (
  cond (decide (v6 < (15 : Int)))
  ((c_48 R (2 : Int) (Go.IntKind.wrap .i64 ((Go.IntKind.wrap .i64 (v4 + (1 : Int))) + v6)) (Go.IntKind.wrap .i64 (v1.2.1.1 + (1 : Int)))).bind fun r0 =>
    cond (Go.Rf.lenOK ((List.length v5) + (List.length (r0.1 :: ([] : List (List (UInt8)))))))
    (lp_16_0 R L v0 v1 v2 v3 v4 (v5 ++ (r0.1 :: ([] : List (List (UInt8))))) (Go.IntKind.wrap .i64 (v6 + (1 : Int))))
    (none))
  ((c_49 R (Go.IntKind.wrap .i64 (v1.2.1.2.2.1 + (1 : Int))) v1.2.1.2.2.2.1).bind fun r0 =>
    (c_48 R (3 : Int) (Go.IntKind.wrap .i64 ((32 : Int) + (Int.tmod (Go.IntKind.wrap .i64 (v1.2.1.2.2.1 + (1 : Int))) (8 : Int)))) r0.1).bind fun r1 =>
    cond (Go.Rf.lenOK ((List.length v5) + (List.length (r1.1 :: ([] : List (List (UInt8)))))))
    (some ((v5 ++ (r1.1 :: ([] : List (List (UInt8))))), ((0 : Int), ())))
    (none))) := by kernel_rfl
/-- loop.example/g00548/impl.within -/
theorem q_92 (R : Run EE) (L : Loops) (x0 : Int) (x1 : Int) (x2 : Int) : @Eq (Option ((Bool × Unit))) (bodyK EE R L 92 [⟨(.int .i64), x0⟩, ⟨(.int .i64), x1⟩, ⟨(.int .i64), x2⟩]) (
  cond (decide (x1 ≤ x0))
  (some ((decide (x0 ≤ x2)), ()))
  (some (false, ()))) := by kernel_rfl
/-- loop.example/g00548/impl.isDigest -/
theorem q_101 (R : Run EE) (L : Loops) (x0 : List UInt8) : @Eq (Option ((Bool × Unit))) (bodyK EE R L 101 [⟨.str, x0⟩]) (
  some ((Go.Rf.eqI (((List.length x0) : Nat) : Int) (32 : Int)), ())) := by kernel_rfl
/-- (loop.example/g00548/impl.Register).waiting -/
theorem q_102 (R : Run EE) (L : Loops) (x0 : (Int × (Int × (Int × (Int × (List UInt8 × (List UInt8 × (List UInt8 × Unit)))))))) : @Eq (Option ((Int × Unit))) (bodyK EE R L 102 [⟨(.pair (.int .i64) (.pair (.int .i64) (.pair (.int .i64) (.pair (.int .i64) (.pair .str (.pair .str (.pair .str .unit))))))), x0⟩]) (
  some ((Go.IntKind.wrap .i64 (x0.2.2.1 - x0.1)), ())) := by kernel_rfl
/-- loop.example/g00548/impl.RegisterOK -/
theorem q_82 (R : Run EE) (L : Loops) (x0 : (Int × (Int × (Int × (Int × (List UInt8 × (List UInt8 × (List UInt8 × Unit)))))))) : @Eq (Option ((Bool × Unit))) (bodyK EE R L 82 [⟨(.pair (.int .i64) (.pair (.int .i64) (.pair (.int .i64) (.pair (.int .i64) (.pair .str (.pair .str (.pair .str .unit))))))), x0⟩]) (
  (c_92 R x0.1 (0 : Int) (1000000 : Int)).bind fun r0 =>
  cond r0.1
  ((c_92 R x0.2.1 (0 : Int) (1 : Int)).bind fun r1 =>
    cond r1.1
    ((c_92 R x0.2.2.1 x0.1 (Go.Rf.minI (Go.IntKind.wrap .i64 (x0.1 + (4 : Int))) (1000000 : Int))).bind fun r2 =>
      cond r2.1
      ((c_92 R x0.2.2.2.1 (0 : Int) (1000000 : Int)).bind fun r3 =>
        cond r3.1
        ((c_101 R x0.2.2.2.2.1).bind fun r4 =>
          cond r4.1
          ((c_101 R x0.2.2.2.2.2.1).bind fun r5 =>
            cond r5.1
            ((c_101 R x0.2.2.2.2.2.2.1).bind fun r6 =>
              cond r6.1
              ((c_102 R x0).bind fun r7 =>
                cond (decide ((0 : Int) < r7.1))
                (some (true, ()))
                (some ((Go.Rf.eqS x0.2.2.2.2.1 x0.2.2.2.2.2.1), ())))
              (some (false, ())))
            (some (false, ())))
          (some (false, ())))
        (some (false, ())))
      (some (false, ())))
    (some (false, ())))
  (some (false, ()))) := by kernel_rfl
/-- loop.example/g00548/impl.areAll[string]$1 -/
theorem q_98 (R : Run EE) (L : Loops) (x0 : List UInt8) (x1 : FnVal) : @Eq (Option ((Bool × Unit))) (bodyK EE R L 98 [⟨.str, x0⟩, ⟨(.ptr .fn), x1⟩]) (
  (callVB EE R x1 [⟨.str, (x0 : List UInt8)⟩]).bind fun (r0 : Bool) =>
  some ((!r0), ())) := by kernel_rfl
/-- slices.IndexFunc[[]string,string] -/
theorem q_112 (R : Run EE) (L : Loops) (x0 : List (List UInt8)) (x1 : FnVal) : @Eq (Option ((Int × Unit))) (bodyK EE R L 112 [⟨(.sl .str), x0⟩, ⟨.fn, x1⟩]) (
  lp_112_0 R L x0 x1 (0 : Int) (((List.length x0) : Nat) : Int) (0 : Int)) := by kernel_rfl
theorem q_112_0 (R : Run EE) (L : Loops) (v0 : List (List UInt8)) (v1 : FnVal) (v4 : Int) (v7 : Int) (v8 : Int) : @Eq (Option ((Int × Unit))) (from_ EE R L 112 Go.Proofs.Try.f112 [1, 0, 1, 0, 0] (mk 19 [(0, .dat ⟨(.sl .str), v0, .sh⟩), (1, .dat ⟨.fn, v1, .sh⟩), (4, .dat ⟨(.int .i64), v4, .sh⟩), (7, .dat ⟨(.int .i64), v7, .sh⟩), (8, .dat ⟨(.int .i64), v8, .sh⟩)])) (
  cond (decide (v8 < v7))
  (cond (Go.Rf.nonneg v8)
    (cond (Nat.blt (Int.toNat v8) (List.length v0))
      ((callVB EE R v1 [⟨.str, ((List.getD v0 (Int.toNat v8) ([] : List (UInt8))) : List UInt8)⟩]).bind fun (r0 : Bool) =>
        cond r0
        (some (v8, ()))
        (lp_112_1 R L v0 v1 v4 v8 v7 (Go.IntKind.wrap .i64 (v8 + (1 : Int)))))
      (none))
    (none))
  (some ((-(1 : Int)), ()))) := by kernel_rfl
theorem q_112_1 (R : Run EE) (L : Loops) (v0 : List (List UInt8)) (v1 : FnVal) (v4 : Int) (v5 : Int) (v7 : Int) (v8 : Int) : @Eq (Option ((Int × Unit))) (from_ EE R L 112 Go.Proofs.Try.f112 [1, 0, 1, 0, 0] (mk 19 [(0, .dat ⟨(.sl .str), v0, .sh⟩), (1, .dat ⟨.fn, v1, .sh⟩), (4, .dat ⟨(.int .i64), v4, .sh⟩), (5, .dat ⟨(.int .i64), v5, .sh⟩), (7, .dat ⟨(.int .i64), v7, .sh⟩), (8, .dat ⟨(.int .i64), v8, .sh⟩)])) (
  cond (decide (v8 < v7))
  (cond (Go.Rf.nonneg v8)
    (cond (Nat.blt (Int.toNat v8) (List.length v0))
      ((callVB EE R v1 [⟨.str, ((List.getD v0 (Int.toNat v8) ([] : List (UInt8))) : List UInt8)⟩]).bind fun (r0 : Bool) =>
        cond r0
        (some (v8, ()))
        (lp_112_1 R L v0 v1 v4 v8 v7 (Go.IntKind.wrap .i64 (v8 + (1 : Int)))))
      (none))
    (none))
  (some ((-(1 : Int)), ()))) := by kernel_rfl
/-- slices.ContainsFunc[[]string,string] -/
theorem q_97 (R : Run EE) (L : Loops) (x0 : List (List UInt8)) (x1 : FnVal) : @Eq (Option ((Bool × Unit))) (bodyK EE R L 97 [⟨(.sl .str), x0⟩, ⟨.fn, x1⟩]) (
  (c_112 R x0 x1).bind fun r0 =>
  some ((decide ((0 : Int) ≤ r0.1)), ())) := by kernel_rfl
/-- loop.example/g00548/impl.areAll[string] -/
theorem q_74 (R : Run EE) (L : Loops) (x0 : List (List UInt8)) (x1 : FnVal) : @Eq (Option ((Bool × Unit))) (bodyK EE R L 74 [⟨(.sl .str), x0⟩, ⟨.fn, x1⟩]) (
  (c_97 R x0 (Go.Rf.FnVal.mk (98 : Nat) (Go.Rf.FCaps.fn x1 (Go.Rf.FCaps.nil)))).bind fun r0 =>
  some ((!r0.1), ())) := by kernel_rfl
/-- loop.example/g00548/impl.isContent -/
theorem q_75 (R : Run EE) (L : Loops) (x0 : List UInt8) : @Eq (Option ((Bool × Unit))) (bodyK EE R L 75 [⟨.str, x0⟩]) (
  some ((decide ((((List.length x0) : Nat) : Int) ≤ (700 : Int))), ())) := by kernel_rfl
/-- loop.example/g00548/impl.areAll[loop.example/g00548/impl.Io]$1 -/
theorem q_100 (R : Run EE) (L : Loops) (x0 : (Int × (List UInt8 × Unit))) (x1 : FnVal) : @Eq (Option ((Bool × Unit))) (bodyK EE R L 100 [⟨(.pair (.int .i64) (.pair .str .unit)), x0⟩, ⟨(.ptr .fn), x1⟩]) (
  (callVB EE R x1 [⟨(.pair (.int .i64) (.pair .str .unit)), (x0 : (Int × (List UInt8 × Unit)))⟩]).bind fun (r0 : Bool) =>
  some ((!r0), ())) := by kernel_rfl
/-- slices.IndexFunc[[]loop.example/g00548/impl.Io,loop.example/g00548/impl.Io] -/
theorem q_113 (R : Run EE) (L : Loops) (x0 : List ((Int × (List UInt8 × Unit)))) (x1 : FnVal) : @Eq (Option ((Int × Unit))) (bodyK EE R L 113 [⟨(.sl (.pair (.int .i64) (.pair .str .unit))), x0⟩, ⟨.fn, x1⟩]) (
  lp_113_0 R L x0 x1 (0 : Int) (((List.length x0) : Nat) : Int) (0 : Int)) := by kernel_rfl
theorem q_113_0 (R : Run EE) (L : Loops) (v0 : List ((Int × (List UInt8 × Unit)))) (v1 : FnVal) (v4 : Int) (v7 : Int) (v8 : Int) : @Eq (Option ((Int × Unit))) (from_ EE R L 113 Go.Proofs.Try.f113 [1, 0, 1, 0, 0] (mk 19 [(0, .dat ⟨(.sl (.pair (.int .i64) (.pair .str .unit))), v0, .sh⟩), (1, .dat ⟨.fn, v1, .sh⟩), (4, .dat ⟨(.int .i64), v4, .sh⟩), (7, .dat ⟨(.int .i64), v7, .sh⟩), (8, .dat ⟨(.int .i64), v8, .sh⟩)])) (
  cond (decide (v8 < v7))
  (cond (Go.Rf.nonneg v8)
    (cond (Nat.blt (Int.toNat v8) (List.length v0))
      ((callVB EE R v1 [⟨(.pair (.int .i64) (.pair .str .unit)), ((List.getD v0 (Int.toNat v8) ((0 : Int), (([] : List (UInt8)), ()))) : (Int × (List UInt8 × Unit)))⟩]).bind fun (r0 : Bool) =>
        cond r0
        (some (v8, ()))
        (lp_113_1 R L v0 v1 v4 v8 v7 (Go.IntKind.wrap .i64 (v8 + (1 : Int)))))
      (none))
    (none))
  (some ((-(1 : Int)), ()))) := by kernel_rfl
theorem q_113_1 (R : Run EE) (L : Loops) (v0 : List ((Int × (List UInt8 × Unit)))) (v1 : FnVal) (v4 : Int) (v5 : Int) (v7 : Int) (v8 : Int) : @Eq (Option ((Int × Unit))) (from_ EE R L 113 Go.Proofs.Try.f113 [1, 0, 1, 0, 0] (mk 19 [(0, .dat ⟨(.sl (.pair (.int .i64) (.pair .str .unit))), v0, .sh⟩), (1, .dat ⟨.fn, v1, .sh⟩), (4, .dat ⟨(.int .i64), v4, .sh⟩), (5, .dat ⟨(.int .i64), v5, .sh⟩), (7, .dat ⟨(.int .i64), v7, .sh⟩), (8, .dat ⟨(.int .i64), v8, .sh⟩)])) (
  cond (decide (v8 < v7))
  (cond (Go.Rf.nonneg v8)
    (cond (Nat.blt (Int.toNat v8) (List.length v0))
      ((callVB EE R v1 [⟨(.pair (.int .i64) (.pair .str .unit)), ((List.getD v0 (Int.toNat v8) ((0 : Int), (([] : List (UInt8)), ()))) : (Int × (List UInt8 × Unit)))⟩]).bind fun (r0 : Bool) =>
        cond r0
        (some (v8, ()))
        (lp_113_1 R L v0 v1 v4 v8 v7 (Go.IntKind.wrap .i64 (v8 + (1 : Int)))))
      (none))
    (none))
  (some ((-(1 : Int)), ()))) := by kernel_rfl
/-- slices.ContainsFunc[[]loop.example/g00548/impl.Io,loop.example/g00548/impl.Io] -/
theorem q_99 (R : Run EE) (L : Loops) (x0 : List ((Int × (List UInt8 × Unit)))) (x1 : FnVal) : @Eq (Option ((Bool × Unit))) (bodyK EE R L 99 [⟨(.sl (.pair (.int .i64) (.pair .str .unit))), x0⟩, ⟨.fn, x1⟩]) (
  (c_113 R x0 x1).bind fun r0 =>
  some ((decide ((0 : Int) ≤ r0.1)), ())) := by kernel_rfl
/-- loop.example/g00548/impl.areAll[loop.example/g00548/impl.Io] -/
theorem q_76 (R : Run EE) (L : Loops) (x0 : List ((Int × (List UInt8 × Unit)))) (x1 : FnVal) : @Eq (Option ((Bool × Unit))) (bodyK EE R L 76 [⟨(.sl (.pair (.int .i64) (.pair .str .unit))), x0⟩, ⟨.fn, x1⟩]) (
  (c_99 R x0 (Go.Rf.FnVal.mk (100 : Nat) (Go.Rf.FCaps.fn x1 (Go.Rf.FCaps.nil)))).bind fun r0 =>
  some ((!r0.1), ())) := by kernel_rfl
/-- loop.example/g00548/impl.isSector -/
theorem q_78 (R : Run EE) (L : Loops) (x0 : Int) : @Eq (Option ((Bool × Unit))) (bodyK EE R L 78 [⟨(.int .i64), x0⟩]) (
  (c_92 R x0 (0 : Int) (39 : Int)).bind fun r0 =>
  some (r0.1, ())) := by kernel_rfl
/-- loop.example/g00548/impl.DeviceOK$1 -/
theorem q_77 (R : Run EE) (L : Loops) (x0 : (Int × (List UInt8 × Unit))) : @Eq (Option ((Bool × Unit))) (bodyK EE R L 77 [⟨(.pair (.int .i64) (.pair .str .unit)), x0⟩]) (
  (c_78 R x0.1).bind fun r0 =>
  cond r0.1
  ((c_75 R x0.2.1).bind fun r1 =>
    some (r1.1, ()))
  (some (false, ()))) := by kernel_rfl
/-- loop.example/g00548/impl.DeviceOK -/
theorem q_43 (R : Run EE) (L : Loops) (x0 : (List (List UInt8) × (List ((Int × (List UInt8 × Unit))) × Unit))) : @Eq (Option ((Bool × Unit))) (bodyK EE R L 43 [⟨(.pair (.sl .str) (.pair (.sl (.pair (.int .i64) (.pair .str .unit))) .unit)), x0⟩]) (
  cond (Go.Rf.eqI (((List.length x0.1) : Nat) : Int) (40 : Int))
  ((c_74 R x0.1 (Go.Rf.FnVal.mk (75 : Nat) (Go.Rf.FCaps.nil))).bind fun r0 =>
    cond r0.1
    (cond (decide ((((List.length x0.2.1) : Nat) : Int) ≤ (60 : Int)))
      ((c_76 R x0.2.1 (Go.Rf.FnVal.mk (77 : Nat) (Go.Rf.FCaps.nil))).bind fun r1 =>
        some (r1.1, ()))
      (some (false, ())))
    (some (false, ())))
  (some (false, ()))) := by kernel_rfl
/-- loop.example/g00548/impl.isSure -/
theorem q_83 (R : Run EE) (L : Loops) (x0 : (List (List UInt8) × (List ((Int × (List UInt8 × Unit))) × Unit))) : @Eq (Option ((Bool × Unit))) (bodyK EE R L 83 [⟨(.pair (.sl .str) (.pair (.sl (.pair (.int .i64) (.pair .str .unit))) .unit)), x0⟩]) (
  (c_43 R x0).bind fun r0 =>
  cond r0.1
  (some ((Go.Rf.eqI (((List.length x0.2.1) : Nat) : Int) (0 : Int)), ()))
  (some (false, ()))) := by kernel_rfl
/-- loop.example/g00548/impl.StoreOK -/
theorem q_51 (R : Run EE) (L : Loops) (x0 : (List UInt8 × ((Int × (Int × (Int × (Int × (List UInt8 × (List UInt8 × (List UInt8 × Unit))))))) × ((List (List UInt8) × (List ((Int × (List UInt8 × Unit))) × Unit)) × (Bool × (Bool × Unit)))))) : @Eq (Option ((Bool × Unit))) (bodyK EE R L 51 [⟨(.pair .str (.pair (.pair (.int .i64) (.pair (.int .i64) (.pair (.int .i64) (.pair (.int .i64) (.pair .str (.pair .str (.pair .str .unit))))))) (.pair (.pair (.sl .str) (.pair (.sl (.pair (.int .i64) (.pair .str .unit))) .unit)) (.pair .bool (.pair .bool .unit))))), x0⟩]) (
  cond (Go.Rf.eqI (((List.length x0.1) : Nat) : Int) (32 : Int))
  ((c_82 R x0.2.1).bind fun r0 =>
    cond r0.1
    ((c_83 R x0.2.2.1).bind fun r1 =>
      cond r1.1
      (cond x0.2.2.2.1
        (some ((!x0.2.2.2.2.1), ()))
        (some ((!false), ())))
      (some (false, ())))
    (some (false, ())))
  (some (false, ()))) := by kernel_rfl
/-- loop.example/g00548/impl.little -/
theorem q_84 (R : Run EE) (L : Loops) (x0 : Int) (x1 : Int) : @Eq (Option ((List UInt8 × Unit))) (bodyK EE R L 84 [⟨(.int .i64), x0⟩, ⟨(.int .i64), x1⟩]) (
  lp_84_0 R L x0 x1 ([] : List (UInt8)) ([] : List (Int)) x1 (0 : Int)) := by kernel_rfl
theorem q_84_0 (R : Run EE) (L : Loops) (v0 : Int) (v1 : Int) (v4 : List UInt8) (v5 : List (Int)) (v7 : Int) (v8 : Int) : @Eq (Option ((List UInt8 × Unit))) (from_ EE R L 84 Go.Proofs.Try.f84 [1, 1, 0, 1, 0, 0] (mk 22 [(0, .dat ⟨(.int .i64), v0, .sh⟩), (1, .dat ⟨(.int .i64), v1, .sh⟩), (4, .dat ⟨.str, v4, .sh⟩), (5, .dat ⟨(.sl (.int .u8)), v5, (.own .sh)⟩), (7, .dat ⟨(.int .i64), v7, .sh⟩), (8, .dat ⟨(.int .i64), v8, .sh⟩)])) (
  cond (decide (v8 < v7))
  (cond (decide ((Go.IntKind.wrap .i64 ((8 : Int) * v8)) < (0 : Int)))
    (none)
    (cond (Go.Rf.lenOK ((List.length v5) + (List.length ((Go.IntKind.wrap .u8 (Int.fdiv v0 ((2 : Int) ^ (Min.min (Int.toNat (Go.IntKind.wrap .i64 ((8 : Int) * v8))) (Go.IntKind.bits .i64))))) :: ([] : List (Int))))))
      (lp_84_1 R L v0 v1 v4 (v5 ++ ((Go.IntKind.wrap .u8 (Int.fdiv v0 ((2 : Int) ^ (Min.min (Int.toNat (Go.IntKind.wrap .i64 ((8 : Int) * v8))) (Go.IntKind.bits .i64))))) :: ([] : List (Int)))) v8 v7 (Go.IntKind.wrap .i64 (v8 + (1 : Int))))
      (none)))
  (some ((List.map (fun (n : Int) => (UInt8.ofNat (Int.toNat n))) v5), ()))) := by kernel_rfl
theorem q_84_1 (R : Run EE) (L : Loops) (v0 : Int) (v1 : Int) (v4 : List UInt8) (v5 : List (Int)) (v6 : Int) (v7 : Int) (v8 : Int) : @Eq (Option ((List UInt8 × Unit))) (from_ EE R L 84 Go.Proofs.Try.f84 [1, 1, 0, 1, 0, 0] (mk 22 [(0, .dat ⟨(.int .i64), v0, .sh⟩), (1, .dat ⟨(.int .i64), v1, .sh⟩), (4, .dat ⟨.str, v4, .sh⟩), (5, .dat ⟨(.sl (.int .u8)), v5, (.own .sh)⟩), (6, .dat ⟨(.int .i64), v6, .sh⟩), (7, .dat ⟨(.int .i64), v7, .sh⟩), (8, .dat ⟨(.int .i64), v8, .sh⟩)])) (
  cond (decide (v8 < v7))
  (cond (decide ((Go.IntKind.wrap .i64 ((8 : Int) * v8)) < (0 : Int)))
    (none)
    (cond (Go.Rf.lenOK ((List.length v5) + (List.length ((Go.IntKind.wrap .u8 (Int.fdiv v0 ((2 : Int) ^ (Min.min (Int.toNat (Go.IntKind.wrap .i64 ((8 : Int) * v8))) (Go.IntKind.bits .i64))))) :: ([] : List (Int))))))
      (lp_84_1 R L v0 v1 v4 (v5 ++ ((Go.IntKind.wrap .u8 (Int.fdiv v0 ((2 : Int) ^ (Min.min (Int.toNat (Go.IntKind.wrap .i64 ((8 : Int) * v8))) (Go.IntKind.bits .i64))))) :: ([] : List (Int)))) v8 v7 (Go.IntKind.wrap .i64 (v8 + (1 : Int))))
      (none)))
  (some ((List.map (fun (n : Int) => (UInt8.ofNat (Int.toNat n))) v5), ()))) := by kernel_rfl
/-- loop.example/g00548/impl.nonceOf -/
theorem q_52 (R : Run EE) (L : Loops) (x0 : Int) (x1 : Int) (x2 : Int) : @Eq (Option ((List UInt8 × Unit))) (bodyK EE R L 52 [⟨(.int .i64), x0⟩, ⟨(.int .i64), x1⟩, ⟨(.int .i64), x2⟩]) (
  (c_84 R x0 (1 : Int)).bind fun r0 =>
  (c_84 R x1 (2 : Int)).bind fun r1 =>
  cond (Go.Rf.lenOK ((List.length r0.1) + (List.length r1.1)))
  ((c_84 R (0 : Int) (1 : Int)).bind fun r2 =>
    cond (Go.Rf.lenOK ((List.length (r0.1 ++ r1.1)) + (List.length r2.1)))
    ((c_84 R x2 (8 : Int)).bind fun r3 =>
      cond (Go.Rf.lenOK ((List.length ((r0.1 ++ r1.1) ++ r2.1)) + (List.length r3.1)))
      (some ((((r0.1 ++ r1.1) ++ r2.1) ++ r3.1), ()))
      (none))
    (none))
  (none)) := by kernel_rfl
/-- loop.example/g00548/impl.entrySector -/
theorem q_53 (R : Run EE) (L : Loops) (x0 : Int) : @Eq (Option ((Int × Unit))) (bodyK EE R L 53 [⟨(.int .i64), x0⟩]) (
  some ((Go.IntKind.wrap .i64 ((32 : Int) + (Int.tmod x0 (8 : Int)))), ())) := by kernel_rfl
/-- loop.example/g00548/impl.logEpoch -/
theorem q_54 (R : Run EE) (L : Loops) (x0 : Int) (x1 : Int) : @Eq (Option ((Int × Unit))) (bodyK EE R L 54 [⟨(.int .i64), x0⟩, ⟨(.int .i64), x1⟩]) (
  some ((Go.IntKind.wrap .i64 (x0 + (Go.IntKind.wrap .i64 ((1048576 : Int) * x1)))), ())) := by kernel_rfl
/-- loop.example/g00548/impl.FreshNonces -/
theorem q_18 (R : Run EE) (L : Loops) (x0 : (List UInt8 × ((Int × (Int × (Int × (Int × (List UInt8 × (List UInt8 × (List UInt8 × Unit))))))) × ((List (List UInt8) × (List ((Int × (List UInt8 × Unit))) × Unit)) × (Bool × (Bool × Unit)))))) : @Eq (Option ((List (List UInt8) × (Int × Unit)))) (bodyK EE R L 18 [⟨(.pair .str (.pair (.pair (.int .i64) (.pair (.int .i64) (.pair (.int .i64) (.pair (.int .i64) (.pair .str (.pair .str (.pair .str .unit))))))) (.pair (.pair (.sl .str) (.pair (.sl (.pair (.int .i64) (.pair .str .unit))) .unit)) (.pair .bool (.pair .bool .unit))))), x0⟩]) (
  (c_51 R x0).bind fun r0 =>
  cond (!r0.1)
  (some (([] : List (List (UInt8))), ((1 : Int), ())))
  ((c_52 R (1 : Int) (Go.IntKind.wrap .i64 ((16 : Int) * (Go.IntKind.wrap .i64 ((1 : Int) - x0.2.1.2.1)))) (Go.IntKind.wrap .i64 (x0.2.1.1 + (1 : Int)))).bind fun r1 =>
    lp_18_0 R L x0 x0 ([] : List (List (UInt8))) (0 : Int) (Go.IntKind.wrap .i64 ((16 : Int) * (Go.IntKind.wrap .i64 ((1 : Int) - x0.2.1.2.1)))) (Go.IntKind.wrap .i64 (x0.2.1.1 + (1 : Int))) (r1.1 :: ([] : List (List (UInt8)))) (0 : Int))) := by kernel_rfl
theorem q_18_0 (R : Run EE) (L : Loops) (v0 : (List UInt8 × ((Int × (Int × (Int × (Int × (List UInt8 × (List UInt8 × (List UInt8 × Unit))))))) × ((List (List UInt8) × (List ((Int × (List UInt8 × Unit))) × Unit)) × (Bool × (Bool × Unit)))))) (v1 : (List UInt8 × ((Int × (Int × (Int × (Int × (List UInt8 × (List UInt8 × (List UInt8 × Unit))))))) × ((List (List UInt8) × (List ((Int × (List UInt8 × Unit))) × Unit)) × (Bool × (Bool × Unit)))))) (v2 : List (List UInt8)) (v3 : Int) (v4 : Int) (v5 : Int) (v6 : List (List UInt8)) (v25 : Int) : @Eq (Option ((List (List UInt8) × (Int × Unit)))) (from_ EE R L 18 Go.Proofs.Try.f18 [1, 1, 1, 1, 0, 1, 0, 0] (mk 53 [(0, .dat ⟨(.pair .str (.pair (.pair (.int .i64) (.pair (.int .i64) (.pair (.int .i64) (.pair (.int .i64) (.pair .str (.pair .str (.pair .str .unit))))))) (.pair (.pair (.sl .str) (.pair (.sl (.pair (.int .i64) (.pair .str .unit))) .unit)) (.pair .bool (.pair .bool .unit))))), v0, .sh⟩), (1, .dat ⟨(.ptr (.pair .str (.pair (.pair (.int .i64) (.pair (.int .i64) (.pair (.int .i64) (.pair (.int .i64) (.pair .str (.pair .str (.pair .str .unit))))))) (.pair (.pair (.sl .str) (.pair (.sl (.pair (.int .i64) (.pair .str .unit))) .unit)) (.pair .bool (.pair .bool .unit)))))), v1, (.own .sh)⟩), (2, .dat ⟨(.sl .str), v2, (.own .sh)⟩), (3, .dat ⟨(.int .i64), v3, .sh⟩), (4, .dat ⟨(.int .i64), v4, .sh⟩), (5, .dat ⟨(.int .i64), v5, .sh⟩), (6, .dat ⟨(.sl .str), v6, (.own .sh)⟩), (25, .dat ⟨(.int .i64), v25, .sh⟩)])) (
  cond (decide (v25 < (15 : Int)))
  ((c_52 R (2 : Int) (Go.IntKind.wrap .i64 ((Go.IntKind.wrap .i64 (v4 + (1 : Int))) + v25)) v5).bind fun r0 =>
    cond (Go.Rf.lenOK ((List.length v6) + (List.length (r0.1 :: ([] : List (List (UInt8)))))))
    (lp_18_1 R L v0 v1 v2 v3 v4 v5 (v6 ++ (r0.1 :: ([] : List (List (UInt8))))) v25 (Go.IntKind.wrap .i64 (v25 + (1 : Int))))
    (none))
  ((c_53 R (Go.IntKind.wrap .i64 (v1.2.1.2.2.1 + (1 : Int)))).bind fun r0 =>
    (c_54 R (Go.IntKind.wrap .i64 (v1.2.1.2.2.1 + (1 : Int))) v1.2.1.2.2.2.1).bind fun r1 =>
    (c_52 R (3 : Int) r0.1 r1.1).bind fun r2 =>
    cond (Go.Rf.lenOK ((List.length v6) + (List.length (r2.1 :: ([] : List (List (UInt8)))))))
    (some ((v6 ++ (r2.1 :: ([] : List (List (UInt8))))), ((0 : Int), ())))
    (none))) := by kernel_rfl
theorem q_18_1 (R : Run EE) (L : Loops) (v0 : (List UInt8 × ((Int × (Int × (Int × (Int × (List UInt8 × (List UInt8 × (List UInt8 × Unit))))))) × ((List (List UInt8) × (List ((Int × (List UInt8 × Unit))) × Unit)) × (Bool × (Bool × Unit)))))) (v1 : (List UInt8 × ((Int × (Int × (Int × (Int × (List UInt8 × (List UInt8 × (List UInt8 × Unit))))))) × ((List (List UInt8) × (List ((Int × (List UInt8 × Unit))) × Unit)) × (Bool × (Bool × Unit)))))) (v2 : List (List UInt8)) (v3 : Int) (v4 : Int) (v5 : Int) (v6 : List (List UInt8)) (v7 : Int) (v25 : Int) : @Eq (Option ((List (List UInt8) × (Int × Unit)))) (from_ EE R L 18 Go.Proofs.Try.f18 [1, 1, 1, 1, 0, 1, 0, 0] (mk 53 [(0, .dat ⟨(.pair .str (.pair (.pair (.int .i64) (.pair (.int .i64) (.pair (.int .i64) (.pair (.int .i64) (.pair .str (.pair .str (.pair .str .unit))))))) (.pair (.pair (.sl .str) (.pair (.sl (.pair (.int .i64) (.pair .str .unit))) .unit)) (.pair .bool (.pair .bool .unit))))), v0, .sh⟩), (1, .dat ⟨(.ptr (.pair .str (.pair (.pair (.int .i64) (.pair (.int .i64) (.pair (.int .i64) (.pair (.int .i64) (.pair .str (.pair .str (.pair .str .unit))))))) (.pair (.pair (.sl .str) (.pair (.sl (.pair (.int .i64) (.pair .str .unit))) .unit)) (.pair .bool (.pair .bool .unit)))))), v1, (.own .sh)⟩), (2, .dat ⟨(.sl .str), v2, (.own .sh)⟩), (3, .dat ⟨(.int .i64), v3, .sh⟩), (4, .dat ⟨(.int .i64), v4, .sh⟩), (5, .dat ⟨(.int .i64), v5, .sh⟩), (6, .dat ⟨(.sl .str), v6, (.own .sh)⟩), (7, .dat ⟨(.int .i64), v7, .sh⟩), (25, .dat ⟨(.int .i64), v25, .sh⟩)])) (
  cond (decide (v25 < (15 : Int)))
  ((c_52 R (2 : Int) (Go.IntKind.wrap .i64 ((Go.IntKind.wrap .i64 (v4 + (1 : Int))) + v25)) v5).bind fun r0 =>
    cond (Go.Rf.lenOK ((List.length v6) + (List.length (r0.1 :: ([] : List (List (UInt8)))))))
    (lp_18_1 R L v0 v1 v2 v3 v4 v5 (v6 ++ (r0.1 :: ([] : List (List (UInt8))))) v25 (Go.IntKind.wrap .i64 (v25 + (1 : Int))))
    (none))
  ((c_53 R (Go.IntKind.wrap .i64 (v1.2.1.2.2.1 + (1 : Int)))).bind fun r0 =>
    (c_54 R (Go.IntKind.wrap .i64 (v1.2.1.2.2.1 + (1 : Int))) v1.2.1.2.2.2.1).bind fun r1 =>
    (c_52 R (3 : Int) r0.1 r1.1).bind fun r2 =>
    cond (Go.Rf.lenOK ((List.length v6) + (List.length (r2.1 :: ([] : List (List (UInt8)))))))
    (some ((v6 ++ (r2.1 :: ([] : List (List (UInt8))))), ((0 : Int), ())))
    (none))) := by kernel_rfl
/-- loop.example/g00548/laws.eqStringS -/
theorem q_19 (R : Run EE) (L : Loops) (x0 : List (List UInt8)) (x1 : List (List UInt8)) : @Eq (Option ((Bool × Unit))) (bodyK EE R L 19 [⟨(.sl .str), x0⟩, ⟨(.sl .str), x1⟩]) (
  cond (!(Go.Rf.eqI (((List.length x0) : Nat) : Int) (((List.length x1) : Nat) : Int)))
  (some (false, ()))
  (lp_19_0 R L x0 x1 false (0 : Int))) := by kernel_rfl
theorem q_19_0 (R : Run EE) (L : Loops) (v0 : List (List UInt8)) (v1 : List (List UInt8)) (v4 : Bool) (v5 : Int) : @Eq (Option ((Bool × Unit))) (from_ EE R L 19 Go.Proofs.Try.f19 [1, 1, 0, 1, 0, 0] (mk 26 [(0, .dat ⟨(.sl .str), v0, .sh⟩), (1, .dat ⟨(.sl .str), v1, .sh⟩), (4, .dat ⟨.bool, v4, .sh⟩), (5, .dat ⟨(.int .i64), v5, .sh⟩)])) (
  cond (decide (v5 < (((List.length v0) : Nat) : Int)))
  (cond (Go.Rf.nonneg v5)
    (cond (Nat.blt (Int.toNat v5) (List.length v0))
      (cond (Go.Rf.nonneg v5)
        (cond (Nat.blt (Int.toNat v5) (List.length v1))
          (cond (!(Go.Rf.eqS (List.getD v0 (Int.toNat v5) ([] : List (UInt8))) (List.getD v1 (Int.toNat v5) ([] : List (UInt8)))))
            (some (false, ()))
            (lp_19_0 R L v0 v1 v4 (Go.IntKind.wrap .i64 (v5 + (1 : Int)))))
          (none))
        (none))
      (none))
    (none))
  (some (true, ()))) := by kernel_rfl
/-- loop.example/g00548/laws.eqRegister -/
theorem q_55 (R : Run EE) (L : Loops) (x0 : (Int × (Int × (Int × (Int × (List UInt8 × (List UInt8 × (List UInt8 × Unit)))))))) (x1 : (Int × (Int × (Int × (Int × (List UInt8 × (List UInt8 × (List UInt8 × Unit)))))))) : @Eq (Option ((Bool × Unit))) (bodyK EE R L 55 [⟨(.pair (.int .i64) (.pair (.int .i64) (.pair (.int .i64) (.pair (.int .i64) (.pair .str (.pair .str (.pair .str .unit))))))), x0⟩, ⟨(.pair (.int .i64) (.pair (.int .i64) (.pair (.int .i64) (.pair (.int .i64) (.pair .str (.pair .str (.pair .str .unit))))))), x1⟩]) (
  cond (!(Go.Rf.eqI x0.1 x1.1))
  (some (false, ()))
  (cond (!(Go.Rf.eqI x0.2.1 x1.2.1))
    (some (false, ()))
    (cond (!(Go.Rf.eqI x0.2.2.1 x1.2.2.1))
      (some (false, ()))
      (cond (!(Go.Rf.eqI x0.2.2.2.1 x1.2.2.2.1))
        (some (false, ()))
        (cond (!(Go.Rf.eqS x0.2.2.2.2.1 x1.2.2.2.2.1))
          (some (false, ()))
          (cond (!(Go.Rf.eqS x0.2.2.2.2.2.1 x1.2.2.2.2.2.1))
            (some (false, ()))
            (cond (!(Go.Rf.eqS x0.2.2.2.2.2.2.1 x1.2.2.2.2.2.2.1))
              (some (false, ()))
              (some (true, ()))))))))) := by kernel_rfl
/-- loop.example/g00548/laws.eqIo -/
theorem q_79 (R : Run EE) (L : Loops) (x0 : (Int × (List UInt8 × Unit))) (x1 : (Int × (List UInt8 × Unit))) : @Eq (Option ((Bool × Unit))) (bodyK EE R L 79 [⟨(.pair (.int .i64) (.pair .str .unit)), x0⟩, ⟨(.pair (.int .i64) (.pair .str .unit)), x1⟩]) (
  cond (!(Go.Rf.eqI x0.1 x1.1))
  (some (false, ()))
  (cond (!(Go.Rf.eqS x0.2.1 x1.2.1))
    (some (false, ()))
    (some (true, ())))) := by kernel_rfl
/-- loop.example/g00548/laws.eqIoS -/
theorem q_44 (R : Run EE) (L : Loops) (x0 : List ((Int × (List UInt8 × Unit)))) (x1 : List ((Int × (List UInt8 × Unit)))) : @Eq (Option ((Bool × Unit))) (bodyK EE R L 44 [⟨(.sl (.pair (.int .i64) (.pair .str .unit))), x0⟩, ⟨(.sl (.pair (.int .i64) (.pair .str .unit))), x1⟩]) (
  cond (!(Go.Rf.eqI (((List.length x0) : Nat) : Int) (((List.length x1) : Nat) : Int)))
  (some (false, ()))
  (lp_44_0 R L x0 x1 false (0 : Int))) := by kernel_rfl
theorem q_44_0 (R : Run EE) (L : Loops) (v0 : List ((Int × (List UInt8 × Unit)))) (v1 : List ((Int × (List UInt8 × Unit)))) (v4 : Bool) (v5 : Int) : @Eq (Option ((Bool × Unit))) (from_ EE R L 44 Go.Proofs.Try.f44 [1, 1, 0, 1, 0, 0] (mk 27 [(0, .dat ⟨(.sl (.pair (.int .i64) (.pair .str .unit))), v0, .sh⟩), (1, .dat ⟨(.sl (.pair (.int .i64) (.pair .str .unit))), v1, .sh⟩), (4, .dat ⟨.bool, v4, .sh⟩), (5, .dat ⟨(.int .i64), v5, .sh⟩)])) (
  cond (decide (v5 < (((List.length v0) : Nat) : Int)))
  (cond (Go.Rf.nonneg v5)
    (cond (Nat.blt (Int.toNat v5) (List.length v0))
      (cond (Go.Rf.nonneg v5)
        (cond (Nat.blt (Int.toNat v5) (List.length v1))
          ((c_79 R (List.getD v0 (Int.toNat v5) ((0 : Int), (([] : List (UInt8)), ()))) (List.getD v1 (Int.toNat v5) ((0 : Int), (([] : List (UInt8)), ())))).bind fun r0 =>
            cond (!r0.1)
            (some (false, ()))
            (lp_44_0 R L v0 v1 v4 (Go.IntKind.wrap .i64 (v5 + (1 : Int)))))
          (none))
        (none))
      (none))
    (none))
  (some (true, ()))) := by kernel_rfl
/-- loop.example/g00548/laws.eqDevice -/
theorem q_11 (R : Run EE) (L : Loops) (x0 : (List (List UInt8) × (List ((Int × (List UInt8 × Unit))) × Unit))) (x1 : (List (List UInt8) × (List ((Int × (List UInt8 × Unit))) × Unit))) : @Eq (Option ((Bool × Unit))) (bodyK EE R L 11 [⟨(.pair (.sl .str) (.pair (.sl (.pair (.int .i64) (.pair .str .unit))) .unit)), x0⟩, ⟨(.pair (.sl .str) (.pair (.sl (.pair (.int .i64) (.pair .str .unit))) .unit)), x1⟩]) (
  (c_19 R x0.1 x1.1).bind fun r0 =>
  cond (!r0.1)
  (some (false, ()))
  ((c_44 R x0.2.1 x1.2.1).bind fun r1 =>
    cond (!r1.1)
    (some (false, ()))
    (some (true, ())))) := by kernel_rfl
/-- loop.example/g00548/laws.eqStore -/
theorem q_20 (R : Run EE) (L : Loops) (x0 : (List UInt8 × ((Int × (Int × (Int × (Int × (List UInt8 × (List UInt8 × (List UInt8 × Unit))))))) × ((List (List UInt8) × (List ((Int × (List UInt8 × Unit))) × Unit)) × (Bool × (Bool × Unit)))))) (x1 : (List UInt8 × ((Int × (Int × (Int × (Int × (List UInt8 × (List UInt8 × (List UInt8 × Unit))))))) × ((List (List UInt8) × (List ((Int × (List UInt8 × Unit))) × Unit)) × (Bool × (Bool × Unit)))))) : @Eq (Option ((Bool × Unit))) (bodyK EE R L 20 [⟨(.pair .str (.pair (.pair (.int .i64) (.pair (.int .i64) (.pair (.int .i64) (.pair (.int .i64) (.pair .str (.pair .str (.pair .str .unit))))))) (.pair (.pair (.sl .str) (.pair (.sl (.pair (.int .i64) (.pair .str .unit))) .unit)) (.pair .bool (.pair .bool .unit))))), x0⟩, ⟨(.pair .str (.pair (.pair (.int .i64) (.pair (.int .i64) (.pair (.int .i64) (.pair (.int .i64) (.pair .str (.pair .str (.pair .str .unit))))))) (.pair (.pair (.sl .str) (.pair (.sl (.pair (.int .i64) (.pair .str .unit))) .unit)) (.pair .bool (.pair .bool .unit))))), x1⟩]) (
  cond (!(Go.Rf.eqS x0.1 x1.1))
  (some (false, ()))
  ((c_55 R x0.2.1 x1.2.1).bind fun r0 =>
    cond (!r0.1)
    (some (false, ()))
    ((c_11 R x0.2.2.1 x1.2.2.1).bind fun r1 =>
      cond (!r1.1)
      (some (false, ()))
      (cond (!(Go.Rf.eqB x0.2.2.2.1 x1.2.2.2.1))
        (some (false, ()))
        (cond (!(Go.Rf.eqB x0.2.2.2.2.1 x1.2.2.2.2.1))
          (some (false, ()))
          (some (true, ()))))))) := by kernel_rfl
/-- loop.example/g00548/laws.markText -/
theorem q_56 (R : Run EE) (L : Loops) (x0 : Int) : @Eq (Option ((List UInt8 × Unit))) (bodyK EE R L 56 [⟨(.int .i64), x0⟩]) (
  cond (decide (x0 ≤ (0 : Int)))
  (some (((109 : UInt8) :: ((48 : UInt8) :: ([] : List (UInt8)))), ()))
  (lp_56_0 R L x0 ([] : List (UInt8)) ([] : List (UInt8)))) := by kernel_rfl
theorem q_56_0 (R : Run EE) (L : Loops) (v0 : Int) (v2 : List UInt8) (v3 : List UInt8) : @Eq (Option ((List UInt8 × Unit))) (from_ EE R L 56 Go.Proofs.Try.f56 [1, 1, 1, 0, 0, 0] (mk 20 [(0, .dat ⟨(.int .i64), v0, .sh⟩), (2, .dat ⟨.str, v2, .sh⟩), (3, .dat ⟨.str, v3, .sh⟩)])) (
  cond (decide ((0 : Int) < v0))
  (cond (Go.Rf.lenOK ((List.length (List.map (fun (n : Int) => (UInt8.ofNat (Int.toNat n))) ((Go.IntKind.wrap .u8 (Go.IntKind.wrap .i64 ((48 : Int) + (Int.tmod v0 (10 : Int))))) :: ([] : List (Int))))) + (List.length v3)))
    (lp_56_0 R L (Go.IntKind.wrap .i64 (Int.tdiv v0 (10 : Int))) v2 ((List.map (fun (n : Int) => (UInt8.ofNat (Int.toNat n))) ((Go.IntKind.wrap .u8 (Go.IntKind.wrap .i64 ((48 : Int) + (Int.tmod v0 (10 : Int))))) :: ([] : List (Int)))) ++ v3))
    (none))
  (cond (Go.Rf.lenOK ((List.length ((109 : UInt8) :: ([] : List (UInt8)))) + (List.length v3)))
    (some ((((109 : UInt8) :: ([] : List (UInt8))) ++ v3), ()))
    (none))) := by kernel_rfl
/-- loop.example/g00548/laws.markStringS -/
theorem q_22 (R : Run EE) (L : Loops) (x0 : List (List UInt8)) (x1 : Int) : @Eq (Option ((Int × (List (List UInt8) × Unit)))) (bodyK EE R L 22 [⟨(.sl .str), x0⟩, ⟨(.int .i64), x1⟩]) (
  lp_22_0 R L x0 x1 (0 : Int) (0 : Int)) := by kernel_rfl
theorem q_22_0 (R : Run EE) (L : Loops) (v0 : List (List UInt8)) (v1 : Int) (v4 : Int) (v5 : Int) : @Eq (Option ((Int × (List (List UInt8) × Unit)))) (from_ EE R L 22 Go.Proofs.Try.f22 [1, 0, 1, 0, 0] (mk 20 [(0, .dat ⟨(.sl .str), v0, (.pin 0 (.own .sh))⟩), (1, .dat ⟨(.int .i64), v1, .sh⟩), (4, .dat ⟨(.int .i64), v4, .sh⟩), (5, .dat ⟨(.int .i64), v5, .sh⟩)])) (
  cond (decide (v5 < (((List.length v0) : Nat) : Int)))
  ((c_56 R v1).bind fun r0 =>
    cond (Go.Rf.nonneg v5)
    (cond (Nat.blt (Int.toNat v5) (List.length v0))
      (lp_22_0 R L (List.set v0 (Int.toNat v5) r0.1) (Go.IntKind.wrap .i64 (v1 + (1 : Int))) v4 (Go.IntKind.wrap .i64 (v5 + (1 : Int))))
      (none))
    (none))
  (some (v1, (v0, ())))) := by kernel_rfl
/-- loop.example/g00548/laws.markIoS -/
theorem q_45 (R : Run EE) (L : Loops) (x0 : List ((Int × (List UInt8 × Unit)))) (x1 : Int) : @Eq (Option ((Int × (List ((Int × (List UInt8 × Unit))) × Unit)))) (bodyK EE R L 45 [⟨(.sl (.pair (.int .i64) (.pair .str .unit))), x0⟩, ⟨(.int .i64), x1⟩]) (
  lp_45_0 R L x0 x1 (0 : Int) (0 : Int)) := by kernel_rfl
theorem q_45_0 (R : Run EE) (L : Loops) (v0 : List ((Int × (List UInt8 × Unit)))) (v1 : Int) (v4 : Int) (v5 : Int) : @Eq (Option ((Int × (List ((Int × (List UInt8 × Unit))) × Unit)))) (from_ EE R L 45 Go.Proofs.Try.f45 [1, 0, 1, 0, 0] (mk 28 [(0, .dat ⟨(.sl (.pair (.int .i64) (.pair .str .unit))), v0, (.pin 0 (.own .sh))⟩), (1, .dat ⟨(.int .i64), v1, .sh⟩), (4, .dat ⟨(.int .i64), v4, .sh⟩), (5, .dat ⟨(.int .i64), v5, .sh⟩)])) (
  cond (decide (v5 < (((List.length v0) : Nat) : Int)))
  (cond (Go.Rf.nonneg v5)
    (cond (Nat.blt (Int.toNat v5) (List.length v0))
      ((c_56 R (Go.IntKind.wrap .i64 (v1 + (1 : Int)))).bind fun r0 =>
        cond (Go.Rf.nonneg v5)
        (cond (Nat.blt (Int.toNat v5) (List.length (List.set v0 (Int.toNat v5) (v1, (List.getD v0 (Int.toNat v5) ((0 : Int), (([] : List (UInt8)), ()))).2))))
          (lp_45_0 R L (List.set (List.set v0 (Int.toNat v5) (v1, (List.getD v0 (Int.toNat v5) ((0 : Int), (([] : List (UInt8)), ()))).2)) (Int.toNat v5) ((List.getD (List.set v0 (Int.toNat v5) (v1, (List.getD v0 (Int.toNat v5) ((0 : Int), (([] : List (UInt8)), ()))).2)) (Int.toNat v5) ((0 : Int), (([] : List (UInt8)), ()))).1, (r0.1, (List.getD (List.set v0 (Int.toNat v5) (v1, (List.getD v0 (Int.toNat v5) ((0 : Int), (([] : List (UInt8)), ()))).2)) (Int.toNat v5) ((0 : Int), (([] : List (UInt8)), ()))).2.2))) (Go.IntKind.wrap .i64 ((Go.IntKind.wrap .i64 (v1 + (1 : Int))) + (1 : Int))) v4 (Go.IntKind.wrap .i64 (v5 + (1 : Int))))
          (none))
        (none))
      (none))
    (none))
  (some (v1, (v0, ())))) := by kernel_rfl
/-- loop.example/g00548/laws.markDevice -/
theorem q_12 (R : Run EE) (L : Loops) (x0 : (List (List UInt8) × (List ((Int × (List UInt8 × Unit))) × Unit))) (x1 : Int) : @Eq (Option ((Int × ((List (List UInt8) × (List ((Int × (List UInt8 × Unit))) × Unit)) × Unit)))) (bodyK EE R L 12 [⟨(.pair (.sl .str) (.pair (.sl (.pair (.int .i64) (.pair .str .unit))) .unit)), x0⟩, ⟨(.int .i64), x1⟩]) (
  (c_22 R x0.1 x1).bind fun r0 =>
  (c_45 R x0.2.1 r0.1).bind fun r1 =>
  some (r1.1, ((r0.2.1, (r1.2.1, x0.2.2)), ()))) := by kernel_rfl
/-- loop.example/g00548/laws.markStore -/
theorem q_21 (R : Run EE) (L : Loops) (x0 : (List UInt8 × ((Int × (Int × (Int × (Int × (List UInt8 × (List UInt8 × (List UInt8 × Unit))))))) × ((List (List UInt8) × (List ((Int × (List UInt8 × Unit))) × Unit)) × (Bool × (Bool × Unit)))))) (x1 : Int) : @Eq (Option ((Int × ((List UInt8 × ((Int × (Int × (Int × (Int × (List UInt8 × (List UInt8 × (List UInt8 × Unit))))))) × ((List (List UInt8) × (List ((Int × (List UInt8 × Unit))) × Unit)) × (Bool × (Bool × Unit))))) × Unit)))) (bodyK EE R L 21 [⟨(.pair .str (.pair (.pair (.int .i64) (.pair (.int .i64) (.pair (.int .i64) (.pair (.int .i64) (.pair .str (.pair .str (.pair .str .unit))))))) (.pair (.pair (.sl .str) (.pair (.sl (.pair (.int .i64) (.pair .str .unit))) .unit)) (.pair .bool (.pair .bool .unit))))), x0⟩, ⟨(.int .i64), x1⟩]) (
  (c_12 R x0.2.2.1 x1).bind fun r0 =>
  some (r0.1, ((x0.1, (x0.2.1, (r0.2.1, x0.2.2.2))), ()))) := by kernel_rfl
/-- loop.example/g00548/laws.heldStringS -/
theorem q_23 (R : Run EE) (L : Loops) (x0 : List (List UInt8)) (x1 : Int) : @Eq (Option ((Int × Unit))) (bodyK EE R L 23 [⟨(.sl .str), x0⟩, ⟨(.int .i64), x1⟩]) (
  lp_23_0 R L x0 x1 (0 : Int) (0 : Int)) := by kernel_rfl
theorem q_23_0 (R : Run EE) (L : Loops) (v0 : List (List UInt8)) (v1 : Int) (v4 : Int) (v5 : Int) : @Eq (Option ((Int × Unit))) (from_ EE R L 23 Go.Proofs.Try.f23 [1, 0, 1, 0, 0] (mk 22 [(0, .dat ⟨(.sl .str), v0, .sh⟩), (1, .dat ⟨(.int .i64), v1, .sh⟩), (4, .dat ⟨(.int .i64), v4, .sh⟩), (5, .dat ⟨(.int .i64), v5, .sh⟩)])) (
  cond (decide (v5 < (((List.length v0) : Nat) : Int)))
  (cond (Go.Rf.nonneg v5)
    (cond (Nat.blt (Int.toNat v5) (List.length v0))
      ((c_56 R v1).bind fun r0 =>
        cond (!(Go.Rf.eqS (List.getD v0 (Int.toNat v5) ([] : List (UInt8))) r0.1))
        (some ((-(1 : Int)), ()))
        (lp_23_0 R L v0 (Go.IntKind.wrap .i64 (v1 + (1 : Int))) v4 (Go.IntKind.wrap .i64 (v5 + (1 : Int)))))
      (none))
    (none))
  (some (v1, ()))) := by kernel_rfl
/-- loop.example/g00548/laws.FnExactFreshNonces -/
theorem q_4 (R : Run EE) (L : Loops) (x0 : (List UInt8 × ((Int × (Int × (Int × (Int × (List UInt8 × (List UInt8 × (List UInt8 × Unit))))))) × ((List (List UInt8) × (List ((Int × (List UInt8 × Unit))) × Unit)) × (Bool × (Bool × Unit)))))) : @Eq (Option ((Bool × Unit))) (bodyK EE R L 4 [⟨(.pair .str (.pair (.pair (.int .i64) (.pair (.int .i64) (.pair (.int .i64) (.pair (.int .i64) (.pair .str (.pair .str (.pair .str .unit))))))) (.pair (.pair (.sl .str) (.pair (.sl (.pair (.int .i64) (.pair .str .unit))) .unit)) (.pair .bool (.pair .bool .unit))))), x0⟩]) (
  (c_15 R x0 (1048576 : Int)).bind fun r0 =>
  cond (decide (r0.1 < (0 : Int)))
  (some (true, ()))
  ((c_17 R x0).bind fun r1 =>
    (c_16 R r1.1).bind fun r2 =>
    (c_17 R x0).bind fun r3 =>
    (c_18 R r3.1).bind fun r4 =>
    (c_19 R r4.1 r2.1).bind fun r5 =>
    cond (!r5.1)
    (some (false, ()))
    (cond (!(Go.Rf.eqI r4.2.1 r2.2.1))
      (some (false, ()))
      ((c_17 R x0).bind fun r6 =>
        (c_20 R r3.1 r6.1).bind fun r7 =>
        cond (!r7.1)
        (some (false, ()))
        ((c_21 R r3.1 (1 : Int)).bind fun r8 =>
          cond (decide (r8.1 < (0 : Int)))
          (some (false, ()))
          ((c_19 R r4.1 r2.1).bind fun r9 =>
            cond (!r9.1)
            (some (false, ()))
            (cond (!(Go.Rf.eqI r4.2.1 r2.2.1))
              (some (false, ()))
              ((c_22 R r4.1 (1 : Int)).bind fun r10 =>
                (c_23 R r10.2.1 (1 : Int)).bind fun r11 =>
                cond (decide (r11.1 < (0 : Int)))
                (some (false, ()))
                (cond (!(Go.Rf.eqI r11.1 r10.1))
                  (some (false, ()))
                  ((c_17 R x0).bind fun r12 =>
                    (c_18 R r12.1).bind fun r13 =>
                    (c_19 R r13.1 r2.1).bind fun r14 =>
                    cond (!r14.1)
                    (some (false, ()))
                    (cond (!(Go.Rf.eqI r13.2.1 r2.2.1))
                      (some (false, ()))
                      ((c_23 R r10.2.1 (1 : Int)).bind fun r15 =>
                        cond (decide (r15.1 < (0 : Int)))
                        (some (false, ()))
                        (cond (!(Go.Rf.eqI r15.1 r10.1))
                          (some (false, ()))
                          (some (true, ()))))))))))))))) := by kernel_rfl
end Go.Rf.S
