import Derived.Test.YtncpeeedpmoakaaProg
import Derived.KernelRfl
import Derived.Test.YtncpeeedpmoakaaRfC
set_option linter.unusedVariables false
set_option linter.unusedSimpArgs false
open Go Go.Rf
set_option maxRecDepth 100000
namespace Go.Rf.S
noncomputable def cfgs : List (Nat × FCfg) := [
  (38, ⟨[.ro (.sl .str), .ro (.int .i64)], 1, (.pair (.int .i64) .unit), .sh, [0, 1, 4, 5, 11, 15, 26], [(3, 0), (10, 1), (9, 0)]⟩),
  (71, ⟨[.ro (.pair (.int .i64) (.pair .str .unit)), .ro (.int .i64)], 1, (.pair (.int .i64) .unit), .sh, [0, 1, 2, 4, 11], [(4, 1), (3, 0)]⟩),
  (39, ⟨[.ro (.sl (.pair (.int .i64) (.pair .str .unit))), .ro (.int .i64)], 1, (.pair (.int .i64) .unit), .sh, [0, 1, 4, 5, 11, 15, 25], [(3, 0), (10, 1), (9, 0)]⟩),
  (6, ⟨[.ro (.pair (.sl .str) (.pair (.sl (.pair (.int .i64) (.pair .str .unit))) .unit)), .ro (.int .i64)], 1, (.pair (.int .i64) .unit), .sh, [0, 1, 2, 4, 10, 16], [(3, 0), (7, 1), (6, 0)]⟩),
  (41, ⟨[.ro (.sl .str)], 1, (.pair (.sl .str) .unit), (.pr (.own .sh) .sh), [0, 2, 3, 4, 11], [(1, 2), (6, 1)]⟩),
  (73, ⟨[.ro (.pair (.int .i64) (.pair .str .unit))], 1, (.pair (.pair (.int .i64) (.pair .str .unit)) .unit), .sh, [0, 1, 2, 3], [(4, 1)]⟩),
  (42, ⟨[.ro (.sl (.pair (.int .i64) (.pair .str .unit)))], 1, (.pair (.sl (.pair (.int .i64) (.pair .str .unit))) .unit), (.pr (.own .sh) .sh), [0, 2, 3, 4, 11], [(1, 2), (6, 1)]⟩),
  (8, ⟨[.ro (.pair (.sl .str) (.pair (.sl (.pair (.int .i64) (.pair .str .unit))) .unit))], 1, (.pair (.pair (.sl .str) (.pair (.sl (.pair (.int .i64) (.pair .str .unit))) .unit)) .unit), (.pr (.pr (.own .sh) (.pr (.own .sh) .sh)) .sh), [0, 1, 2, 3], [(4, 1)]⟩),
  (86, ⟨[.ro (.int .i64), .ro (.int .i64), .ro (.int .i64)], 1, (.pair .bool .unit), .sh, [0, 1, 2, 6], [(1, 8)]⟩),
  (72, ⟨[.ro (.int .i64)], 1, (.pair .bool .unit), .sh, [0, 2], [(1, 2)]⟩),
  (40, ⟨[.ro (.pair (.sl .str) (.pair (.sl (.pair (.int .i64) (.pair .str .unit))) .unit))], 1, (.pair .bool .unit), .sh, [0, 1, 2, 3, 4, 14, 19, 28, 33, 53], [(2, 0), (7, 0), (13, 0), (12, 0)]⟩),
  (7, ⟨[.ro (.pair (.sl .str) (.pair (.sl (.pair (.int .i64) (.pair .str .unit))) .unit))], 2, (.pair (.sl (.int .i64)) (.pair (.int .i64) .unit)), (.pr (.own .sh) .sh), [0, 1, 2, 3, 4, 5, 8, 15], [(2, 1), (2, 2), (8, 1), (8, 2)]⟩),
  (98, ⟨[.ro .str, .ro (.ptr .fn)], 1, (.pair .bool .unit), .sh, [0, 1, 3], [(1, 4)]⟩),
  (112, ⟨[.ro (.sl .str), .ro .fn], 1, (.pair (.int .i64) .unit), .sh, [0, 1, 4, 5, 7, 8, 9, 16], [(7, 0), (5, 1)]⟩),
  (97, ⟨[.ro (.sl .str), .ro .fn], 1, (.pair .bool .unit), .sh, [0, 1, 4], [(1, 4)]⟩),
  (74, ⟨[.ro (.sl .str), .ro .fn], 1, (.pair .bool .unit), .sh, [0, 1, 3, 4], [(1, 4)]⟩),
  (75, ⟨[.ro .str], 1, (.pair .bool .unit), .sh, [0, 2], [(1, 3)]⟩),
  (100, ⟨[.ro (.pair (.int .i64) (.pair .str .unit)), .ro (.ptr .fn)], 1, (.pair .bool .unit), .sh, [0, 1, 2, 3], [(1, 4)]⟩),
  (113, ⟨[.ro (.sl (.pair (.int .i64) (.pair .str .unit))), .ro .fn], 1, (.pair (.int .i64) .unit), .sh, [0, 1, 4, 5, 7, 8, 9, 16], [(7, 0), (5, 1)]⟩),
  (99, ⟨[.ro (.sl (.pair (.int .i64) (.pair .str .unit))), .ro .fn], 1, (.pair .bool .unit), .sh, [0, 1, 4], [(1, 4)]⟩),
  (76, ⟨[.ro (.sl (.pair (.int .i64) (.pair .str .unit))), .ro .fn], 1, (.pair .bool .unit), .sh, [0, 1, 3, 4], [(1, 4)]⟩),
  (92, ⟨[.ro (.int .i64), .ro (.int .i64), .ro (.int .i64)], 1, (.pair .bool .unit), .sh, [0, 1, 2, 6], [(1, 8)]⟩),
  (78, ⟨[.ro (.int .i64)], 1, (.pair .bool .unit), .sh, [0, 2], [(1, 2)]⟩),
  (77, ⟨[.ro (.pair (.int .i64) (.pair .str .unit))], 1, (.pair .bool .unit), .sh, [0, 1, 2], [(1, 8)]⟩),
  (43, ⟨[.ro (.pair (.sl .str) (.pair (.sl (.pair (.int .i64) (.pair .str .unit))) .unit))], 1, (.pair .bool .unit), .sh, [0, 1, 2], [(1, 20)]⟩),
  (9, ⟨[.ro (.pair (.sl .str) (.pair (.sl (.pair (.int .i64) (.pair .str .unit))) .unit))], 2, (.pair (.sl (.int .i64)) (.pair (.int .i64) .unit)), (.pr (.own .sh) .sh), [0, 1, 2, 3, 4, 6, 9, 11, 12, 13, 14], [(2, 0), (2, 1), (9, 1), (9, 2)]⟩),
  (10, ⟨[.ro (.sl (.int .i64)), .ro (.sl (.int .i64))], 1, (.pair .bool .unit), .sh, [0, 1, 4, 5, 10, 14, 25], [(2, 0), (8, 0), (7, 0)]⟩),
  (19, ⟨[.ro (.sl .str), .ro (.sl .str)], 1, (.pair .bool .unit), .sh, [0, 1, 4, 5, 10, 14, 25], [(2, 0), (8, 0), (7, 0)]⟩),
  (79, ⟨[.ro (.pair (.int .i64) (.pair .str .unit)), .ro (.pair (.int .i64) (.pair .str .unit))], 1, (.pair .bool .unit), .sh, [0, 1, 2, 3, 4, 9, 14], [(2, 0), (5, 0), (4, 0)]⟩),
  (44, ⟨[.ro (.sl (.pair (.int .i64) (.pair .str .unit))), .ro (.sl (.pair (.int .i64) (.pair .str .unit)))], 1, (.pair .bool .unit), .sh, [0, 1, 4, 5, 10, 14, 26], [(2, 0), (8, 0), (7, 0)]⟩),
  (11, ⟨[.ro (.pair (.sl .str) (.pair (.sl (.pair (.int .i64) (.pair .str .unit))) .unit)), .ro (.pair (.sl .str) (.pair (.sl (.pair (.int .i64) (.pair .str .unit))) .unit))], 1, (.pair .bool .unit), .sh, [0, 1, 2, 3, 4, 10, 16], [(2, 0), (5, 0), (4, 0)]⟩),
  (56, ⟨[.ro (.int .i64)], 1, (.pair .str .unit), .sh, [0, 2, 3, 5, 7], [(2, 0), (7, 2)]⟩),
  (22, ⟨[.io (.sl .str) (.own .sh) (.own .sh) 0 [], .ro (.int .i64)], 1, (.pair (.int .i64) (.pair (.sl .str) .unit)), (.pr .sh (.pr (.own .sh) .sh)), [0, 1, 4, 5, 9], [(6, 1)]⟩),
  (45, ⟨[.io (.sl (.pair (.int .i64) (.pair .str .unit))) (.own .sh) (.own .sh) 0 [], .ro (.int .i64)], 1, (.pair (.int .i64) (.pair (.sl (.pair (.int .i64) (.pair .str .unit))) .unit)), (.pr .sh (.pr (.own .sh) .sh)), [0, 1, 4, 5, 9], [(8, 1)]⟩),
  (12, ⟨[.io (.pair (.sl .str) (.pair (.sl (.pair (.int .i64) (.pair .str .unit))) .unit)) (.pr (.own .sh) (.pr (.own .sh) .sh)) (.pr (.own .sh) (.pr (.own .sh) .sh)) 2 [.der], .ro (.int .i64)], 1, (.pair (.int .i64) (.pair (.pair (.sl .str) (.pair (.sl (.pair (.int .i64) (.pair .str .unit))) .unit)) .unit)), (.pr .sh (.pr (.pr (.own .sh) (.pr (.own .sh) .sh)) .sh)), [0, 1, 2, 4], [(3, 1)]⟩),
  (13, ⟨[.io (.sl (.int .i64)) (.own .sh) (.own .sh) 0 [], .ro (.int .i64)], 1, (.pair (.int .i64) (.pair (.sl (.int .i64)) .unit)), (.pr .sh (.pr (.own .sh) .sh)), [0, 1, 4, 5, 9], [(6, 1)]⟩),
  (14, ⟨[.ro (.sl (.int .i64)), .ro (.int .i64)], 1, (.pair (.int .i64) .unit), .sh, [0, 1, 4, 5, 9, 17], [(7, 1), (5, 0)]⟩),
  (3, ⟨[.ro (.pair (.sl .str) (.pair (.sl (.pair (.int .i64) (.pair .str .unit))) .unit))], 1, (.pair .bool .unit), .sh, [0, 1, 2, 3, 4, 5, 6, 7, 8, 9, 10, 11, 12, 13, 18, 40, 45, 61, 69, 72, 87, 92, 95], [(4, 0), (9, 0), (11, 0), (15, 0), (21, 0), (23, 0), (26, 0), (30, 0), (33, 0), (32, 0)]⟩)]
noncomputable def EE : Env := ⟨Go.Proofs.Try.prog, lookC cfgs⟩
/-- loop.example/g00548/laws.szStringS -/
noncomputable def c_38 (R : Run EE) (x0 : List (List UInt8)) (x1 : Int) : Option ((Int × Unit)) := R 38 [⟨(.sl .str), x0⟩, ⟨(.int .i64), x1⟩]
/-- loop.example/g00548/laws.szIo -/
noncomputable def c_71 (R : Run EE) (x0 : (Int × (List UInt8 × Unit))) (x1 : Int) : Option ((Int × Unit)) := R 71 [⟨(.pair (.int .i64) (.pair .str .unit)), x0⟩, ⟨(.int .i64), x1⟩]
/-- loop.example/g00548/laws.szIoS -/
noncomputable def c_39 (R : Run EE) (x0 : List ((Int × (List UInt8 × Unit)))) (x1 : Int) : Option ((Int × Unit)) := R 39 [⟨(.sl (.pair (.int .i64) (.pair .str .unit))), x0⟩, ⟨(.int .i64), x1⟩]
/-- loop.example/g00548/laws.szDevice -/
noncomputable def c_6 (R : Run EE) (x0 : (List (List UInt8) × (List ((Int × (List UInt8 × Unit))) × Unit))) (x1 : Int) : Option ((Int × Unit)) := R 6 [⟨(.pair (.sl .str) (.pair (.sl (.pair (.int .i64) (.pair .str .unit))) .unit)), x0⟩, ⟨(.int .i64), x1⟩]
/-- loop.example/g00548/laws.toStringS -/
noncomputable def c_41 (R : Run EE) (x0 : List (List UInt8)) : Option ((List (List UInt8) × Unit)) := R 41 [⟨(.sl .str), x0⟩]
/-- loop.example/g00548/laws.toIo -/
noncomputable def c_73 (R : Run EE) (x0 : (Int × (List UInt8 × Unit))) : Option (((Int × (List UInt8 × Unit)) × Unit)) := R 73 [⟨(.pair (.int .i64) (.pair .str .unit)), x0⟩]
/-- loop.example/g00548/laws.toIoS -/
noncomputable def c_42 (R : Run EE) (x0 : List ((Int × (List UInt8 × Unit)))) : Option ((List ((Int × (List UInt8 × Unit))) × Unit)) := R 42 [⟨(.sl (.pair (.int .i64) (.pair .str .unit))), x0⟩]
/-- loop.example/g00548/laws.toDevice -/
noncomputable def c_8 (R : Run EE) (x0 : (List (List UInt8) × (List ((Int × (List UInt8 × Unit))) × Unit))) : Option (((List (List UInt8) × (List ((Int × (List UInt8 × Unit))) × Unit)) × Unit)) := R 8 [⟨(.pair (.sl .str) (.pair (.sl (.pair (.int .i64) (.pair .str .unit))) .unit)), x0⟩]
/-- loop.example/g00548/spec.l01In -/
noncomputable def c_86 (R : Run EE) (x0 : Int) (x1 : Int) (x2 : Int) : Option ((Bool × Unit)) := R 86 [⟨(.int .i64), x0⟩, ⟨(.int .i64), x1⟩, ⟨(.int .i64), x2⟩]
/-- loop.example/g00548/spec.l05In -/
noncomputable def c_72 (R : Run EE) (x0 : Int) : Option ((Bool × Unit)) := R 72 [⟨(.int .i64), x0⟩]
/-- loop.example/g00548/spec.DeviceOK -/
noncomputable def c_40 (R : Run EE) (x0 : (List (List UInt8) × (List ((Int × (List UInt8 × Unit))) × Unit))) : Option ((Bool × Unit)) := R 40 [⟨(.pair (.sl .str) (.pair (.sl (.pair (.int .i64) (.pair .str .unit))) .unit)), x0⟩]
/-- loop.example/g00548/spec.SizesOf -/
noncomputable def c_7 (R : Run EE) (x0 : (List (List UInt8) × (List ((Int × (List UInt8 × Unit))) × Unit))) : Option ((List (Int) × (Int × Unit))) := R 7 [⟨(.pair (.sl .str) (.pair (.sl (.pair (.int .i64) (.pair .str .unit))) .unit)), x0⟩]
/-- loop.example/g00548/impl.areAll[string]$1 -/
noncomputable def c_98 (R : Run EE) (x0 : List UInt8) (x1 : FnVal) : Option ((Bool × Unit)) := R 98 [⟨.str, x0⟩, ⟨(.ptr .fn), x1⟩]
/-- slices.IndexFunc[[]string,string] -/
noncomputable def c_112 (R : Run EE) (x0 : List (List UInt8)) (x1 : FnVal) : Option ((Int × Unit)) := R 112 [⟨(.sl .str), x0⟩, ⟨.fn, x1⟩]
/-- slices.ContainsFunc[[]string,string] -/
noncomputable def c_97 (R : Run EE) (x0 : List (List UInt8)) (x1 : FnVal) : Option ((Bool × Unit)) := R 97 [⟨(.sl .str), x0⟩, ⟨.fn, x1⟩]
/-- loop.example/g00548/impl.areAll[string] -/
noncomputable def c_74 (R : Run EE) (x0 : List (List UInt8)) (x1 : FnVal) : Option ((Bool × Unit)) := R 74 [⟨(.sl .str), x0⟩, ⟨.fn, x1⟩]
/-- loop.example/g00548/impl.isContent -/
noncomputable def c_75 (R : Run EE) (x0 : List UInt8) : Option ((Bool × Unit)) := R 75 [⟨.str, x0⟩]
/-- loop.example/g00548/impl.areAll[loop.example/g00548/impl.Io]$1 -/
noncomputable def c_100 (R : Run EE) (x0 : (Int × (List UInt8 × Unit))) (x1 : FnVal) : Option ((Bool × Unit)) := R 100 [⟨(.pair (.int .i64) (.pair .str .unit)), x0⟩, ⟨(.ptr .fn), x1⟩]
/-- slices.IndexFunc[[]loop.example/g00548/impl.Io,loop.example/g00548/impl.Io] -/
noncomputable def c_113 (R : Run EE) (x0 : List ((Int × (List UInt8 × Unit)))) (x1 : FnVal) : Option ((Int × Unit)) := R 113 [⟨(.sl (.pair (.int .i64) (.pair .str .unit))), x0⟩, ⟨.fn, x1⟩]
/-- slices.ContainsFunc[[]loop.example/g00548/impl.Io,loop.example/g00548/impl.Io] -/
noncomputable def c_99 (R : Run EE) (x0 : List ((Int × (List UInt8 × Unit)))) (x1 : FnVal) : Option ((Bool × Unit)) := R 99 [⟨(.sl (.pair (.int .i64) (.pair .str .unit))), x0⟩, ⟨.fn, x1⟩]
/-- loop.example/g00548/impl.areAll[loop.example/g00548/impl.Io] -/
noncomputable def c_76 (R : Run EE) (x0 : List ((Int × (List UInt8 × Unit)))) (x1 : FnVal) : Option ((Bool × Unit)) := R 76 [⟨(.sl (.pair (.int .i64) (.pair .str .unit))), x0⟩, ⟨.fn, x1⟩]
/-- loop.example/g00548/impl.within -/
noncomputable def c_92 (R : Run EE) (x0 : Int) (x1 : Int) (x2 : Int) : Option ((Bool × Unit)) := R 92 [⟨(.int .i64), x0⟩, ⟨(.int .i64), x1⟩, ⟨(.int .i64), x2⟩]
/-- loop.example/g00548/impl.isSector -/
noncomputable def c_78 (R : Run EE) (x0 : Int) : Option ((Bool × Unit)) := R 78 [⟨(.int .i64), x0⟩]
/-- loop.example/g00548/impl.DeviceOK$1 -/
noncomputable def c_77 (R : Run EE) (x0 : (Int × (List UInt8 × Unit))) : Option ((Bool × Unit)) := R 77 [⟨(.pair (.int .i64) (.pair .str .unit)), x0⟩]
/-- loop.example/g00548/impl.DeviceOK -/
noncomputable def c_43 (R : Run EE) (x0 : (List (List UInt8) × (List ((Int × (List UInt8 × Unit))) × Unit))) : Option ((Bool × Unit)) := R 43 [⟨(.pair (.sl .str) (.pair (.sl (.pair (.int .i64) (.pair .str .unit))) .unit)), x0⟩]
/-- loop.example/g00548/impl.SizesOf -/
noncomputable def c_9 (R : Run EE) (x0 : (List (List UInt8) × (List ((Int × (List UInt8 × Unit))) × Unit))) : Option ((List (Int) × (Int × Unit))) := R 9 [⟨(.pair (.sl .str) (.pair (.sl (.pair (.int .i64) (.pair .str .unit))) .unit)), x0⟩]
/-- loop.example/g00548/laws.eqIntS -/
noncomputable def c_10 (R : Run EE) (x0 : List (Int)) (x1 : List (Int)) : Option ((Bool × Unit)) := R 10 [⟨(.sl (.int .i64)), x0⟩, ⟨(.sl (.int .i64)), x1⟩]
/-- loop.example/g00548/laws.eqStringS -/
noncomputable def c_19 (R : Run EE) (x0 : List (List UInt8)) (x1 : List (List UInt8)) : Option ((Bool × Unit)) := R 19 [⟨(.sl .str), x0⟩, ⟨(.sl .str), x1⟩]
/-- loop.example/g00548/laws.eqIo -/
noncomputable def c_79 (R : Run EE) (x0 : (Int × (List UInt8 × Unit))) (x1 : (Int × (List UInt8 × Unit))) : Option ((Bool × Unit)) := R 79 [⟨(.pair (.int .i64) (.pair .str .unit)), x0⟩, ⟨(.pair (.int .i64) (.pair .str .unit)), x1⟩]
/-- loop.example/g00548/laws.eqIoS -/
noncomputable def c_44 (R : Run EE) (x0 : List ((Int × (List UInt8 × Unit)))) (x1 : List ((Int × (List UInt8 × Unit)))) : Option ((Bool × Unit)) := R 44 [⟨(.sl (.pair (.int .i64) (.pair .str .unit))), x0⟩, ⟨(.sl (.pair (.int .i64) (.pair .str .unit))), x1⟩]
/-- loop.example/g00548/laws.eqDevice -/
noncomputable def c_11 (R : Run EE) (x0 : (List (List UInt8) × (List ((Int × (List UInt8 × Unit))) × Unit))) (x1 : (List (List UInt8) × (List ((Int × (List UInt8 × Unit))) × Unit))) : Option ((Bool × Unit)) := R 11 [⟨(.pair (.sl .str) (.pair (.sl (.pair (.int .i64) (.pair .str .unit))) .unit)), x0⟩, ⟨(.pair (.sl .str) (.pair (.sl (.pair (.int .i64) (.pair .str .unit))) .unit)), x1⟩]
/-- loop.example/g00548/laws.markText -/
noncomputable def c_56 (R : Run EE) (x0 : Int) : Option ((List UInt8 × Unit)) := R 56 [⟨(.int .i64), x0⟩]
/-- loop.example/g00548/laws.markStringS -/
noncomputable def c_22 (R : Run EE) (x0 : List (List UInt8)) (x1 : Int) : Option ((Int × (List (List UInt8) × Unit))) := R 22 [⟨(.sl .str), x0⟩, ⟨(.int .i64), x1⟩]
/-- loop.example/g00548/laws.markIoS -/
noncomputable def c_45 (R : Run EE) (x0 : List ((Int × (List UInt8 × Unit)))) (x1 : Int) : Option ((Int × (List ((Int × (List UInt8 × Unit))) × Unit))) := R 45 [⟨(.sl (.pair (.int .i64) (.pair .str .unit))), x0⟩, ⟨(.int .i64), x1⟩]
/-- loop.example/g00548/laws.markDevice -/
noncomputable def c_12 (R : Run EE) (x0 : (List (List UInt8) × (List ((Int × (List UInt8 × Unit))) × Unit))) (x1 : Int) : Option ((Int × ((List (List UInt8) × (List ((Int × (List UInt8 × Unit))) × Unit)) × Unit))) := R 12 [⟨(.pair (.sl .str) (.pair (.sl (.pair (.int .i64) (.pair .str .unit))) .unit)), x0⟩, ⟨(.int .i64), x1⟩]
/-- loop.example/g00548/laws.markIntS -/
noncomputable def c_13 (R : Run EE) (x0 : List (Int)) (x1 : Int) : Option ((Int × (List (Int) × Unit))) := R 13 [⟨(.sl (.int .i64)), x0⟩, ⟨(.int .i64), x1⟩]
/-- loop.example/g00548/laws.heldIntS -/
noncomputable def c_14 (R : Run EE) (x0 : List (Int)) (x1 : Int) : Option ((Int × Unit)) := R 14 [⟨(.sl (.int .i64)), x0⟩, ⟨(.int .i64), x1⟩]
/-- loop.example/g00548/laws.FnExactSizesOf -/
noncomputable def c_3 (R : Run EE) (x0 : (List (List UInt8) × (List ((Int × (List UInt8 × Unit))) × Unit))) : Option ((Bool × Unit)) := R 3 [⟨(.pair (.sl .str) (.pair (.sl (.pair (.int .i64) (.pair .str .unit))) .unit)), x0⟩]

noncomputable def lp_38_0 (R : Run EE) (L : Loops) (v0 : List (List UInt8)) (v1 : Int) (v4 : Int) (v5 : Int) : Option ((Int × Unit)) := from_ EE R L 38 Go.Proofs.Try.f38 [1, 1, 1, 0, 1, 0] (mk 28 [(0, .dat ⟨(.sl .str), v0, .sh⟩), (1, .dat ⟨(.int .i64), v1, .sh⟩), (4, .dat ⟨(.int .i64), v4, .sh⟩), (5, .dat ⟨(.int .i64), v5, .sh⟩)])
noncomputable def lp_39_0 (R : Run EE) (L : Loops) (v0 : List ((Int × (List UInt8 × Unit)))) (v1 : Int) (v4 : Int) (v5 : Int) : Option ((Int × Unit)) := from_ EE R L 39 Go.Proofs.Try.f39 [1, 1, 1, 0, 1, 0] (mk 27 [(0, .dat ⟨(.sl (.pair (.int .i64) (.pair .str .unit))), v0, .sh⟩), (1, .dat ⟨(.int .i64), v1, .sh⟩), (4, .dat ⟨(.int .i64), v4, .sh⟩), (5, .dat ⟨(.int .i64), v5, .sh⟩)])
noncomputable def lp_41_0 (R : Run EE) (L : Loops) (v0 : List (List UInt8)) (v2 : List (List UInt8)) (v3 : List (List UInt8)) (v4 : Int) : Option ((List (List UInt8) × Unit)) := from_ EE R L 41 Go.Proofs.Try.f41 [1, 1, 0, 1, 0] (mk 22 [(0, .dat ⟨(.sl .str), v0, .sh⟩), (2, .dat ⟨(.sl .str), v2, (.own .sh)⟩), (3, .dat ⟨(.sl .str), v3, (.own .sh)⟩), (4, .dat ⟨(.int .i64), v4, .sh⟩)])
noncomputable def lp_42_0 (R : Run EE) (L : Loops) (v0 : List ((Int × (List UInt8 × Unit)))) (v2 : List ((Int × (List UInt8 × Unit)))) (v3 : List ((Int × (List UInt8 × Unit)))) (v4 : Int) : Option ((List ((Int × (List UInt8 × Unit))) × Unit)) := from_ EE R L 42 Go.Proofs.Try.f42 [1, 1, 0, 1, 0] (mk 23 [(0, .dat ⟨(.sl (.pair (.int .i64) (.pair .str .unit))), v0, .sh⟩), (2, .dat ⟨(.sl (.pair (.int .i64) (.pair .str .unit))), v2, (.own .sh)⟩), (3, .dat ⟨(.sl (.pair (.int .i64) (.pair .str .unit))), v3, (.own .sh)⟩), (4, .dat ⟨(.int .i64), v4, .sh⟩)])
noncomputable def lp_40_0 (R : Run EE) (L : Loops) (v0 : (List (List UInt8) × (List ((Int × (List UInt8 × Unit))) × Unit))) (v1 : (List (List UInt8) × (List ((Int × (List UInt8 × Unit))) × Unit))) (v2 : Bool) (v3 : Int) : Option ((Bool × Unit)) := from_ EE R L 40 Go.Proofs.Try.f40 [1, 1, 0, 1, 0] (mk 54 [(0, .dat ⟨(.pair (.sl .str) (.pair (.sl (.pair (.int .i64) (.pair .str .unit))) .unit)), v0, .sh⟩), (1, .dat ⟨(.ptr (.pair (.sl .str) (.pair (.sl (.pair (.int .i64) (.pair .str .unit))) .unit))), v1, (.own .sh)⟩), (2, .dat ⟨.bool, v2, .sh⟩), (3, .dat ⟨(.int .i64), v3, .sh⟩)])
noncomputable def lp_40_1 (R : Run EE) (L : Loops) (v0 : (List (List UInt8) × (List ((Int × (List UInt8 × Unit))) × Unit))) (v1 : (List (List UInt8) × (List ((Int × (List UInt8 × Unit))) × Unit))) (v2 : Bool) (v3 : Int) (v4 : Int) : Option ((Bool × Unit)) := from_ EE R L 40 Go.Proofs.Try.f40 [1, 1, 1, 0, 1, 0] (mk 54 [(0, .dat ⟨(.pair (.sl .str) (.pair (.sl (.pair (.int .i64) (.pair .str .unit))) .unit)), v0, .sh⟩), (1, .dat ⟨(.ptr (.pair (.sl .str) (.pair (.sl (.pair (.int .i64) (.pair .str .unit))) .unit))), v1, (.own .sh)⟩), (2, .dat ⟨.bool, v2, .sh⟩), (3, .dat ⟨(.int .i64), v3, .sh⟩), (4, .dat ⟨(.int .i64), v4, .sh⟩)])
noncomputable def lp_7_0 (R : Run EE) (L : Loops) (v0 : (List (List UInt8) × (List ((Int × (List UInt8 × Unit))) × Unit))) (v1 : (List (List UInt8) × (List ((Int × (List UInt8 × Unit))) × Unit))) (v2 : List (Int)) (v3 : Int) (v4 : List (Int)) (v5 : Int) : Option ((List (Int) × (Int × Unit))) := from_ EE R L 7 Go.Proofs.Try.f7 [1, 1, 1, 0, 1, 0] (mk 28 [(0, .dat ⟨(.pair (.sl .str) (.pair (.sl (.pair (.int .i64) (.pair .str .unit))) .unit)), v0, .sh⟩), (1, .dat ⟨(.ptr (.pair (.sl .str) (.pair (.sl (.pair (.int .i64) (.pair .str .unit))) .unit))), v1, (.own .sh)⟩), (2, .dat ⟨(.sl (.int .i64)), v2, (.own .sh)⟩), (3, .dat ⟨(.int .i64), v3, .sh⟩), (4, .dat ⟨(.sl (.int .i64)), v4, (.own .sh)⟩), (5, .dat ⟨(.int .i64), v5, .sh⟩)])
noncomputable def lp_112_0 (R : Run EE) (L : Loops) (v0 : List (List UInt8)) (v1 : FnVal) (v4 : Int) (v7 : Int) (v8 : Int) : Option ((Int × Unit)) := from_ EE R L 112 Go.Proofs.Try.f112 [1, 0, 1, 0] (mk 19 [(0, .dat ⟨(.sl .str), v0, .sh⟩), (1, .dat ⟨.fn, v1, .sh⟩), (4, .dat ⟨(.int .i64), v4, .sh⟩), (7, .dat ⟨(.int .i64), v7, .sh⟩), (8, .dat ⟨(.int .i64), v8, .sh⟩)])
noncomputable def lp_112_1 (R : Run EE) (L : Loops) (v0 : List (List UInt8)) (v1 : FnVal) (v4 : Int) (v5 : Int) (v7 : Int) (v8 : Int) : Option ((Int × Unit)) := from_ EE R L 112 Go.Proofs.Try.f112 [1, 0, 1, 0] (mk 19 [(0, .dat ⟨(.sl .str), v0, .sh⟩), (1, .dat ⟨.fn, v1, .sh⟩), (4, .dat ⟨(.int .i64), v4, .sh⟩), (5, .dat ⟨(.int .i64), v5, .sh⟩), (7, .dat ⟨(.int .i64), v7, .sh⟩), (8, .dat ⟨(.int .i64), v8, .sh⟩)])
noncomputable def lp_113_0 (R : Run EE) (L : Loops) (v0 : List ((Int × (List UInt8 × Unit)))) (v1 : FnVal) (v4 : Int) (v7 : Int) (v8 : Int) : Option ((Int × Unit)) := from_ EE R L 113 Go.Proofs.Try.f113 [1, 0, 1, 0] (mk 19 [(0, .dat ⟨(.sl (.pair (.int .i64) (.pair .str .unit))), v0, .sh⟩), (1, .dat ⟨.fn, v1, .sh⟩), (4, .dat ⟨(.int .i64), v4, .sh⟩), (7, .dat ⟨(.int .i64), v7, .sh⟩), (8, .dat ⟨(.int .i64), v8, .sh⟩)])
noncomputable def lp_113_1 (R : Run EE) (L : Loops) (v0 : List ((Int × (List UInt8 × Unit)))) (v1 : FnVal) (v4 : Int) (v5 : Int) (v7 : Int) (v8 : Int) : Option ((Int × Unit)) := from_ EE R L 113 Go.Proofs.Try.f113 [1, 0, 1, 0] (mk 19 [(0, .dat ⟨(.sl (.pair (.int .i64) (.pair .str .unit))), v0, .sh⟩), (1, .dat ⟨.fn, v1, .sh⟩), (4, .dat ⟨(.int .i64), v4, .sh⟩), (5, .dat ⟨(.int .i64), v5, .sh⟩), (7, .dat ⟨(.int .i64), v7, .sh⟩), (8, .dat ⟨(.int .i64), v8, .sh⟩)])
noncomputable def lp_9_0 (R : Run EE) (L : Loops) (v0 : (List (List UInt8) × (List ((Int × (List UInt8 × Unit))) × Unit))) (v1 : (List (List UInt8) × (List ((Int × (List UInt8 × Unit))) × Unit))) (v2 : List (Int)) (v3 : Int) (v4 : List (Int)) (v11 : List (List UInt8)) (v12 : Int) (v13 : Int) : Option ((List (Int) × (Int × Unit))) := from_ EE R L 9 Go.Proofs.Try.f9 [1, 1, 1, 0, 1, 0] (mk 24 [(0, .dat ⟨(.pair (.sl .str) (.pair (.sl (.pair (.int .i64) (.pair .str .unit))) .unit)), v0, .sh⟩), (1, .dat ⟨(.ptr (.pair (.sl .str) (.pair (.sl (.pair (.int .i64) (.pair .str .unit))) .unit))), v1, (.own .sh)⟩), (2, .dat ⟨(.sl (.int .i64)), v2, (.own .sh)⟩), (3, .dat ⟨(.int .i64), v3, .sh⟩), (4, .dat ⟨(.sl (.int .i64)), v4, (.own .sh)⟩), (11, .dat ⟨(.sl .str), v11, .sh⟩), (12, .dat ⟨(.int .i64), v12, .sh⟩), (13, .dat ⟨(.int .i64), v13, .sh⟩)])
noncomputable def lp_9_1 (R : Run EE) (L : Loops) (v0 : (List (List UInt8) × (List ((Int × (List UInt8 × Unit))) × Unit))) (v1 : (List (List UInt8) × (List ((Int × (List UInt8 × Unit))) × Unit))) (v2 : List (Int)) (v3 : Int) (v4 : List (Int)) (v6 : List UInt8) (v11 : List (List UInt8)) (v12 : Int) (v13 : Int) : Option ((List (Int) × (Int × Unit))) := from_ EE R L 9 Go.Proofs.Try.f9 [1, 1, 1, 0, 1, 0] (mk 24 [(0, .dat ⟨(.pair (.sl .str) (.pair (.sl (.pair (.int .i64) (.pair .str .unit))) .unit)), v0, .sh⟩), (1, .dat ⟨(.ptr (.pair (.sl .str) (.pair (.sl (.pair (.int .i64) (.pair .str .unit))) .unit))), v1, (.own .sh)⟩), (2, .dat ⟨(.sl (.int .i64)), v2, (.own .sh)⟩), (3, .dat ⟨(.int .i64), v3, .sh⟩), (4, .dat ⟨(.sl (.int .i64)), v4, (.own .sh)⟩), (6, .dat ⟨.str, v6, .sh⟩), (11, .dat ⟨(.sl .str), v11, .sh⟩), (12, .dat ⟨(.int .i64), v12, .sh⟩), (13, .dat ⟨(.int .i64), v13, .sh⟩)])
noncomputable def lp_10_0 (R : Run EE) (L : Loops) (v0 : List (Int)) (v1 : List (Int)) (v4 : Bool) (v5 : Int) : Option ((Bool × Unit)) := from_ EE R L 10 Go.Proofs.Try.f10 [1, 1, 0, 1, 0] (mk 26 [(0, .dat ⟨(.sl (.int .i64)), v0, .sh⟩), (1, .dat ⟨(.sl (.int .i64)), v1, .sh⟩), (4, .dat ⟨.bool, v4, .sh⟩), (5, .dat ⟨(.int .i64), v5, .sh⟩)])
noncomputable def lp_19_0 (R : Run EE) (L : Loops) (v0 : List (List UInt8)) (v1 : List (List UInt8)) (v4 : Bool) (v5 : Int) : Option ((Bool × Unit)) := from_ EE R L 19 Go.Proofs.Try.f19 [1, 1, 0, 1, 0] (mk 26 [(0, .dat ⟨(.sl .str), v0, .sh⟩), (1, .dat ⟨(.sl .str), v1, .sh⟩), (4, .dat ⟨.bool, v4, .sh⟩), (5, .dat ⟨(.int .i64), v5, .sh⟩)])
noncomputable def lp_44_0 (R : Run EE) (L : Loops) (v0 : List ((Int × (List UInt8 × Unit)))) (v1 : List ((Int × (List UInt8 × Unit)))) (v4 : Bool) (v5 : Int) : Option ((Bool × Unit)) := from_ EE R L 44 Go.Proofs.Try.f44 [1, 1, 0, 1, 0] (mk 27 [(0, .dat ⟨(.sl (.pair (.int .i64) (.pair .str .unit))), v0, .sh⟩), (1, .dat ⟨(.sl (.pair (.int .i64) (.pair .str .unit))), v1, .sh⟩), (4, .dat ⟨.bool, v4, .sh⟩), (5, .dat ⟨(.int .i64), v5, .sh⟩)])
noncomputable def lp_56_0 (R : Run EE) (L : Loops) (v0 : Int) (v2 : List UInt8) (v3 : List UInt8) : Option ((List UInt8 × Unit)) := from_ EE R L 56 Go.Proofs.Try.f56 [1, 1, 1, 0, 0] (mk 20 [(0, .dat ⟨(.int .i64), v0, .sh⟩), (2, .dat ⟨.str, v2, .sh⟩), (3, .dat ⟨.str, v3, .sh⟩)])
noncomputable def lp_22_0 (R : Run EE) (L : Loops) (v0 : List (List UInt8)) (v1 : Int) (v4 : Int) (v5 : Int) : Option ((Int × (List (List UInt8) × Unit))) := from_ EE R L 22 Go.Proofs.Try.f22 [1, 0, 1, 0] (mk 20 [(0, .dat ⟨(.sl .str), v0, (.pin 0 (.own .sh))⟩), (1, .dat ⟨(.int .i64), v1, .sh⟩), (4, .dat ⟨(.int .i64), v4, .sh⟩), (5, .dat ⟨(.int .i64), v5, .sh⟩)])
noncomputable def lp_45_0 (R : Run EE) (L : Loops) (v0 : List ((Int × (List UInt8 × Unit)))) (v1 : Int) (v4 : Int) (v5 : Int) : Option ((Int × (List ((Int × (List UInt8 × Unit))) × Unit))) := from_ EE R L 45 Go.Proofs.Try.f45 [1, 0, 1, 0] (mk 28 [(0, .dat ⟨(.sl (.pair (.int .i64) (.pair .str .unit))), v0, (.pin 0 (.own .sh))⟩), (1, .dat ⟨(.int .i64), v1, .sh⟩), (4, .dat ⟨(.int .i64), v4, .sh⟩), (5, .dat ⟨(.int .i64), v5, .sh⟩)])
noncomputable def lp_13_0 (R : Run EE) (L : Loops) (v0 : List (Int)) (v1 : Int) (v4 : Int) (v5 : Int) : Option ((Int × (List (Int) × Unit))) := from_ EE R L 13 Go.Proofs.Try.f13 [1, 0, 1, 0] (mk 19 [(0, .dat ⟨(.sl (.int .i64)), v0, (.pin 0 (.own .sh))⟩), (1, .dat ⟨(.int .i64), v1, .sh⟩), (4, .dat ⟨(.int .i64), v4, .sh⟩), (5, .dat ⟨(.int .i64), v5, .sh⟩)])
noncomputable def lp_14_0 (R : Run EE) (L : Loops) (v0 : List (Int)) (v1 : Int) (v4 : Int) (v5 : Int) : Option ((Int × Unit)) := from_ EE R L 14 Go.Proofs.Try.f14 [1, 0, 1, 0] (mk 21 [(0, .dat ⟨(.sl (.int .i64)), v0, .sh⟩), (1, .dat ⟨(.int .i64), v1, .sh⟩), (4, .dat ⟨(.int .i64), v4, .sh⟩), (5, .dat ⟨(.int .i64), v5, .sh⟩)])

/-- loop.example/g00548/laws.szStringS -/
theorem q_38 (R : Run EE) (L : Loops) (x0 : List (List UInt8)) (x1 : Int) : @Eq (Option ((Int × Unit))) (bodyK EE R L 38 [⟨(.sl .str), x0⟩, ⟨(.int .i64), x1⟩]) (
  cond (decide ((Go.IntKind.wrap .i64 (x1 - (((List.length x0) : Nat) : Int))) < (0 : Int)))
  (some ((-(1 : Int)), ()))
  (lp_38_0 R L x0 (Go.IntKind.wrap .i64 (x1 - (((List.length x0) : Nat) : Int))) (0 : Int) (0 : Int))) := by kernel_rfl
theorem q_38_0 (R : Run EE) (L : Loops) (v0 : List (List UInt8)) (v1 : Int) (v4 : Int) (v5 : Int) : @Eq (Option ((Int × Unit))) (from_ EE R L 38 Go.Proofs.Try.f38 [1, 1, 1, 0, 1, 0, 0] (mk 28 [(0, .dat ⟨(.sl .str), v0, .sh⟩), (1, .dat ⟨(.int .i64), v1, .sh⟩), (4, .dat ⟨(.int .i64), v4, .sh⟩), (5, .dat ⟨(.int .i64), v5, .sh⟩)])) (
  cond (decide (v5 < (((List.length v0) : Nat) : Int)))
  (cond (Go.Rf.nonneg v5)
    (cond (Nat.blt (Int.toNat v5) (List.length v0))
      (cond (decide ((Go.IntKind.wrap .i64 (v1 - (((List.length (List.getD v0 (Int.toNat v5) ([] : List (UInt8)))) : Nat) : Int))) < (0 : Int)))
        (some ((-(1 : Int)), ()))
        (lp_38_0 R L v0 (Go.IntKind.wrap .i64 (v1 - (((List.length (List.getD v0 (Int.toNat v5) ([] : List (UInt8)))) : Nat) : Int))) v4 (Go.IntKind.wrap .i64 (v5 + (1 : Int)))))
      (none))
    (none))
  (some (v1, ()))) := by kernel_rfl
/-- loop.example/g00548/laws.szIo -/
theorem q_71 (R : Run EE) (L : Loops) (x0 : (Int × (List UInt8 × Unit))) (x1 : Int) : @Eq (Option ((Int × Unit))) (bodyK EE R L 71 [⟨(.pair (.int .i64) (.pair .str .unit)), x0⟩, ⟨(.int .i64), x1⟩]) (
  cond (decide ((Go.IntKind.wrap .i64 (x1 - (((List.length x0.2.1) : Nat) : Int))) < (0 : Int)))
  (some ((-(1 : Int)), ()))
  (some ((Go.IntKind.wrap .i64 (x1 - (((List.length x0.2.1) : Nat) : Int))), ()))) := by kernel_rfl
/-- loop.example/g00548/laws.szIoS -/
theorem q_39 (R : Run EE) (L : Loops) (x0 : List ((Int × (List UInt8 × Unit)))) (x1 : Int) : @Eq (Option ((Int × Unit))) (bodyK EE R L 39 [⟨(.sl (.pair (.int .i64) (.pair .str .unit))), x0⟩, ⟨(.int .i64), x1⟩]) (
  cond (decide ((Go.IntKind.wrap .i64 (x1 - (((List.length x0) : Nat) : Int))) < (0 : Int)))
  (some ((-(1 : Int)), ()))
  (lp_39_0 R L x0 (Go.IntKind.wrap .i64 (x1 - (((List.length x0) : Nat) : Int))) (0 : Int) (0 : Int))) := by kernel_rfl
theorem q_39_0 (R : Run EE) (L : Loops) (v0 : List ((Int × (List UInt8 × Unit)))) (v1 : Int) (v4 : Int) (v5 : Int) : @Eq (Option ((Int × Unit))) (from_ EE R L 39 Go.Proofs.Try.f39 [1, 1, 1, 0, 1, 0, 0] (mk 27 [(0, .dat ⟨(.sl (.pair (.int .i64) (.pair .str .unit))), v0, .sh⟩), (1, .dat ⟨(.int .i64), v1, .sh⟩), (4, .dat ⟨(.int .i64), v4, .sh⟩), (5, .dat ⟨(.int .i64), v5, .sh⟩)])) (
  cond (decide (v5 < (((List.length v0) : Nat) : Int)))
  (cond (Go.Rf.nonneg v5)
    (cond (Nat.blt (Int.toNat v5) (List.length v0))
      ((c_71 R (List.getD v0 (Int.toNat v5) ((0 : Int), (([] : List (UInt8)), ()))) v1).bind fun r0 =>
        cond (decide (r0.1 < (0 : Int)))
        (some ((-(1 : Int)), ()))
        (lp_39_0 R L v0 r0.1 v4 (Go.IntKind.wrap .i64 (v5 + (1 : Int)))))
      (none))
    (none))
  (some (v1, ()))) := by kernel_rfl
/-- loop.example/g00548/laws.szDevice -/
theorem q_6 (R : Run EE) (L : Loops) (x0 : (List (List UInt8) × (List ((Int × (List UInt8 × Unit))) × Unit))) (x1 : Int) : @Eq (Option ((Int × Unit))) (bodyK EE R L 6 [⟨(.pair (.sl .str) (.pair (.sl (.pair (.int .i64) (.pair .str .unit))) .unit)), x0⟩, ⟨(.int .i64), x1⟩]) (
  (c_38 R x0.1 x1).bind fun r0 =>
  cond (decide (r0.1 < (0 : Int)))
  (some ((-(1 : Int)), ()))
  ((c_39 R x0.2.1 r0.1).bind fun r1 =>
    cond (decide (r1.1 < (0 : Int)))
    (some ((-(1 : Int)), ()))
    (some (r1.1, ())))) := by kernel_rfl
/-- loop.example/g00548/laws.toStringS -/
theorem q_41 (R : Run EE) (L : Loops) (x0 : List (List UInt8)) : @Eq (Option ((List (List UInt8) × Unit))) (bodyK EE R L 41 [⟨(.sl .str), x0⟩]) (
  cond (Go.Rf.leI (((List.length x0) : Nat) : Int) (((List.length x0) : Nat) : Int))
  (cond (Go.Rf.lenOK (Int.toNat (((List.length x0) : Nat) : Int)))
    (lp_41_0 R L x0 ([] : List (List (UInt8))) (List.replicate (Int.toNat (((List.length x0) : Nat) : Int)) ([] : List (UInt8))) (0 : Int))
    (none))
  (none)) := by kernel_rfl
theorem q_41_0 (R : Run EE) (L : Loops) (v0 : List (List UInt8)) (v2 : List (List UInt8)) (v3 : List (List UInt8)) (v4 : Int) : @Eq (Option ((List (List UInt8) × Unit))) (from_ EE R L 41 Go.Proofs.Try.f41 [1, 1, 0, 1, 0, 0] (mk 22 [(0, .dat ⟨(.sl .str), v0, .sh⟩), (2, .dat ⟨(.sl .str), v2, (.own .sh)⟩), (3, .dat ⟨(.sl .str), v3, (.own .sh)⟩), (4, .dat ⟨(.int .i64), v4, .sh⟩)])) (
  cond (decide (v4 < (((List.length v0) : Nat) : Int)))
  (cond (Go.Rf.nonneg v4)
    (cond (Nat.blt (Int.toNat v4) (List.length v0))
      (cond (Go.Rf.nonneg v4)
        (cond (Nat.blt (Int.toNat v4) (List.length v3))
          (lp_41_0 R L v0 v2 (List.set v3 (Int.toNat v4) (List.getD v0 (Int.toNat v4) ([] : List (UInt8)))) (Go.IntKind.wrap .i64 (v4 + (1 : Int))))
          (none))
        (none))
      (none))
    (none))
  (some (v3, ()))) := by kernel_rfl
/-- loop.example/g00548/laws.toIo -/
theorem q_73 (R : Run EE) (L : Loops) (x0 : (Int × (List UInt8 × Unit))) : @Eq (Option (((Int × (List UInt8 × Unit)) × Unit))) (bodyK EE R L 73 [⟨(.pair (.int .i64) (.pair .str .unit)), x0⟩]) (
  some (((x0.1, (([] : List (UInt8)), ())).1, (x0.2.1, (x0.1, (([] : List (UInt8)), ())).2.2)), ())) := by kernel_rfl
/-- loop.example/g00548/laws.toIoS -/
theorem q_42 (R : Run EE) (L : Loops) (x0 : List ((Int × (List UInt8 × Unit)))) : @Eq (Option ((List ((Int × (List UInt8 × Unit))) × Unit))) (bodyK EE R L 42 [⟨(.sl (.pair (.int .i64) (.pair .str .unit))), x0⟩]) (
  cond (Go.Rf.leI (((List.length x0) : Nat) : Int) (((List.length x0) : Nat) : Int))
  (cond (Go.Rf.lenOK (Int.toNat (((List.length x0) : Nat) : Int)))
    (lp_42_0 R L x0 ([] : List ((Int × (List (UInt8) × Unit)))) (List.replicate (Int.toNat (((List.length x0) : Nat) : Int)) ((0 : Int), (([] : List (UInt8)), ()))) (0 : Int))
    (none))
  (none)) := by kernel_rfl
theorem q_42_0 (R : Run EE) (L : Loops) (v0 : List ((Int × (List UInt8 × Unit)))) (v2 : List ((Int × (List UInt8 × Unit)))) (v3 : List ((Int × (List UInt8 × Unit)))) (v4 : Int) : @Eq (Option ((List ((Int × (List UInt8 × Unit))) × Unit))) (from_ EE R L 42 Go.Proofs.Try.f42 [1, 1, 0, 1, 0, 0] (mk 23 [(0, .dat ⟨(.sl (.pair (.int .i64) (.pair .str .unit))), v0, .sh⟩), (2, .dat ⟨(.sl (.pair (.int .i64) (.pair .str .unit))), v2, (.own .sh)⟩), (3, .dat ⟨(.sl (.pair (.int .i64) (.pair .str .unit))), v3, (.own .sh)⟩), (4, .dat ⟨(.int .i64), v4, .sh⟩)])) (
  cond (decide (v4 < (((List.length v0) : Nat) : Int)))
  (cond (Go.Rf.nonneg v4)
    (cond (Nat.blt (Int.toNat v4) (List.length v0))
      ((c_73 R (List.getD v0 (Int.toNat v4) ((0 : Int), (([] : List (UInt8)), ())))).bind fun r0 =>
        cond (Go.Rf.nonneg v4)
        (cond (Nat.blt (Int.toNat v4) (List.length v3))
          (lp_42_0 R L v0 v2 (List.set v3 (Int.toNat v4) r0.1) (Go.IntKind.wrap .i64 (v4 + (1 : Int))))
          (none))
        (none))
      (none))
    (none))
  (some (v3, ()))) := by kernel_rfl
/-- loop.example/g00548/laws.toDevice -/
theorem q_8 (R : Run EE) (L : Loops) (x0 : (List (List UInt8) × (List ((Int × (List UInt8 × Unit))) × Unit))) : @Eq (Option (((List (List UInt8) × (List ((Int × (List UInt8 × Unit))) × Unit)) × Unit))) (bodyK EE R L 8 [⟨(.pair (.sl .str) (.pair (.sl (.pair (.int .i64) (.pair .str .unit))) .unit)), x0⟩]) (
  (c_41 R x0.1).bind fun r0 =>
  (c_42 R x0.2.1).bind fun r1 =>
  some (((r0.1, (([] : List ((Int × (List (UInt8) × Unit)))), ())).1, (r1.1, (r0.1, (([] : List ((Int × (List (UInt8) × Unit)))), ())).2.2)), ())) := by kernel_rfl
/-- loop.example/g00548/spec.l01In -/
theorem q_86 (R : Run EE) (L : Loops) (x0 : Int) (x1 : Int) (x2 : Int) : @Eq (Option ((Bool × Unit))) (bodyK EE R L 86 [⟨(.int .i64), x0⟩, ⟨(.int .i64), x1⟩, ⟨(.int .i64), x2⟩]) (
  cond (decide (x1 ≤ x0))
  (some ((decide (x0 ≤ x2)), ()))
  (some (false, ()))) := by kernel_rfl
/-- loop.example/g00548/spec.l05In -/
theorem q_72 (R : Run EE) (L : Loops) (x0 : Int) : @Eq (Option ((Bool × Unit))) (bodyK EE R L 72 [⟨(.int .i64), x0⟩]) (
  (c_86 R x0 (0 : Int) (39 : Int)).bind fun r0 =>
  some (r0.1, ())) := by kernel_rfl
/-- loop.example/g00548/spec.DeviceOK -/
theorem q_40 (R : Run EE) (L : Loops) (x0 : (List (List UInt8) × (List ((Int × (List UInt8 × Unit))) × Unit))) : @Eq (Option ((Bool × Unit))) (bodyK EE R L 40 [⟨(.pair (.sl .str) (.pair (.sl (.pair (.int .i64) (.pair .str .unit))) .unit)), x0⟩]) (
  cond (!(Go.Rf.eqI (((List.length x0.1) : Nat) : Int) (40 : Int)))
  (some (false, ()))
  (cond (decide ((60 : Int) < (((List.length x0.2.1) : Nat) : Int)))
    (some (false, ()))
    (lp_40_0 R L x0 x0 false (0 : Int)))) := by kernel_rfl
theorem q_40_0 (R : Run EE) (L : Loops) (v0 : (List (List UInt8) × (List ((Int × (List UInt8 × Unit))) × Unit))) (v1 : (List (List UInt8) × (List ((Int × (List UInt8 × Unit))) × Unit))) (v2 : Bool) (v3 : Int) : @Eq (Option ((Bool × Unit))) (from_ EE R L 40 Go.Proofs.Try.f40 [1, 1, 0, 1, 0, 0] (mk 54 [(0, .dat ⟨(.pair (.sl .str) (.pair (.sl (.pair (.int .i64) (.pair .str .unit))) .unit)), v0, .sh⟩), (1, .dat ⟨(.ptr (.pair (.sl .str) (.pair (.sl (.pair (.int .i64) (.pair .str .unit))) .unit))), v1, (.own .sh)⟩), (2, .dat ⟨.bool, v2, .sh⟩), (3, .dat ⟨(.int .i64), v3, .sh⟩)])) (
  cond (decide (v3 < (((List.length v1.1) : Nat) : Int)))
  (cond (Go.Rf.nonneg v3)
    (cond (Nat.blt (Int.toNat v3) (List.length v1.1))
      (cond (decide ((700 : Int) < (((List.length (List.getD v1.1 (Int.toNat v3) ([] : List (UInt8)))) : Nat) : Int)))
        (some (false, ()))
        (lp_40_0 R L v0 v1 v2 (Go.IntKind.wrap .i64 (v3 + (1 : Int)))))
      (none))
    (none))
  (lp_40_1 R L v0 v1 v2 v3 (0 : Int))) := by kernel_rfl
theorem q_40_1 (R : Run EE) (L : Loops) (v0 : (List (List UInt8) × (List ((Int × (List UInt8 × Unit))) × Unit))) (v1 : (List (List UInt8) × (List ((Int × (List UInt8 × Unit))) × Unit))) (v2 : Bool) (v3 : Int) (v4 : Int) : @Eq (Option ((Bool × Unit))) (from_ EE R L 40 Go.Proofs.Try.f40 [1, 1, 1, 0, 1, 0, 0] (mk 54 [(0, .dat ⟨(.pair (.sl .str) (.pair (.sl (.pair (.int .i64) (.pair .str .unit))) .unit)), v0, .sh⟩), (1, .dat ⟨(.ptr (.pair (.sl .str) (.pair (.sl (.pair (.int .i64) (.pair .str .unit))) .unit))), v1, (.own .sh)⟩), (2, .dat ⟨.bool, v2, .sh⟩), (3, .dat ⟨(.int .i64), v3, .sh⟩), (4, .dat ⟨(.int .i64), v4, .sh⟩)])) (
  cond (decide (v4 < (((List.length v1.2.1) : Nat) : Int)))
  (cond (Go.Rf.nonneg v4)
    (cond (Nat.blt (Int.toNat v4) (List.length v1.2.1))
      ((c_72 R (List.getD v1.2.1 (Int.toNat v4) ((0 : Int), (([] : List (UInt8)), ()))).1).bind fun r0 =>
        cond (!r0.1)
        (some (false, ()))
        (cond (Go.Rf.nonneg v4)
          (cond (Nat.blt (Int.toNat v4) (List.length v1.2.1))
            (cond (decide ((700 : Int) < (((List.length (List.getD v1.2.1 (Int.toNat v4) ((0 : Int), (([] : List (UInt8)), ()))).2.1) : Nat) : Int)))
              (some (false, ()))
              (lp_40_1 R L v0 v1 v2 v3 (Go.IntKind.wrap .i64 (v4 + (1 : Int)))))
            (none))
          (none)))
      (none))
    (none))
  (some (true, ()))) := by kernel_rfl
/-- loop.example/g00548/spec.SizesOf -/
theorem q_7 (R : Run EE) (L : Loops) (x0 : (List (List UInt8) × (List ((Int × (List UInt8 × Unit))) × Unit))) : @Eq (Option ((List (Int) × (Int × Unit)))) (bodyK EE R L 7 [⟨(.pair (.sl .str) (.pair (.sl (.pair (.int .i64) (.pair .str .unit))) .unit)), x0⟩]) (
  (c_40 R x0).bind fun r0 =>
  cond (!r0.1)
  (some (([] : List (Int)), ((1 : Int), ())))
  (lp_7_0 R L x0 x0 ([] : List (Int)) (0 : Int) ([] : List (Int)) (0 : Int))) := by kernel_rfl
theorem q_7_0 (R : Run EE) (L : Loops) (v0 : (List (List UInt8) × (List ((Int × (List UInt8 × Unit))) × Unit))) (v1 : (List (List UInt8) × (List ((Int × (List UInt8 × Unit))) × Unit))) (v2 : List (Int)) (v3 : Int) (v4 : List (Int)) (v5 : Int) : @Eq (Option ((List (Int) × (Int × Unit)))) (from_ EE R L 7 Go.Proofs.Try.f7 [1, 1, 1, 0, 1, 0, 0] (mk 28 [(0, .dat ⟨(.pair (.sl .str) (.pair (.sl (.pair (.int .i64) (.pair .str .unit))) .unit)), v0, .sh⟩), (1, .dat ⟨(.ptr (.pair (.sl .str) (.pair (.sl (.pair (.int .i64) (.pair .str .unit))) .unit))), v1, (.own .sh)⟩), (2, .dat ⟨(.sl (.int .i64)), v2, (.own .sh)⟩), (3, .dat ⟨(.int .i64), v3, .sh⟩), (4, .dat ⟨(.sl (.int .i64)), v4, (.own .sh)⟩), (5, .dat ⟨(.int .i64), v5, .sh⟩)])) (
  cond (decide (v5 < (((List.length v1.1) : Nat) : Int)))
  (cond (Go.Rf.nonneg v5)
    (cond (Nat.blt (Int.toNat v5) (List.length v1.1))
      (cond (Go.Rf.lenOK ((List.length v4) + (List.length ((((List.length (List.getD v1.1 (Int.toNat v5) ([] : List (UInt8)))) : Nat) : Int) :: ([] : List (Int))))))
        (lp_7_0 R L v0 v1 v2 v3 (v4 ++ ((((List.length (List.getD v1.1 (Int.toNat v5) ([] : List (UInt8)))) : Nat) : Int) :: ([] : List (Int)))) (Go.IntKind.wrap .i64 (v5 + (1 : Int))))
        (none))
      (none))
    (none))
  (some (v4, ((0 : Int), ())))) := by kernel_rfl
/-- loop.example/g00548/impl.areAll[string]$1 -/
theorem q_98 (R : Run EE) (L : Loops) (x0 : List UInt8) (x1 : FnVal) : @Eq (Option ((Bool × Unit))) (bodyK EE R L 98 [⟨.str, x0⟩, ⟨(.ptr .fn), x1⟩]) (
  (callVB EE R x1 [⟨.str, (x0 : List UInt8)⟩]).bind fun (r0 : Bool) =>
  some ((!r0), ())) := by kernel_rfl
/-- slices.IndexFunc[[]string,string] -/
theorem q_112 (R : Run EE) (L : Loops) (x0 : List (List UInt8)) (x1 : FnVal) : @Eq (Option ((Int × Unit))) (bodyK EE R L 112 [⟨(.sl .str), x0⟩, ⟨.fn, x1⟩]) (
  lp_112_0 R L x0 x1 (0 : Int) (((List.length x0) : Nat) : Int) (0 : Int)) := by kernel_rfl
theorem q_112_0 (R : Run EE) (L : Loops) (v0 : List (List UInt8)) (v1 : FnVal) (v4 : Int) (v7 : Int) (v8 : Int) : @Eq (Option ((Int × Unit))) (from_ EE R L 112 Go.Proofs.Try.f112 [1, 0, 1, 0, 0] (mk 19 [(0, .dat ⟨(.sl .str), v0, .sh⟩), (1, .dat ⟨.fn, v1, .sh⟩), (4, .dat ⟨(.int .i64), v4, .sh⟩), (7, .dat ⟨(.int .i64), v7, .sh⟩), (8, .dat ⟨(.int .i64), v8, .sh⟩)])) (
  cond (decide (v8 < v7))
  (cond (Go.Rf.nonneg v8)
    (cond (Nat.blt (Int.toNat v8) (List.length v0))
      ((callVB EE R v1 [⟨.str, ((List.getD v0 (Int.toNat v8) ([] : List (UInt8))) : List UInt8)⟩]).bind fun (r0 : Bool) =>
        cond r0
        (some (v8, ()))
        (lp_112_1 R L v0 v1 v4 v8 v7 (Go.IntKind.wrap .i64 (v8 + (1 : Int)))))
      (none))
    (none))
  (some ((-(1 : Int)), ()))) := by kernel_rfl
theorem q_112_1 (R : Run EE) (L : Loops) (v0 : List (List UInt8)) (v1 : FnVal) (v4 : Int) (v5 : Int) (v7 : Int) (v8 : Int) : @Eq (Option ((Int × Unit))) (from_ EE R L 112 Go.Proofs.Try.f112 [1, 0, 1, 0, 0] (mk 19 [(0, .dat ⟨(.sl .str), v0, .sh⟩), (1, .dat ⟨.fn, v1, .sh⟩), (4, .dat ⟨(.int .i64), v4, .sh⟩), (5, .dat ⟨(.int .i64), v5, .sh⟩), (7, .dat ⟨(.int .i64), v7, .sh⟩), (8, .dat ⟨(.int .i64), v8, .sh⟩)])) (
  cond (decide (v8 < v7))
  (cond (Go.Rf.nonneg v8)
    (cond (Nat.blt (Int.toNat v8) (List.length v0))
      ((callVB EE R v1 [⟨.str, ((List.getD v0 (Int.toNat v8) ([] : List (UInt8))) : List UInt8)⟩]).bind fun (r0 : Bool) =>
        cond r0
        (some (v8, ()))
        (lp_112_1 R L v0 v1 v4 v8 v7 (Go.IntKind.wrap .i64 (v8 + (1 : Int)))))
      (none))
    (none))
  (some ((-(1 : Int)), ()))) := by kernel_rfl
/-- slices.ContainsFunc[[]string,string] -/
theorem q_97 (R : Run EE) (L : Loops) (x0 : List (List UInt8)) (x1 : FnVal) : @Eq (Option ((Bool × Unit))) (bodyK EE R L 97 [⟨(.sl .str), x0⟩, ⟨.fn, x1⟩]) (
  (c_112 R x0 x1).bind fun r0 =>
  some ((decide ((0 : Int) ≤ r0.1)), ())) := by kernel_rfl
/-- loop.example/g00548/impl.areAll[string] -/
theorem q_74 (R : Run EE) (L : Loops) (x0 : List (List UInt8)) (x1 : FnVal) : @Eq (Option ((Bool × Unit))) (bodyK EE R L 74 [⟨(.sl .str), x0⟩, ⟨.fn, x1⟩]) (
  (c_97 R x0 (Go.Rf.FnVal.mk (98 : Nat) (Go.Rf.FCaps.fn x1 (Go.Rf.FCaps.nil)))).bind fun r0 =>
  some ((!r0.1), ())) := by kernel_rfl
/-- loop.example/g00548/impl.isContent -/
theorem q_75 (R : Run EE) (L : Loops) (x0 : List UInt8) : @Eq (Option ((Bool × Unit))) (bodyK EE R L 75 [⟨.str, x0⟩]) (
  some ((decide ((((List.length x0) : Nat) : Int) ≤ (700 : Int))), ())) := by kernel_rfl
/-- loop.example/g00548/impl.areAll[loop.example/g00548/impl.Io]$1 -/
theorem q_100 (R : Run EE) (L : Loops) (x0 : (Int × (List UInt8 × Unit))) (x1 : FnVal) : @Eq (Option ((Bool × Unit))) (bodyK EE R L 100 [⟨(.pair (.int .i64) (.pair .str .unit)), x0⟩, ⟨(.ptr .fn), x1⟩]) (
  (callVB EE R x1 [⟨(.pair (.int .i64) (.pair .str .unit)), (x0 : (Int × (List UInt8 × Unit)))⟩]).bind fun (r0 : Bool) =>
  some ((!r0), ())) := by kernel_rfl
/-- slices.IndexFunc[[]loop.example/g00548/impl.Io,loop.example/g00548/impl.Io] -/
theorem q_113 (R : Run EE) (L : Loops) (x0 : List ((Int × (List UInt8 × Unit)))) (x1 : FnVal) : @Eq (Option ((Int × Unit))) (bodyK EE R L 113 [⟨(.sl (.pair (.int .i64) (.pair .str .unit))), x0⟩, ⟨.fn, x1⟩]) (
  lp_113_0 R L x0 x1 (0 : Int) (((List.length x0) : Nat) : Int) (0 : Int)) := by kernel_rfl
theorem q_113_0 (R : Run EE) (L : Loops) (v0 : List ((Int × (List UInt8 × Unit)))) (v1 : FnVal) (v4 : Int) (v7 : Int) (v8 : Int) : @Eq (Option ((Int × Unit))) (from_ EE R L 113 Go.Proofs.Try.f113 [1, 0, 1, 0, 0] (mk 19 [(0, .dat ⟨(.sl (.pair (.int .i64) (.pair .str .unit))), v0, .sh⟩), (1, .dat ⟨.fn, v1, .sh⟩), (4, .dat ⟨(.int .i64), v4, .sh⟩), (7, .dat ⟨(.int .i64), v7, .sh⟩), (8, .dat ⟨(.int .i64), v8, .sh⟩)])) (
  cond (decide (v8 < v7))
  (cond (Go.Rf.nonneg v8)
    (cond (Nat.blt (Int.toNat v8) (List.length v0))
      ((callVB EE R v1 [⟨(.pair (.int .i64) (.pair .str .unit)), ((List.getD v0 (Int.toNat v8) ((0 : Int), (([] : List (UInt8)), ()))) : (Int × (List UInt8 × Unit)))⟩]).bind fun (r0 : Bool) =>
        cond r0
        (some (v8, ()))
        (lp_113_1 R L v0 v1 v4 v8 v7 (Go.IntKind.wrap .i64 (v8 + (1 : Int)))))
      (none))
    (none))
  (some ((-(1 : Int)), ()))) := by kernel_rfl
theorem q_113_1 (R : Run EE) (L : Loops) (v0 : List ((Int × (List UInt8 × Unit)))) (v1 : FnVal) (v4 : Int) (v5 : Int) (v7 : Int) (v8 : Int) : @Eq (Option ((Int × Unit))) (from_ EE R L 113 Go.Proofs.Try.f113 [1, 0, 1, 0, 0] (mk 19 [(0, .dat ⟨(.sl (.pair (.int .i64) (.pair .str .unit))), v0, .sh⟩), (1, .dat ⟨.fn, v1, .sh⟩), (4, .dat ⟨(.int .i64), v4, .sh⟩), (5, .dat ⟨(.int .i64), v5, .sh⟩), (7, .dat ⟨(.int .i64), v7, .sh⟩), (8, .dat ⟨(.int .i64), v8, .sh⟩)])) (
  cond (decide (v8 < v7))
  (cond (Go.Rf.nonneg v8)
    (cond (Nat.blt (Int.toNat v8) (List.length v0))
      ((callVB EE R v1 [⟨(.pair (.int .i64) (.pair .str .unit)), ((List.getD v0 (Int.toNat v8) ((0 : Int), (([] : List (UInt8)), ()))) : (Int × (List UInt8 × Unit)))⟩]).bind fun (r0 : Bool) =>
        cond r0
        (some (v8, ()))
        (lp_113_1 R L v0 v1 v4 v8 v7 (Go.IntKind.wrap .i64 (v8 + (1 : Int)))))
      (none))
    (none))
  (some ((-(1 : Int)), ()))) := by kernel_rfl
/-- slices.ContainsFunc[[]loop.example/g00548/impl.Io,loop.example/g00548/impl.Io] -/
theorem q_99 (R : Run EE) (L : Loops) (x0 : List ((Int × (List UInt8 × Unit)))) (x1 : FnVal) : @Eq (Option ((Bool × Unit))) (bodyK EE R L 99 [⟨(.sl (.pair (.int .i64) (.pair .str .unit))), x0⟩, ⟨.fn, x1⟩]) (
  (c_113 R x0 x1).bind fun r0 =>
  some ((decide ((0 : Int) ≤ r0.1)), ())) := by kernel_rfl
/-- loop.example/g00548/impl.areAll[loop.example/g00548/impl.Io] -/
theorem q_76 (R : Run EE) (L : Loops) (x0 : List ((Int × (List UInt8 × Unit)))) (x1 : FnVal) : @Eq (Option ((Bool × Unit))) (bodyK EE R L 76 [⟨(.sl (.pair (.int .i64) (.pair .str .unit))), x0⟩, ⟨.fn, x1⟩]) (
  (c_99 R x0 (Go.Rf.FnVal.mk (100 : Nat) (Go.Rf.FCaps.fn x1 (Go.Rf.FCaps.nil)))).bind fun r0 =>
  some ((!r0.1), ())) := by kernel_rfl
/-- loop.example/g00548/impl.within -/
theorem q_92 (R : Run EE) (L : Loops) (x0 : Int) (x1 : Int) (x2 : Int) : @Eq (Option ((Bool × Unit))) (bodyK EE R L 92 [⟨(.int .i64), x0⟩, ⟨(.int .i64), x1⟩, ⟨(.int .i64), x2⟩]) (
  cond (decide (x1 ≤ x0))
  (some ((decide (x0 ≤ x2)), ()))
  (some (false, ()))) := by kernel_rfl
/-- loop.example/g00548/impl.isSector -/
theorem q_78 (R : Run EE) (L : Loops) (x0 : Int) : @Eq (Option ((Bool × Unit))) (bodyK EE R L 78 [⟨(.int .i64), x0⟩]) (
  (c_92 R x0 (0 : Int) (39 : Int)).bind fun r0 =>
  some (r0.1, ())) := by kernel_rfl
/-- loop.example/g00548/impl.DeviceOK$1 -/
theorem q_77 (R : Run EE) (L : Loops) (x0 : (Int × (List UInt8 × Unit))) : @Eq (Option ((Bool × Unit))) (bodyK EE R L 77 [⟨(.pair (.int .i64) (.pair .str .unit)), x0⟩]) (
  (c_78 R x0.1).bind fun r0 =>
  cond r0.1
  ((c_75 R x0.2.1).bind fun r1 =>
    some (r1.1, ()))
  (some (false, ()))) := by kernel_rfl
/-- loop.example/g00548/impl.DeviceOK -/
theorem q_43 (R : Run EE) (L : Loops) (x0 : (List (List UInt8) × (List ((Int × (List UInt8 × Unit))) × Unit))) : @Eq (Option ((Bool × Unit))) (bodyK EE R L 43 [⟨(.pair (.sl .str) (.pair (.sl (.pair (.int .i64) (.pair .str .unit))) .unit)), x0⟩]) (
  cond (Go.Rf.eqI (((List.length x0.1) : Nat) : Int) (40 : Int))
  ((c_74 R x0.1 (Go.Rf.FnVal.mk (75 : Nat) (Go.Rf.FCaps.nil))).bind fun r0 =>
    cond r0.1
    (cond (decide ((((List.length x0.2.1) : Nat) : Int) ≤ (60 : Int)))
      ((c_76 R x0.2.1 (Go.Rf.FnVal.mk (77 : Nat) (Go.Rf.FCaps.nil))).bind fun r1 =>
        some (r1.1, ()))
      (some (false, ())))
    (some (false, ())))
  (some (false, ()))) := by kernel_rfl
/-- loop.example/g00548/impl.SizesOf -/
theorem q_9 (R : Run EE) (L : Loops) (x0 : (List (List UInt8) × (List ((Int × (List UInt8 × Unit))) × Unit))) : @Eq (Option ((List (Int) × (Int × Unit)))) (bodyK EE R L 9 [⟨(.pair (.sl .str) (.pair (.sl (.pair (.int .i64) (.pair .str .unit))) .unit)), x0⟩]) (
  (c_43 R x0).bind fun r0 =>
  cond (!r0.1)
  (some (([] : List (Int)), ((1 : Int), ())))
  (lp_9_0 R L x0 x0 ([] : List (Int)) (0 : Int) ([] : List (Int)) x0.1 (((List.length x0.1) : Nat) : Int) (0 : Int))) := by kernel_rfl
theorem q_9_0 (R : Run EE) (L : Loops) (v0 : (List (List UInt8) × (List ((Int × (List UInt8 × Unit))) × Unit))) (v1 : (List (List UInt8) × (List ((Int × (List UInt8 × Unit))) × Unit))) (v2 : List (Int)) (v3 : Int) (v4 : List (Int)) (v11 : List (List UInt8)) (v12 : Int) (v13 : Int) : @Eq (Option ((List (Int) × (Int × Unit)))) (from_ EE R L 9 Go.Proofs.Try.f9 [1, 1, 1, 0, 1, 0, 0] (mk 24 [(0, .dat ⟨(.pair (.sl .str) (.pair (.sl (.pair (.int .i64) (.pair .str .unit))) .unit)), v0, .sh⟩), (1, .dat ⟨(.ptr (.pair (.sl .str) (.pair (.sl (.pair (.int .i64) (.pair .str .unit))) .unit))), v1, (.own .sh)⟩), (2, .dat ⟨(.sl (.int .i64)), v2, (.own .sh)⟩), (3, .dat ⟨(.int .i64), v3, .sh⟩), (4, .dat ⟨(.sl (.int .i64)), v4, (.own .sh)⟩), (11, .dat ⟨(.sl .str), v11, .sh⟩), (12, .dat ⟨(.int .i64), v12, .sh⟩), (13, .dat ⟨(.int .i64), v13, .sh⟩)])) (
  cond (decide (v13 < v12))
  (cond (Go.Rf.nonneg v13)
    (cond (Nat.blt (Int.toNat v13) (List.length v11))
      (cond (Go.Rf.lenOK ((List.length v4) + (List.length ((((List.length (List.getD v11 (Int.toNat v13) ([] : List (UInt8)))) : Nat) : Int) :: ([] : List (Int))))))
        (lp_9_1 R L v0 v1 v2 v3 (v4 ++ ((((List.length (List.getD v11 (Int.toNat v13) ([] : List (UInt8)))) : Nat) : Int) :: ([] : List (Int)))) (List.getD v11 (Int.toNat v13) ([] : List (UInt8))) v11 v12 (Go.IntKind.wrap .i64 (v13 + (1 : Int))))
        (none))
      (none))
    (none))
  (some (v4, ((0 : Int), ())))) := by kernel_rfl
theorem q_9_1 (R : Run EE) (L : Loops) (v0 : (List (List UInt8) × (List ((Int × (List UInt8 × Unit))) × Unit))) (v1 : (List (List UInt8) × (List ((Int × (List UInt8 × Unit))) × Unit))) (v2 : List (Int)) (v3 : Int) (v4 : List (Int)) (v6 : List UInt8) (v11 : List (List UInt8)) (v12 : Int) (v13 : Int) : @Eq (Option ((List (Int) × (Int × Unit)))) (from_ EE R L 9 Go.Proofs.Try.f9 [1, 1, 1, 0, 1, 0, 0] (mk 24 [(0, .dat ⟨(.pair (.sl .str) (.pair (.sl (.pair (.int .i64) (.pair .str .unit))) .unit)), v0, .sh⟩), (1, .dat ⟨(.ptr (.pair (.sl .str) (.pair (.sl (.pair (.int .i64) (.pair .str .unit))) .unit))), v1, (.own .sh)⟩), (2, .dat ⟨(.sl (.int .i64)), v2, (.own .sh)⟩), (3, .dat ⟨(.int .i64), v3, .sh⟩), (4, .dat ⟨(.sl (.int .i64)), v4, (.own .sh)⟩), (6, .dat ⟨.str, v6, .sh⟩), (11, .dat ⟨(.sl .str), v11, .sh⟩), (12, .dat ⟨(.int .i64), v12, .sh⟩), (13, .dat ⟨(.int .i64), v13, .sh⟩)])) (
  cond (decide (v13 < v12))
  (cond (Go.Rf.nonneg v13)
    (cond (Nat.blt (Int.toNat v13) (List.length v11))
      (cond (Go.Rf.lenOK ((List.length v4) + (List.length ((((List.length (List.getD v11 (Int.toNat v13) ([] : List (UInt8)))) : Nat) : Int) :: ([] : List (Int))))))
        (lp_9_1 R L v0 v1 v2 v3 (v4 ++ ((((List.length (List.getD v11 (Int.toNat v13) ([] : List (UInt8)))) : Nat) : Int) :: ([] : List (Int)))) (List.getD v11 (Int.toNat v13) ([] : List (UInt8))) v11 v12 (Go.IntKind.wrap .i64 (v13 + (1 : Int))))
        (none))
      (none))
    (none))
  (some (v4, ((0 : Int), ())))) := by kernel_rfl
/-- loop.example/g00548/laws.eqIntS -/
theorem q_10 (R : Run EE) (L : Loops) (x0 : List (Int)) (x1 : List (Int)) : @Eq (Option ((Bool × Unit))) (bodyK EE R L 10 [⟨(.sl (.int .i64)), x0⟩, ⟨(.sl (.int .i64)), x1⟩]) (
  cond (!(Go.Rf.eqI (((List.length x0) : Nat) : Int) (((List.length x1) : Nat) : Int)))
  (some (false, ()))
  (lp_10_0 R L x0 x1 false (0 : Int))) := by kernel_rfl
theorem q_10_0 (R : Run EE) (L : Loops) (v0 : List (Int)) (v1 : List (Int)) (v4 : Bool) (v5 : Int) : @Eq (Option ((Bool × Unit))) (from_ EE R L 10 Go.Proofs.Try.f10 [1, 1, 0, 1, 0, 0] (mk 26 [(0, .dat ⟨(.sl (.int .i64)), v0, .sh⟩), (1, .dat ⟨(.sl (.int .i64)), v1, .sh⟩), (4, .dat ⟨.bool, v4, .sh⟩), (5, .dat ⟨(.int .i64), v5, .sh⟩)])) (
  cond (decide (v5 < (((List.length v0) : Nat) : Int)))
  (cond (Go.Rf.nonneg v5)
    (cond (Nat.blt (Int.toNat v5) (List.length v0))
      (cond (Go.Rf.nonneg v5)
        (cond (Nat.blt (Int.toNat v5) (List.length v1))
          (cond (!(Go.Rf.eqI (List.getD v0 (Int.toNat v5) (0 : Int)) (List.getD v1 (Int.toNat v5) (0 : Int))))
            (some (false, ()))
            (lp_10_0 R L v0 v1 v4 (Go.IntKind.wrap .i64 (v5 + (1 : Int)))))
          (none))
        (none))
      (none))
    (none))
  (some (true, ()))) := by kernel_rfl
/-- loop.example/g00548/laws.eqStringS -/
theorem q_19 (R : Run EE) (L : Loops) (x0 : List (List UInt8)) (x1 : List (List UInt8)) : @Eq (Option ((Bool × Unit))) (bodyK EE R L 19 [⟨(.sl .str), x0⟩, ⟨(.sl .str), x1⟩]) (
  cond (!(Go.Rf.eqI (((List.length x0) : Nat) : Int) (((List.length x1) : Nat) : Int)))
  (some (false, ()))
  (lp_19_0 R L x0 x1 false (0 : Int))) := by kernel_rfl
theorem q_19_0 (R : Run EE) (L : Loops) (v0 : List (List UInt8)) (v1 : List (List UInt8)) (v4 : Bool) (v5 : Int) : @Eq (Option ((Bool × Unit))) (from_ EE R L 19 Go.Proofs.Try.f19 [1, 1, 0, 1, 0, 0] (mk 26 [(0, .dat ⟨(.sl .str), v0, .sh⟩), (1, .dat ⟨(.sl .str), v1, .sh⟩), (4, .dat ⟨.bool, v4, .sh⟩), (5, .dat ⟨(.int .i64), v5, .sh⟩)])) (
  cond (decide (v5 < (((List.length v0) : Nat) : Int)))
  (cond (Go.Rf.nonneg v5)
    (cond (Nat.blt (Int.toNat v5) (List.length v0))
      (cond (Go.Rf.nonneg v5)
        (cond (Nat.blt (Int.toNat v5) (List.length v1))
          (cond (!(Go.Rf.eqS (List.getD v0 (Int.toNat v5) ([] : List (UInt8))) (List.getD v1 (Int.toNat v5) ([] : List (UInt8)))))
            (some (false, ()))
            (lp_19_0 R L v0 v1 v4 (Go.IntKind.wrap .i64 (v5 + (1 : Int)))))
          (none))
        (none))
      (none))
    (none))
  (some (true, ()))) := by kernel_rfl
/-- loop.example/g00548/laws.eqIo -/
theorem q_79 (R : Run EE) (L : Loops) (x0 : (Int × (List UInt8 × Unit))) (x1 : (Int × (List UInt8 × Unit))) : @Eq (Option ((Bool × Unit))) (bodyK EE R L 79 [⟨(.pair (.int .i64) (.pair .str .unit)), x0⟩, ⟨(.pair (.int .i64) (.pair .str .unit)), x1⟩]) (
  cond (!(Go.Rf.eqI x0.1 x1.1))
  (some (false, ()))
  (cond (!(Go.Rf.eqS x0.2.1 x1.2.1))
    (some (false, ()))
    (some (true, ())))) := by kernel_rfl
/-- loop.example/g00548/laws.eqIoS -/
theorem q_44 (R : Run EE) (L : Loops) (x0 : List ((Int × (List UInt8 × Unit)))) (x1 : List ((Int × (List UInt8 × Unit)))) : @Eq (Option ((Bool × Unit))) (bodyK EE R L 44 [⟨(.sl (.pair (.int .i64) (.pair .str .unit))), x0⟩, ⟨(.sl (.pair (.int .i64) (.pair .str .unit))), x1⟩]) (
  cond (!(Go.Rf.eqI (((List.length x0) : Nat) : Int) (((List.length x1) : Nat) : Int)))
  (some (false, ()))
  (lp_44_0 R L x0 x1 false (0 : Int))) := by kernel_rfl
theorem q_44_0 (R : Run EE) (L : Loops) (v0 : List ((Int × (List UInt8 × Unit)))) (v1 : List ((Int × (List UInt8 × Unit)))) (v4 : Bool) (v5 : Int) : @Eq (Option ((Bool × Unit))) (from_ EE R L 44 Go.Proofs.Try.f44 [1, 1, 0, 1, 0, 0] (mk 27 [(0, .dat ⟨(.sl (.pair (.int .i64) (.pair .str .unit))), v0, .sh⟩), (1, .dat ⟨(.sl (.pair (.int .i64) (.pair .str .unit))), v1, .sh⟩), (4, .dat ⟨.bool, v4, .sh⟩), (5, .dat ⟨(.int .i64), v5, .sh⟩)])) (
  cond (decide (v5 < (((List.length v0) : Nat) : Int)))
  (cond (Go.Rf.nonneg v5)
    (cond (Nat.blt (Int.toNat v5) (List.length v0))
      (cond (Go.Rf.nonneg v5)
        (cond (Nat.blt (Int.toNat v5) (List.length v1))
          ((c_79 R (List.getD v0 (Int.toNat v5) ((0 : Int), (([] : List (UInt8)), ()))) (List.getD v1 (Int.toNat v5) ((0 : Int), (([] : List (UInt8)), ())))).bind fun r0 =>
            cond (!r0.1)
            (some (false, ()))
            (lp_44_0 R L v0 v1 v4 (Go.IntKind.wrap .i64 (v5 + (1 : Int)))))
          (none))
        (none))
      (none))
    (none))
  (some (true, ()))) := by kernel_rfl
/-- loop.example/g00548/laws.eqDevice -/
theorem q_11 (R : Run EE) (L : Loops) (x0 : (List (List UInt8) × (List ((Int × (List UInt8 × Unit))) × Unit))) (x1 : (List (List UInt8) × (List ((Int × (List UInt8 × Unit))) × Unit))) : @Eq (Option ((Bool × Unit))) (bodyK EE R L 11 [⟨(.pair (.sl .str) (.pair (.sl (.pair (.int .i64) (.pair .str .unit))) .unit)), x0⟩, ⟨(.pair (.sl .str) (.pair (.sl (.pair (.int .i64) (.pair .str .unit))) .unit)), x1⟩]) (
  (c_19 R x0.1 x1.1).bind fun r0 =>
  cond (!r0.1)
  (some (false, ()))
  ((c_44 R x0.2.1 x1.2.1).bind fun r1 =>
    cond (!r1.1)
    (some (false, ()))
    (some (true, ())))) := by kernel_rfl
/-- loop.example/g00548/laws.markText -/
theorem q_56 (R : Run EE) (L : Loops) (x0 : Int) : @Eq (Option ((List UInt8 × Unit))) (bodyK EE R L 56 [⟨(.int .i64), x0⟩]) (
  cond (decide (x0 ≤ (0 : Int)))
  (some (((109 : UInt8) :: ((48 : UInt8) :: ([] : List (UInt8)))), ()))
  (lp_56_0 R L x0 ([] : List (UInt8)) ([] : List (UInt8)))) := by kernel_rfl
theorem q_56_0 (R : Run EE) (L : Loops) (v0 : Int) (v2 : List UInt8) (v3 : List UInt8) : @Eq (Option ((List UInt8 × Unit))) (from_ EE R L 56 Go.Proofs.Try.f56 [1, 1, 1, 0, 0, 0] (mk 20 [(0, .dat ⟨(.int .i64), v0, .sh⟩), (2, .dat ⟨.str, v2, .sh⟩), (3, .dat ⟨.str, v3, .sh⟩)])) (
  cond (decide ((0 : Int) < v0))
  (cond (Go.Rf.lenOK ((List.length (List.map (fun (n : Int) => (UInt8.ofNat (Int.toNat n))) ((Go.IntKind.wrap .u8 (Go.IntKind.wrap .i64 ((48 : Int) + (Int.tmod v0 (10 : Int))))) :: ([] : List (Int))))) + (List.length v3)))
    (lp_56_0 R L (Go.IntKind.wrap .i64 (Int.tdiv v0 (10 : Int))) v2 ((List.map (fun (n : Int) => (UInt8.ofNat (Int.toNat n))) ((Go.IntKind.wrap .u8 (Go.IntKind.wrap .i64 ((48 : Int) + (Int.tmod v0 (10 : Int))))) :: ([] : List (Int)))) ++ v3))
    (none))
  (cond (Go.Rf.lenOK ((List.length ((109 : UInt8) :: ([] : List (UInt8)))) + (List.length v3)))
    (some ((((109 : UInt8) :: ([] : List (UInt8))) ++ v3), ()))
    (none))) := by kernel_rfl
/-- loop.example/g00548/laws.markStringS -/
theorem q_22 (R : Run EE) (L : Loops) (x0 : List (List UInt8)) (x1 : Int) : @Eq (Option ((Int × (List (List UInt8) × Unit)))) (bodyK EE R L 22 [⟨(.sl .str), x0⟩, ⟨(.int .i64), x1⟩]) (
  lp_22_0 R L x0 x1 (0 : Int) (0 : Int)) := by kernel_rfl
theorem q_22_0 (R : Run EE) (L : Loops) (v0 : List (List UInt8)) (v1 : Int) (v4 : Int) (v5 : Int) : @Eq (Option ((Int × (List (List UInt8) × Unit)))) (from_ EE R L 22 Go.Proofs.Try.f22 [1, 0, 1, 0, 0] (mk 20 [(0, .dat ⟨(.sl .str), v0, (.pin 0 (.own .sh))⟩), (1, .dat ⟨(.int .i64), v1, .sh⟩), (4, .dat ⟨(.int .i64), v4, .sh⟩), (5, .dat ⟨(.int .i64), v5, .sh⟩)])) (
  cond (decide (v5 < (((List.length v0) : Nat) : Int)))
  ((c_56 R v1).bind fun r0 =>
    cond (Go.Rf.nonneg v5)
    (cond (Nat.blt (Int.toNat v5) (List.length v0))
      (lp_22_0 R L (List.set v0 (Int.toNat v5) r0.1) (Go.IntKind.wrap .i64 (v1 + (1 : Int))) v4 (Go.IntKind.wrap .i64 (v5 + (1 : Int))))
      (none))
    (none))
  (some (v1, (v0, ())))) := by kernel_rfl
/-- loop.example/g00548/laws.markIoS -/
theorem q_45 (R : Run EE) (L : Loops) (x0 : List ((Int × (List UInt8 × Unit)))) (x1 : Int) : @Eq (Option ((Int × (List ((Int × (List UInt8 × Unit))) × Unit)))) (bodyK EE R L 45 [⟨(.sl (.pair (.int .i64) (.pair .str .unit))), x0⟩, ⟨(.int .i64), x1⟩]) (
  lp_45_0 R L x0 x1 (0 : Int) (0 : Int)) := by kernel_rfl
theorem q_45_0 (R : Run EE) (L : Loops) (v0 : List ((Int × (List UInt8 × Unit)))) (v1 : Int) (v4 : Int) (v5 : Int) : @Eq (Option ((Int × (List ((Int × (List UInt8 × Unit))) × Unit)))) (from_ EE R L 45 Go.Proofs.Try.f45 [1, 0, 1, 0, 0] (mk 28 [(0, .dat ⟨(.sl (.pair (.int .i64) (.pair .str .unit))), v0, (.pin 0 (.own .sh))⟩), (1, .dat ⟨(.int .i64), v1, .sh⟩), (4, .dat ⟨(.int .i64), v4, .sh⟩), (5, .dat ⟨(.int .i64), v5, .sh⟩)])) (
  cond (decide (v5 < (((List.length v0) : Nat) : Int)))
  (cond (Go.Rf.nonneg v5)
    (cond (Nat.blt (Int.toNat v5) (List.length v0))
      ((c_56 R (Go.IntKind.wrap .i64 (v1 + (1 : Int)))).bind fun r0 =>
        cond (Go.Rf.nonneg v5)
        (cond (Nat.blt (Int.toNat v5) (List.length (List.set v0 (Int.toNat v5) (v1, (List.getD v0 (Int.toNat v5) ((0 : Int), (([] : List (UInt8)), ()))).2))))
          (lp_45_0 R L (List.set (List.set v0 (Int.toNat v5) (v1, (List.getD v0 (Int.toNat v5) ((0 : Int), (([] : List (UInt8)), ()))).2)) (Int.toNat v5) ((List.getD (List.set v0 (Int.toNat v5) (v1, (List.getD v0 (Int.toNat v5) ((0 : Int), (([] : List (UInt8)), ()))).2)) (Int.toNat v5) ((0 : Int), (([] : List (UInt8)), ()))).1, (r0.1, (List.getD (List.set v0 (Int.toNat v5) (v1, (List.getD v0 (Int.toNat v5) ((0 : Int), (([] : List (UInt8)), ()))).2)) (Int.toNat v5) ((0 : Int), (([] : List (UInt8)), ()))).2.2))) (Go.IntKind.wrap .i64 ((Go.IntKind.wrap .i64 (v1 + (1 : Int))) + (1 : Int))) v4 (Go.IntKind.wrap .i64 (v5 + (1 : Int))))
          (none))
        (none))
      (none))
    (none))
  (some (v1, (v0, ())))) := by kernel_rfl
/-- loop.example/g00548/laws.markDevice -/
theorem q_12 (R : Run EE) (L : Loops) (x0 : (List (List UInt8) × (List ((Int × (List UInt8 × Unit))) × Unit))) (x1 : Int) : @Eq (Option ((Int × ((List (List UInt8) × (List ((Int × (List UInt8 × Unit))) × Unit)) × Unit)))) (bodyK EE R L 12 [⟨(.pair (.sl .str) (.pair (.sl (.pair (.int .i64) (.pair .str .unit))) .unit)), x0⟩, ⟨(.int .i64), x1⟩]) (
  (c_22 R x0.1 x1).bind fun r0 =>
  (c_45 R (r0.2.1, x0.2).2.1 r0.1).bind fun r1 =>
  some (r1.1, (((r0.2.1, x0.2).1, (r1.2.1, (r0.2.1, x0.2).2.2)), ()))) := by kernel_rfl
/-- loop.example/g00548/laws.markIntS -/
theorem q_13 (R : Run EE) (L : Loops) (x0 : List (Int)) (x1 : Int) : @Eq (Option ((Int × (List (Int) × Unit)))) (bodyK EE R L 13 [⟨(.sl (.int .i64)), x0⟩, ⟨(.int .i64), x1⟩]) (
  lp_13_0 R L x0 x1 (0 : Int) (0 : Int)) := by kernel_rfl
theorem q_13_0 (R : Run EE) (L : Loops) (v0 : List (Int)) (v1 : Int) (v4 : Int) (v5 : Int) : @Eq (Option ((Int × (List (Int) × Unit)))) (from_ EE R L 13 Go.Proofs.Try.f13 [1, 0, 1, 0, 0] (mk 19 [(0, .dat ⟨(.sl (.int .i64)), v0, (.pin 0 (.own .sh))⟩), (1, .dat ⟨(.int .i64), v1, .sh⟩), (4, .dat ⟨(.int .i64), v4, .sh⟩), (5, .dat ⟨(.int .i64), v5, .sh⟩)])) (
  cond (decide (v5 < (((List.length v0) : Nat) : Int)))
  (cond (Go.Rf.nonneg v5)
    (cond (Nat.blt (Int.toNat v5) (List.length v0))
      (lp_13_0 R L (List.set v0 (Int.toNat v5) v1) (Go.IntKind.wrap .i64 (v1 + (1 : Int))) v4 (Go.IntKind.wrap .i64 (v5 + (1 : Int))))
      (none))
    (none))
  (some (v1, (v0, ())))) := by kernel_rfl
/-- loop.example/g00548/laws.heldIntS -/
theorem q_14 (R : Run EE) (L : Loops) (x0 : List (Int)) (x1 : Int) : @Eq (Option ((Int × Unit))) (bodyK EE R L 14 [⟨(.sl (.int .i64)), x0⟩, ⟨(.int .i64), x1⟩]) (
  lp_14_0 R L x0 x1 (0 : Int) (0 : Int)) := by kernel_rfl
theorem q_14_0 (R : Run EE) (L : Loops) (v0 : List (Int)) (v1 : Int) (v4 : Int) (v5 : Int) : @Eq (Option ((Int × Unit))) (from_ EE R L 14 Go.Proofs.Try.f14 [1, 0, 1, 0, 0] (mk 21 [(0, .dat ⟨(.sl (.int .i64)), v0, .sh⟩), (1, .dat ⟨(.int .i64), v1, .sh⟩), (4, .dat ⟨(.int .i64), v4, .sh⟩), (5, .dat ⟨(.int .i64), v5, .sh⟩)])) (
  cond (decide (v5 < (((List.length v0) : Nat) : Int)))
  (cond (Go.Rf.nonneg v5)
    (cond (Nat.blt (Int.toNat v5) (List.length v0))
      (cond (!(Go.Rf.eqI (List.getD v0 (Int.toNat v5) (0 : Int)) v1))
        (some ((-(1 : Int)), ()))
        (lp_14_0 R L v0 (Go.IntKind.wrap .i64 (v1 + (1 : Int))) v4 (Go.IntKind.wrap .i64 (v5 + (1 : Int)))))
      (none))
    (none))
  (some (v1, ()))) := by kernel_rfl
/-- loop.example/g00548/laws.FnExactSizesOf -/
theorem q_3 (R : Run EE) (L : Loops) (x0 : (List (List UInt8) × (List ((Int × (List UInt8 × Unit))) × Unit))) : @Eq (Option ((Bool × Unit))) (bodyK EE R L 3 [⟨(.pair (.sl .str) (.pair (.sl (.pair (.int .i64) (.pair .str .unit))) .unit)), x0⟩]) (
  (c_6 R x0 (1048576 : Int)).bind fun r0 =>
  cond (decide (r0.1 < (0 : Int)))
  (some (true, ()))
  ((c_8 R x0).bind fun r1 =>
    (c_7 R r1.1).bind fun r2 =>
    (c_8 R x0).bind fun r3 =>
    (c_9 R r3.1).bind fun r4 =>
    (c_10 R r4.1 r2.1).bind fun r5 =>
    cond (!r5.1)
    (some (false, ()))
    (cond (!(Go.Rf.eqI (r4.2.1, ()).1 (r2.2.1, ()).1))
      (some (false, ()))
      ((c_8 R x0).bind fun r6 =>
        (c_11 R r3.1 r6.1).bind fun r7 =>
        cond (!r7.1)
        (some (false, ()))
        ((c_12 R r3.1 (1 : Int)).bind fun r8 =>
          cond (decide (r8.1 < (0 : Int)))
          (some (false, ()))
          ((c_10 R r4.1 r2.1).bind fun r9 =>
            cond (!r9.1)
            (some (false, ()))
            (cond (!(Go.Rf.eqI (r4.2.1, ()).1 (r2.2.1, ()).1))
              (some (false, ()))
              ((c_13 R r4.1 (1 : Int)).bind fun r10 =>
                (c_14 R r10.2.1 (1 : Int)).bind fun r11 =>
                cond (decide (r11.1 < (0 : Int)))
                (some (false, ()))
                (cond (!(Go.Rf.eqI r11.1 r10.1))
                  (some (false, ()))
                  ((c_8 R x0).bind fun r12 =>
                    (c_9 R r12.1).bind fun r13 =>
                    (c_10 R r13.1 r2.1).bind fun r14 =>
                    cond (!r14.1)
                    (some (false, ()))
                    (cond (!(Go.Rf.eqI (r13.2.1, ()).1 (r2.2.1, ()).1))
                      (some (false, ()))
                      ((c_14 R r10.2.1 (1 : Int)).bind fun r15 =>
                        cond (decide (r15.1 < (0 : Int)))
                        (some (false, ()))
                        (cond (!(Go.Rf.eqI r15.1 r10.1))
                          (some (false, ()))
                          (some (true, ()))))))))))))))) := by kernel_rfl
end Go.Rf.S
