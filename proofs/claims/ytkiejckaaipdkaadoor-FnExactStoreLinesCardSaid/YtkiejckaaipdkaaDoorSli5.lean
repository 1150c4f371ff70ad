import Derived.Test.YtkiejckaaipdkaaDoorProg
import Derived.KernelRfl
import Derived.Test.YtkiejckaaipdkaaDoorRfD
set_option linter.unusedVariables false
set_option linter.unusedSimpArgs false
open Go Go.Rf
set_option maxRecDepth 100000
namespace Go.Rf.S
abbrev t0 : Ty := (.pair (.int .i64) (.pair (.int .i64) (.pair (.int .i64) (.pair (.int .i64) (.pair .str (.pair .str (.pair .str .unit)))))))
abbrev t1 : Ty := (.pair (.int .i64) (.pair .str .unit))
abbrev t2 : Ty := (.pair (.sl .str) (.pair (.sl t1) .unit))
abbrev t3 : Ty := (.pair .str (.pair t0 (.pair t2 (.pair .bool (.pair .bool .unit)))))
abbrev t4 : Ty := (.pair (.sl .str) (.pair (.int .i64) .unit))
abbrev t5 : Ty := (.pair (.int .i64) (.pair (.sl .str) .unit))
abbrev t6 : Ty := (.pair (.int .i64) (.pair (.sl t1) .unit))
abbrev t7 : Ty := (.pair (.int .i64) (.pair t2 .unit))
abbrev t8 : Ty := (.pair (.int .i64) (.pair t3 .unit))
abbrev d9 : Type := (Int × (Int × (Int × (Int × (List UInt8 × (List UInt8 × (List UInt8 × Unit)))))))
abbrev d10 : Type := (Int × (List UInt8 × Unit))
abbrev d11 : Type := (List (List UInt8) × (List (d10) × Unit))
abbrev d12 : Type := (List UInt8 × (d9 × (d11 × (Bool × (Bool × Unit)))))
abbrev d13 : Type := (List (List UInt8) × Unit)
abbrev d14 : Type := (List (List UInt8) × (Int × Unit))
abbrev d15 : Type := (Int × (List (List UInt8) × Unit))
abbrev d16 : Type := (Int × (List (d10) × Unit))
abbrev d17 : Type := (Int × (List (UInt8) × Unit))
noncomputable def cfgs : List (Nat × FCfg) := [
  (13, ⟨[.ro t0, .ro (.int .i64)], 1, (.pair (.int .i64) .unit), .sh, [0, 1, 2, 4, 11, 18, 25], [(3, 0), (6, 0), (10, 1), (9, 0)]⟩),
  (25, ⟨[.ro (.sl .str), .ro (.int .i64)], 1, (.pair (.int .i64) .unit), .sh, [0, 1, 4, 5, 11, 15, 26], [(3, 0), (10, 1), (9, 0)]⟩),
  (42, ⟨[.ro t1, .ro (.int .i64)], 1, (.pair (.int .i64) .unit), .sh, [0, 1, 2, 4, 11], [(4, 1), (3, 0)]⟩),
  (26, ⟨[.ro (.sl t1), .ro (.int .i64)], 1, (.pair (.int .i64) .unit), .sh, [0, 1, 4, 5, 11, 15, 25], [(3, 0), (10, 1), (9, 0)]⟩),
  (14, ⟨[.ro t2, .ro (.int .i64)], 1, (.pair (.int .i64) .unit), .sh, [0, 1, 2, 4, 10, 16], [(3, 0), (7, 1), (6, 0)]⟩),
  (4, ⟨[.ro t3, .ro (.int .i64)], 1, (.pair (.int .i64) .unit), .sh, [0, 1, 2, 4, 11, 17, 23], [(3, 0), (6, 0), (10, 1), (9, 0)]⟩),
  (17, ⟨[.ro t0], 1, (.pair t0 .unit), .sh, [0, 1, 2, 3], [(9, 1)]⟩),
  (31, ⟨[.ro (.sl .str)], 1, (.pair (.sl .str) .unit), (.pr (.own .sh) .sh), [0, 2, 3, 4, 11], [(1, 2), (6, 1)]⟩),
  (45, ⟨[.ro t1], 1, (.pair t1 .unit), .sh, [0, 1, 2, 3], [(4, 1)]⟩),
  (32, ⟨[.ro (.sl t1)], 1, (.pair (.sl t1) .unit), (.pr (.own .sh) .sh), [0, 2, 3, 4, 11], [(1, 2), (6, 1)]⟩),
  (18, ⟨[.ro t2], 1, (.pair t2 .unit), (.pr (.pr (.own .sh) (.pr (.own .sh) .sh)) .sh), [0, 1, 2, 3], [(4, 1)]⟩),
  (6, ⟨[.ro t3], 1, (.pair t3 .unit), (.pr (.pr .sh (.pr .sh (.pr (.pr (.own .sh) (.pr (.own .sh) .sh)) .sh))) .sh), [0, 1, 2, 3], [(7, 1)]⟩),
  (43, ⟨[.ro (.int .i64), .ro (.int .i64), .ro (.int .i64)], 1, (.pair .bool .unit), .sh, [0, 1, 2, 6], [(1, 8)]⟩),
  (27, ⟨[.ro t0], 1, (.pair .bool .unit), .sh, [0, 1, 2], [(1, 56)]⟩),
  (44, ⟨[.ro (.int .i64)], 1, (.pair .bool .unit), .sh, [0, 2], [(1, 2)]⟩),
  (28, ⟨[.ro t2], 1, (.pair .bool .unit), .sh, [0, 1, 2, 3, 4, 14, 19, 28, 33, 53], [(2, 0), (7, 0), (13, 0), (12, 0)]⟩),
  (15, ⟨[.ro t3], 1, (.pair .bool .unit), .sh, [0, 1, 2], [(1, 30)]⟩),
  (29, ⟨[.ro (.int .i64)], 1, (.pair .str .unit), .sh, [0, 2, 4, 6, 12], [(2, 0), (4, 4), (7, 10), (6, 5)]⟩),
  (30, ⟨[.ro .str], 1, (.pair .str .unit), .sh, [0, 2, 3, 4, 9], [(6, 2)]⟩),
  (16, ⟨[.ro t3], 1, (.pair (.sl .str) .unit), (.pr (.own .sh) .sh), [0, 1, 2, 3, 4, 7], [(6, 36)]⟩),
  (5, ⟨[.ro t3], 2, t4, (.pr (.own .sh) .sh), [0, 1, 2, 3, 6], [(3, 2), (3, 3), (2, 1), (2, 2)]⟩),
  (46, ⟨[.ro (.int .i64), .ro (.int .i64), .ro (.int .i64)], 1, (.pair .bool .unit), .sh, [0, 1, 2, 6], [(1, 8)]⟩),
  (47, ⟨[.ro .str], 1, (.pair .bool .unit), .sh, [0, 2], [(1, 3)]⟩),
  (37, ⟨[.ro t0], 1, (.pair (.int .i64) .unit), .sh, [0, 1, 2], [(1, 5)]⟩),
  (33, ⟨[.ro t0], 1, (.pair .bool .unit), .sh, [0, 1, 2], [(1, 51)]⟩),
  (63, ⟨[.ro .str, .ro (.ptr .fn)], 1, (.pair .bool .unit), .sh, [0, 1, 3], [(1, 4)]⟩),
  (72, ⟨[.ro (.sl .str), .ro .fn], 1, (.pair (.int .i64) .unit), .sh, [0, 1, 4, 5, 7, 8, 9, 16], [(7, 0), (5, 1)]⟩),
  (62, ⟨[.ro (.sl .str), .ro .fn], 1, (.pair .bool .unit), .sh, [0, 1, 4], [(1, 4)]⟩),
  (54, ⟨[.ro (.sl .str), .ro .fn], 1, (.pair .bool .unit), .sh, [0, 1, 3, 4], [(1, 4)]⟩),
  (55, ⟨[.ro .str], 1, (.pair .bool .unit), .sh, [0, 2], [(1, 3)]⟩),
  (65, ⟨[.ro t1, .ro (.ptr .fn)], 1, (.pair .bool .unit), .sh, [0, 1, 2, 3], [(1, 4)]⟩),
  (73, ⟨[.ro (.sl t1), .ro .fn], 1, (.pair (.int .i64) .unit), .sh, [0, 1, 4, 5, 7, 8, 9, 16], [(7, 0), (5, 1)]⟩),
  (64, ⟨[.ro (.sl t1), .ro .fn], 1, (.pair .bool .unit), .sh, [0, 1, 4], [(1, 4)]⟩),
  (56, ⟨[.ro (.sl t1), .ro .fn], 1, (.pair .bool .unit), .sh, [0, 1, 3, 4], [(1, 4)]⟩),
  (58, ⟨[.ro (.int .i64)], 1, (.pair .bool .unit), .sh, [0, 2], [(1, 2)]⟩),
  (57, ⟨[.ro t1], 1, (.pair .bool .unit), .sh, [0, 1, 2], [(1, 8)]⟩),
  (48, ⟨[.ro t2], 1, (.pair .bool .unit), .sh, [0, 1, 2], [(1, 20)]⟩),
  (34, ⟨[.ro t2], 1, (.pair .bool .unit), .sh, [0, 1, 2], [(1, 8)]⟩),
  (19, ⟨[.ro t3], 1, (.pair .bool .unit), .sh, [0, 1, 2], [(1, 23)]⟩),
  (35, ⟨[.ro t3], 1, (.pair .str .unit), .sh, [0, 1, 2, 3, 6], [(5, 0), (2, 0), (4, 0)]⟩),
  (36, ⟨[.ro (.int .i64)], 1, (.pair .str .unit), .sh, [], []⟩),
  (38, ⟨[.ro (.sl .str), .ro .str], 1, (.pair .str .unit), .sh, [], []⟩),
  (39, ⟨[.ro .str], 1, (.pair .str .unit), .sh, [0, 2, 3, 5, 7, 8, 9, 10], [(7, 2)]⟩),
  (20, ⟨[.ro t3], 1, (.pair (.sl .str) .unit), (.pr (.own .sh) .sh), [0, 1, 2, 3, 4], [(3, 13)]⟩),
  (7, ⟨[.ro t3], 2, t4, (.pr (.own .sh) .sh), [0, 1, 2, 3, 6], [(3, 2), (3, 3), (2, 0), (2, 1)]⟩),
  (8, ⟨[.ro (.sl .str), .ro (.sl .str)], 1, (.pair .bool .unit), .sh, [0, 1, 4, 5, 10, 14, 25], [(2, 0), (8, 0), (7, 0)]⟩),
  (21, ⟨[.ro t0, .ro t0], 1, (.pair .bool .unit), .sh, [0, 1, 2, 3, 4, 9, 14, 19, 24, 29, 34, 39], [(2, 0), (4, 0), (6, 0), (8, 0), (10, 0), (12, 0), (15, 0), (14, 0)]⟩),
  (53, ⟨[.ro t1, .ro t1], 1, (.pair .bool .unit), .sh, [0, 1, 2, 3, 4, 9, 14], [(2, 0), (5, 0), (4, 0)]⟩),
  (40, ⟨[.ro (.sl t1), .ro (.sl t1)], 1, (.pair .bool .unit), .sh, [0, 1, 4, 5, 10, 14, 26], [(2, 0), (8, 0), (7, 0)]⟩),
  (22, ⟨[.ro t2, .ro t2], 1, (.pair .bool .unit), .sh, [0, 1, 2, 3, 4, 10, 16], [(2, 0), (5, 0), (4, 0)]⟩),
  (9, ⟨[.ro t3, .ro t3], 1, (.pair .bool .unit), .sh, [0, 1, 2, 3, 4, 9, 15, 21, 26, 31], [(2, 0), (4, 0), (6, 0), (8, 0), (11, 0), (10, 0)]⟩),
  (24, ⟨[.ro (.int .i64)], 1, (.pair .str .unit), .sh, [0, 2, 3, 5, 7], [(2, 0), (7, 2)]⟩),
  (11, ⟨[.io (.sl .str) (.own .sh) (.own .sh) 0 [], .ro (.int .i64)], 1, t5, (.pr .sh (.pr (.own .sh) .sh)), [0, 1, 4, 5, 9], [(6, 1)]⟩),
  (41, ⟨[.io (.sl t1) (.own .sh) (.own .sh) 0 [], .ro (.int .i64)], 1, t6, (.pr .sh (.pr (.own .sh) .sh)), [0, 1, 4, 5, 9], [(8, 1)]⟩),
  (23, ⟨[.io t2 (.pr (.own .sh) (.pr (.own .sh) .sh)) (.pr (.own .sh) (.pr (.own .sh) .sh)) 2 [.der], .ro (.int .i64)], 1, t7, (.pr .sh (.pr (.pr (.own .sh) (.pr (.own .sh) .sh)) .sh)), [0, 1, 2, 4], [(3, 1)]⟩),
  (10, ⟨[.io t3 (.pr .sh (.pr .sh (.pr (.pr (.own .sh) (.pr (.own .sh) .sh)) .sh))) (.pr .sh (.pr .sh (.pr (.pr (.own .sh) (.pr (.own .sh) .sh)) .sh))) 2 [.der], .ro (.int .i64)], 1, t8, (.pr .sh (.pr (.pr .sh (.pr .sh (.pr (.pr (.own .sh) (.pr (.own .sh) .sh)) .sh))) .sh)), [0, 1, 2, 4], [(2, 1)]⟩),
  (12, ⟨[.ro (.sl .str), .ro (.int .i64)], 1, (.pair (.int .i64) .unit), .sh, [0, 1, 4, 5, 9, 18], [(7, 1), (5, 0)]⟩),
  (3, ⟨[.ro t3], 1, (.pair .bool .unit), .sh, [0, 1, 2, 3, 4, 5, 6, 7, 8, 9, 10, 11, 12, 13, 18, 40, 45, 61, 69, 72, 87, 92, 95], [(4, 0), (9, 0), (11, 0), (15, 0), (21, 0), (23, 0), (26, 0), (30, 0), (33, 0), (32, 0)]⟩)]
noncomputable def EE : Env := ⟨Go.Proofs.Tryd.prog, lookC cfgs⟩
/-- loop.example/g00548/laws.szRegister -/
noncomputable def c_laws_szRegister (R : Run EE) (x0 : d9) (x1 : Int) : Option ((Int × Unit)) := R 13 [⟨t0, x0⟩, ⟨(.int .i64), x1⟩]
/-- loop.example/g00548/laws.szStringS -/
noncomputable def c_laws_szStringS (R : Run EE) (x0 : List (List UInt8)) (x1 : Int) : Option ((Int × Unit)) := R 25 [⟨(.sl .str), x0⟩, ⟨(.int .i64), x1⟩]
/-- loop.example/g00548/laws.szIo -/
noncomputable def c_laws_szIo (R : Run EE) (x0 : d10) (x1 : Int) : Option ((Int × Unit)) := R 42 [⟨t1, x0⟩, ⟨(.int .i64), x1⟩]
/-- loop.example/g00548/laws.szIoS -/
noncomputable def c_laws_szIoS (R : Run EE) (x0 : List (d10)) (x1 : Int) : Option ((Int × Unit)) := R 26 [⟨(.sl t1), x0⟩, ⟨(.int .i64), x1⟩]
/-- loop.example/g00548/laws.szDevice -/
noncomputable def c_laws_szDevice (R : Run EE) (x0 : d11) (x1 : Int) : Option ((Int × Unit)) := R 14 [⟨t2, x0⟩, ⟨(.int .i64), x1⟩]
/-- loop.example/g00548/laws.szStore -/
noncomputable def c_laws_szStore (R : Run EE) (x0 : d12) (x1 : Int) : Option ((Int × Unit)) := R 4 [⟨t3, x0⟩, ⟨(.int .i64), x1⟩]
/-- loop.example/g00548/laws.toRegister -/
noncomputable def c_laws_toRegister (R : Run EE) (x0 : d9) : Option ((d9 × Unit)) := R 17 [⟨t0, x0⟩]
/-- loop.example/g00548/laws.toStringS -/
noncomputable def c_laws_toStringS (R : Run EE) (x0 : List (List UInt8)) : Option (d13) := R 31 [⟨(.sl .str), x0⟩]
/-- loop.example/g00548/laws.toIo -/
noncomputable def c_laws_toIo (R : Run EE) (x0 : d10) : Option ((d10 × Unit)) := R 45 [⟨t1, x0⟩]
/-- loop.example/g00548/laws.toIoS -/
noncomputable def c_laws_toIoS (R : Run EE) (x0 : List (d10)) : Option ((List (d10) × Unit)) := R 32 [⟨(.sl t1), x0⟩]
/-- loop.example/g00548/laws.toDevice -/
noncomputable def c_laws_toDevice (R : Run EE) (x0 : d11) : Option ((d11 × Unit)) := R 18 [⟨t2, x0⟩]
/-- loop.example/g00548/laws.toStore -/
noncomputable def c_laws_toStore (R : Run EE) (x0 : d12) : Option ((d12 × Unit)) := R 6 [⟨t3, x0⟩]
/-- loop.example/g00548/spec.l01In -/
noncomputable def c_spec_l01In (R : Run EE) (x0 : Int) (x1 : Int) (x2 : Int) : Option ((Bool × Unit)) := R 43 [⟨(.int .i64), x0⟩, ⟨(.int .i64), x1⟩, ⟨(.int .i64), x2⟩]
/-- loop.example/g00548/spec.RegisterOK -/
noncomputable def c_spec_RegisterOK (R : Run EE) (x0 : d9) : Option ((Bool × Unit)) := R 27 [⟨t0, x0⟩]
/-- loop.example/g00548/spec.l05In -/
noncomputable def c_spec_l05In (R : Run EE) (x0 : Int) : Option ((Bool × Unit)) := R 44 [⟨(.int .i64), x0⟩]
/-- loop.example/g00548/spec.DeviceOK -/
noncomputable def c_spec_DeviceOK (R : Run EE) (x0 : d11) : Option ((Bool × Unit)) := R 28 [⟨t2, x0⟩]
/-- loop.example/g00548/spec.StoreOK -/
noncomputable def c_spec_StoreOK (R : Run EE) (x0 : d12) : Option ((Bool × Unit)) := R 15 [⟨t3, x0⟩]
/-- loop.example/g00548/spec.l00Digits -/
noncomputable def c_spec_l00Digits (R : Run EE) (x0 : Int) : Option ((List UInt8 × Unit)) := R 29 [⟨(.int .i64), x0⟩]
/-- loop.example/g00548/spec.l01Hex -/
noncomputable def c_spec_l01Hex (R : Run EE) (x0 : List UInt8) : Option ((List UInt8 × Unit)) := R 30 [⟨.str, x0⟩]
/-- loop.example/g00548/spec.l15Store -/
noncomputable def c_spec_l15Store (R : Run EE) (x0 : d12) : Option (d13) := R 16 [⟨t3, x0⟩]
/-- loop.example/g00548/spec.StoreLines -/
noncomputable def c_spec_StoreLines (R : Run EE) (x0 : d12) : Option (d14) := R 5 [⟨t3, x0⟩]
/-- loop.example/g00548/impl.within -/
noncomputable def c_impl_within (R : Run EE) (x0 : Int) (x1 : Int) (x2 : Int) : Option ((Bool × Unit)) := R 46 [⟨(.int .i64), x0⟩, ⟨(.int .i64), x1⟩, ⟨(.int .i64), x2⟩]
/-- loop.example/g00548/impl.isDigest -/
noncomputable def c_impl_isDigest (R : Run EE) (x0 : List UInt8) : Option ((Bool × Unit)) := R 47 [⟨.str, x0⟩]
/-- (loop.example/g00548/impl.Register).waiting -/
noncomputable def c_impl_Register_waiting (R : Run EE) (x0 : d9) : Option ((Int × Unit)) := R 37 [⟨t0, x0⟩]
/-- loop.example/g00548/impl.RegisterOK -/
noncomputable def c_impl_RegisterOK (R : Run EE) (x0 : d9) : Option ((Bool × Unit)) := R 33 [⟨t0, x0⟩]
/-- loop.example/g00548/impl.areAll[string]$1 -/
noncomputable def c_impl_areAll_string__1 (R : Run EE) (x0 : List UInt8) (x1 : FnVal) : Option ((Bool × Unit)) := R 63 [⟨.str, x0⟩, ⟨(.ptr .fn), x1⟩]
/-- slices.IndexFunc[[]string,string] -/
noncomputable def c_slices_IndexFunc___string_string_ (R : Run EE) (x0 : List (List UInt8)) (x1 : FnVal) : Option ((Int × Unit)) := R 72 [⟨(.sl .str), x0⟩, ⟨.fn, x1⟩]
/-- slices.ContainsFunc[[]string,string] -/
noncomputable def c_slices_ContainsFunc___string_string_ (R : Run EE) (x0 : List (List UInt8)) (x1 : FnVal) : Option ((Bool × Unit)) := R 62 [⟨(.sl .str), x0⟩, ⟨.fn, x1⟩]
/-- loop.example/g00548/impl.areAll[string] -/
noncomputable def c_impl_areAll_string_ (R : Run EE) (x0 : List (List UInt8)) (x1 : FnVal) : Option ((Bool × Unit)) := R 54 [⟨(.sl .str), x0⟩, ⟨.fn, x1⟩]
/-- loop.example/g00548/impl.isContent -/
noncomputable def c_impl_isContent (R : Run EE) (x0 : List UInt8) : Option ((Bool × Unit)) := R 55 [⟨.str, x0⟩]
/-- loop.example/g00548/impl.areAll[loop.example/g00548/impl.Io]$1 -/
noncomputable def c_impl_areAll_impl_Io__1 (R : Run EE) (x0 : d10) (x1 : FnVal) : Option ((Bool × Unit)) := R 65 [⟨t1, x0⟩, ⟨(.ptr .fn), x1⟩]
/-- slices.IndexFunc[[]loop.example/g00548/impl.Io,loop.example/g00548/impl.Io] -/
noncomputable def c_slices_IndexFunc___impl_Io_impl_Io_ (R : Run EE) (x0 : List (d10)) (x1 : FnVal) : Option ((Int × Unit)) := R 73 [⟨(.sl t1), x0⟩, ⟨.fn, x1⟩]
/-- slices.ContainsFunc[[]loop.example/g00548/impl.Io,loop.example/g00548/impl.Io] -/
noncomputable def c_slices_ContainsFunc___impl_Io_impl_Io_ (R : Run EE) (x0 : List (d10)) (x1 : FnVal) : Option ((Bool × Unit)) := R 64 [⟨(.sl t1), x0⟩, ⟨.fn, x1⟩]
/-- loop.example/g00548/impl.areAll[loop.example/g00548/impl.Io] -/
noncomputable def c_impl_areAll_impl_Io_ (R : Run EE) (x0 : List (d10)) (x1 : FnVal) : Option ((Bool × Unit)) := R 56 [⟨(.sl t1), x0⟩, ⟨.fn, x1⟩]
/-- loop.example/g00548/impl.isSector -/
noncomputable def c_impl_isSector (R : Run EE) (x0 : Int) : Option ((Bool × Unit)) := R 58 [⟨(.int .i64), x0⟩]
/-- loop.example/g00548/impl.DeviceOK$1 -/
noncomputable def c_impl_DeviceOK_1 (R : Run EE) (x0 : d10) : Option ((Bool × Unit)) := R 57 [⟨t1, x0⟩]
/-- loop.example/g00548/impl.DeviceOK -/
noncomputable def c_impl_DeviceOK (R : Run EE) (x0 : d11) : Option ((Bool × Unit)) := R 48 [⟨t2, x0⟩]
/-- loop.example/g00548/impl.isSure -/
noncomputable def c_impl_isSure (R : Run EE) (x0 : d11) : Option ((Bool × Unit)) := R 34 [⟨t2, x0⟩]
/-- loop.example/g00548/impl.StoreOK -/
noncomputable def c_impl_StoreOK (R : Run EE) (x0 : d12) : Option ((Bool × Unit)) := R 19 [⟨t3, x0⟩]
/-- (loop.example/g00548/impl.Store).stateWord -/
noncomputable def c_impl_Store_stateWord (R : Run EE) (x0 : d12) : Option ((List UInt8 × Unit)) := R 35 [⟨t3, x0⟩]
/-- strconv.Itoa -/
noncomputable def c_strconv_Itoa (R : Run EE) (x0 : Int) : Option ((List UInt8 × Unit)) := R 36 [⟨(.int .i64), x0⟩]
/-- strings.Join -/
noncomputable def c_strings_Join (R : Run EE) (x0 : List (List UInt8)) (x1 : List UInt8) : Option ((List UInt8 × Unit)) := R 38 [⟨(.sl .str), x0⟩, ⟨.str, x1⟩]
/-- loop.example/g00548/impl.hexOf -/
noncomputable def c_impl_hexOf (R : Run EE) (x0 : List UInt8) : Option ((List UInt8 × Unit)) := R 39 [⟨.str, x0⟩]
/-- (loop.example/g00548/impl.Store).lines -/
noncomputable def c_impl_Store_lines (R : Run EE) (x0 : d12) : Option (d13) := R 20 [⟨t3, x0⟩]
/-- loop.example/g00548/impl.StoreLines -/
noncomputable def c_impl_StoreLines (R : Run EE) (x0 : d12) : Option (d14) := R 7 [⟨t3, x0⟩]
/-- loop.example/g00548/laws.eqStringS -/
noncomputable def c_laws_eqStringS (R : Run EE) (x0 : List (List UInt8)) (x1 : List (List UInt8)) : Option ((Bool × Unit)) := R 8 [⟨(.sl .str), x0⟩, ⟨(.sl .str), x1⟩]
/-- loop.example/g00548/laws.eqRegister -/
noncomputable def c_laws_eqRegister (R : Run EE) (x0 : d9) (x1 : d9) : Option ((Bool × Unit)) := R 21 [⟨t0, x0⟩, ⟨t0, x1⟩]
/-- loop.example/g00548/laws.eqIo -/
noncomputable def c_laws_eqIo (R : Run EE) (x0 : d10) (x1 : d10) : Option ((Bool × Unit)) := R 53 [⟨t1, x0⟩, ⟨t1, x1⟩]
/-- loop.example/g00548/laws.eqIoS -/
noncomputable def c_laws_eqIoS (R : Run EE) (x0 : List (d10)) (x1 : List (d10)) : Option ((Bool × Unit)) := R 40 [⟨(.sl t1), x0⟩, ⟨(.sl t1), x1⟩]
/-- loop.example/g00548/laws.eqDevice -/
noncomputable def c_laws_eqDevice (R : Run EE) (x0 : d11) (x1 : d11) : Option ((Bool × Unit)) := R 22 [⟨t2, x0⟩, ⟨t2, x1⟩]
/-- loop.example/g00548/laws.eqStore -/
noncomputable def c_laws_eqStore (R : Run EE) (x0 : d12) (x1 : d12) : Option ((Bool × Unit)) := R 9 [⟨t3, x0⟩, ⟨t3, x1⟩]
/-- loop.example/g00548/laws.markText -/
noncomputable def c_laws_markText (R : Run EE) (x0 : Int) : Option ((List UInt8 × Unit)) := R 24 [⟨(.int .i64), x0⟩]
/-- loop.example/g00548/laws.markStringS -/
noncomputable def c_laws_markStringS (R : Run EE) (x0 : List (List UInt8)) (x1 : Int) : Option (d15) := R 11 [⟨(.sl .str), x0⟩, ⟨(.int .i64), x1⟩]
/-- loop.example/g00548/laws.markIoS -/
noncomputable def c_laws_markIoS (R : Run EE) (x0 : List (d10)) (x1 : Int) : Option (d16) := R 41 [⟨(.sl t1), x0⟩, ⟨(.int .i64), x1⟩]
/-- loop.example/g00548/laws.markDevice -/
noncomputable def c_laws_markDevice (R : Run EE) (x0 : d11) (x1 : Int) : Option ((Int × (d11 × Unit))) := R 23 [⟨t2, x0⟩, ⟨(.int .i64), x1⟩]
/-- loop.example/g00548/laws.markStore -/
noncomputable def c_laws_markStore (R : Run EE) (x0 : d12) (x1 : Int) : Option ((Int × (d12 × Unit))) := R 10 [⟨t3, x0⟩, ⟨(.int .i64), x1⟩]
/-- loop.example/g00548/laws.heldStringS -/
noncomputable def c_laws_heldStringS (R : Run EE) (x0 : List (List UInt8)) (x1 : Int) : Option ((Int × Unit)) := R 12 [⟨(.sl .str), x0⟩, ⟨(.int .i64), x1⟩]
/-- loop.example/g00548/laws.FnExactStoreLines -/
noncomputable def c_laws_FnExactStoreLines (R : Run EE) (x0 : d12) : Option ((Bool × Unit)) := R 3 [⟨t3, x0⟩]

noncomputable def lp_laws_szStringS_0 (R : Run EE) (L : Loops) (v0 : List (List UInt8)) (v1 : Int) (v4 : Int) (v5 : Int) : Option ((Int × Unit)) := from_ EE R L 25 Go.Proofs.Tryd.f25 [1, 1, 1, 0, 1, 0] (mk 28 [(0, .dat ⟨(.sl .str), v0, .sh⟩), (1, .dat ⟨(.int .i64), v1, .sh⟩), (4, .dat ⟨(.int .i64), v4, .sh⟩), (5, .dat ⟨(.int .i64), v5, .sh⟩)])
noncomputable def lp_laws_szIoS_0 (R : Run EE) (L : Loops) (v0 : List (d10)) (v1 : Int) (v4 : Int) (v5 : Int) : Option ((Int × Unit)) := from_ EE R L 26 Go.Proofs.Tryd.f26 [1, 1, 1, 0, 1, 0] (mk 27 [(0, .dat ⟨(.sl t1), v0, .sh⟩), (1, .dat ⟨(.int .i64), v1, .sh⟩), (4, .dat ⟨(.int .i64), v4, .sh⟩), (5, .dat ⟨(.int .i64), v5, .sh⟩)])
noncomputable def lp_laws_toStringS_0 (R : Run EE) (L : Loops) (v0 : List (List UInt8)) (v2 : List (List UInt8)) (v3 : List (List UInt8)) (v4 : Int) : Option (d13) := from_ EE R L 31 Go.Proofs.Tryd.f31 [1, 1, 0, 1, 0] (mk 22 [(0, .dat ⟨(.sl .str), v0, .sh⟩), (2, .dat ⟨(.sl .str), v2, (.own .sh)⟩), (3, .dat ⟨(.sl .str), v3, (.own .sh)⟩), (4, .dat ⟨(.int .i64), v4, .sh⟩)])
noncomputable def lp_laws_toIoS_0 (R : Run EE) (L : Loops) (v0 : List (d10)) (v2 : List (d10)) (v3 : List (d10)) (v4 : Int) : Option ((List (d10) × Unit)) := from_ EE R L 32 Go.Proofs.Tryd.f32 [1, 1, 0, 1, 0] (mk 23 [(0, .dat ⟨(.sl t1), v0, .sh⟩), (2, .dat ⟨(.sl t1), v2, (.own .sh)⟩), (3, .dat ⟨(.sl t1), v3, (.own .sh)⟩), (4, .dat ⟨(.int .i64), v4, .sh⟩)])
noncomputable def lp_spec_DeviceOK_0 (R : Run EE) (L : Loops) (v0 : d11) (v1 : d11) (v2 : Bool) (v3 : Int) : Option ((Bool × Unit)) := from_ EE R L 28 Go.Proofs.Tryd.f28 [1, 1, 0, 1, 0] (mk 54 [(0, .dat ⟨t2, v0, .sh⟩), (1, .dat ⟨(.ptr t2), v1, (.own .sh)⟩), (2, .dat ⟨.bool, v2, .sh⟩), (3, .dat ⟨(.int .i64), v3, .sh⟩)])
noncomputable def lp_spec_DeviceOK_1 (R : Run EE) (L : Loops) (v0 : d11) (v1 : d11) (v2 : Bool) (v3 : Int) (v4 : Int) : Option ((Bool × Unit)) := from_ EE R L 28 Go.Proofs.Tryd.f28 [1, 1, 1, 0, 1, 0] (mk 54 [(0, .dat ⟨t2, v0, .sh⟩), (1, .dat ⟨(.ptr t2), v1, (.own .sh)⟩), (2, .dat ⟨.bool, v2, .sh⟩), (3, .dat ⟨(.int .i64), v3, .sh⟩), (4, .dat ⟨(.int .i64), v4, .sh⟩)])
noncomputable def lp_spec_l01Hex_0 (R : Run EE) (L : Loops) (v0 : List UInt8) (v2 : List UInt8) (v3 : List (Int)) (v4 : Int) : Option ((List UInt8 × Unit)) := from_ EE R L 30 Go.Proofs.Tryd.f30 [1, 1, 0, 1, 0] (mk 27 [(0, .dat ⟨.str, v0, .sh⟩), (2, .dat ⟨.str, v2, .sh⟩), (3, .dat ⟨(.sl (.int .u8)), v3, (.own .sh)⟩), (4, .dat ⟨(.int .i64), v4, .sh⟩)])
noncomputable def lp_slices_IndexFunc___string_string__0 (R : Run EE) (L : Loops) (v0 : List (List UInt8)) (v1 : FnVal) (v4 : Int) (v7 : Int) (v8 : Int) : Option ((Int × Unit)) := from_ EE R L 72 Go.Proofs.Tryd.f72 [1, 0, 1, 0] (mk 19 [(0, .dat ⟨(.sl .str), v0, .sh⟩), (1, .dat ⟨.fn, v1, .sh⟩), (4, .dat ⟨(.int .i64), v4, .sh⟩), (7, .dat ⟨(.int .i64), v7, .sh⟩), (8, .dat ⟨(.int .i64), v8, .sh⟩)])
noncomputable def lp_slices_IndexFunc___string_string__1 (R : Run EE) (L : Loops) (v0 : List (List UInt8)) (v1 : FnVal) (v4 : Int) (v5 : Int) (v7 : Int) (v8 : Int) : Option ((Int × Unit)) := from_ EE R L 72 Go.Proofs.Tryd.f72 [1, 0, 1, 0] (mk 19 [(0, .dat ⟨(.sl .str), v0, .sh⟩), (1, .dat ⟨.fn, v1, .sh⟩), (4, .dat ⟨(.int .i64), v4, .sh⟩), (5, .dat ⟨(.int .i64), v5, .sh⟩), (7, .dat ⟨(.int .i64), v7, .sh⟩), (8, .dat ⟨(.int .i64), v8, .sh⟩)])
noncomputable def lp_slices_IndexFunc___impl_Io_impl_Io__0 (R : Run EE) (L : Loops) (v0 : List (d10)) (v1 : FnVal) (v4 : Int) (v7 : Int) (v8 : Int) : Option ((Int × Unit)) := from_ EE R L 73 Go.Proofs.Tryd.f73 [1, 0, 1, 0] (mk 19 [(0, .dat ⟨(.sl t1), v0, .sh⟩), (1, .dat ⟨.fn, v1, .sh⟩), (4, .dat ⟨(.int .i64), v4, .sh⟩), (7, .dat ⟨(.int .i64), v7, .sh⟩), (8, .dat ⟨(.int .i64), v8, .sh⟩)])
noncomputable def lp_slices_IndexFunc___impl_Io_impl_Io__1 (R : Run EE) (L : Loops) (v0 : List (d10)) (v1 : FnVal) (v4 : Int) (v5 : Int) (v7 : Int) (v8 : Int) : Option ((Int × Unit)) := from_ EE R L 73 Go.Proofs.Tryd.f73 [1, 0, 1, 0] (mk 19 [(0, .dat ⟨(.sl t1), v0, .sh⟩), (1, .dat ⟨.fn, v1, .sh⟩), (4, .dat ⟨(.int .i64), v4, .sh⟩), (5, .dat ⟨(.int .i64), v5, .sh⟩), (7, .dat ⟨(.int .i64), v7, .sh⟩), (8, .dat ⟨(.int .i64), v8, .sh⟩)])
noncomputable def lp_impl_hexOf_0 (R : Run EE) (L : Loops) (v0 : List UInt8) (v2 : List UInt8) (v3 : List (Int)) (v7 : List (Int)) (v8 : Int) (v9 : Int) : Option ((List UInt8 × Unit)) := from_ EE R L 39 Go.Proofs.Tryd.f39 [1, 1, 0, 1, 0] (mk 25 [(0, .dat ⟨.str, v0, .sh⟩), (2, .dat ⟨.str, v2, .sh⟩), (3, .dat ⟨(.sl (.int .u8)), v3, (.own .sh)⟩), (7, .dat ⟨(.sl (.int .u8)), v7, (.own .sh)⟩), (8, .dat ⟨(.int .i64), v8, .sh⟩), (9, .dat ⟨(.int .i64), v9, .sh⟩)])
noncomputable def lp_impl_hexOf_1 (R : Run EE) (L : Loops) (v0 : List UInt8) (v2 : List UInt8) (v3 : List (Int)) (v5 : Int) (v7 : List (Int)) (v8 : Int) (v9 : Int) : Option ((List UInt8 × Unit)) := from_ EE R L 39 Go.Proofs.Tryd.f39 [1, 1, 0, 1, 0] (mk 25 [(0, .dat ⟨.str, v0, .sh⟩), (2, .dat ⟨.str, v2, .sh⟩), (3, .dat ⟨(.sl (.int .u8)), v3, (.own .sh)⟩), (5, .dat ⟨(.int .u8), v5, .sh⟩), (7, .dat ⟨(.sl (.int .u8)), v7, (.own .sh)⟩), (8, .dat ⟨(.int .i64), v8, .sh⟩), (9, .dat ⟨(.int .i64), v9, .sh⟩)])
noncomputable def lp_laws_eqStringS_0 (R : Run EE) (L : Loops) (v0 : List (List UInt8)) (v1 : List (List UInt8)) (v4 : Bool) (v5 : Int) : Option ((Bool × Unit)) := from_ EE R L 8 Go.Proofs.Tryd.f8 [1, 1, 0, 1, 0] (mk 26 [(0, .dat ⟨(.sl .str), v0, .sh⟩), (1, .dat ⟨(.sl .str), v1, .sh⟩), (4, .dat ⟨.bool, v4, .sh⟩), (5, .dat ⟨(.int .i64), v5, .sh⟩)])
noncomputable def lp_laws_eqIoS_0 (R : Run EE) (L : Loops) (v0 : List (d10)) (v1 : List (d10)) (v4 : Bool) (v5 : Int) : Option ((Bool × Unit)) := from_ EE R L 40 Go.Proofs.Tryd.f40 [1, 1, 0, 1, 0] (mk 27 [(0, .dat ⟨(.sl t1), v0, .sh⟩), (1, .dat ⟨(.sl t1), v1, .sh⟩), (4, .dat ⟨.bool, v4, .sh⟩), (5, .dat ⟨(.int .i64), v5, .sh⟩)])
noncomputable def lp_laws_markText_0 (R : Run EE) (L : Loops) (v0 : Int) (v2 : List UInt8) (v3 : List UInt8) : Option ((List UInt8 × Unit)) := from_ EE R L 24 Go.Proofs.Tryd.f24 [1, 1, 1, 0, 0] (mk 20 [(0, .dat ⟨(.int .i64), v0, .sh⟩), (2, .dat ⟨.str, v2, .sh⟩), (3, .dat ⟨.str, v3, .sh⟩)])
noncomputable def lp_laws_markStringS_0 (R : Run EE) (L : Loops) (v0 : List (List UInt8)) (v1 : Int) (v4 : Int) (v5 : Int) : Option (d15) := from_ EE R L 11 Go.Proofs.Tryd.f11 [1, 0, 1, 0] (mk 20 [(0, .dat ⟨(.sl .str), v0, (.pin 0 (.own .sh))⟩), (1, .dat ⟨(.int .i64), v1, .sh⟩), (4, .dat ⟨(.int .i64), v4, .sh⟩), (5, .dat ⟨(.int .i64), v5, .sh⟩)])
noncomputable def lp_laws_markIoS_0 (R : Run EE) (L : Loops) (v0 : List (d10)) (v1 : Int) (v4 : Int) (v5 : Int) : Option (d16) := from_ EE R L 41 Go.Proofs.Tryd.f41 [1, 0, 1, 0] (mk 28 [(0, .dat ⟨(.sl t1), v0, (.pin 0 (.own .sh))⟩), (1, .dat ⟨(.int .i64), v1, .sh⟩), (4, .dat ⟨(.int .i64), v4, .sh⟩), (5, .dat ⟨(.int .i64), v5, .sh⟩)])
noncomputable def lp_laws_heldStringS_0 (R : Run EE) (L : Loops) (v0 : List (List UInt8)) (v1 : Int) (v4 : Int) (v5 : Int) : Option ((Int × Unit)) := from_ EE R L 12 Go.Proofs.Tryd.f12 [1, 0, 1, 0] (mk 22 [(0, .dat ⟨(.sl .str), v0, .sh⟩), (1, .dat ⟨(.int .i64), v1, .sh⟩), (4, .dat ⟨(.int .i64), v4, .sh⟩), (5, .dat ⟨(.int .i64), v5, .sh⟩)])

/-- loop.example/g00548/laws.szRegister -/
theorem q_laws_szRegister (R : Run EE) (L : Loops) (x0 : d9) (x1 : Int) : @Eq (Option ((Int × Unit))) (bodyK EE R L 13 [⟨t0, x0⟩, ⟨(.int .i64), x1⟩]) (
  cond (decide ((Go.IntKind.wrap .i64 (x1 - (((List.length x0.2.2.2.2.1) : Nat) : Int))) < (0 : Int)))
  (some ((-(1 : Int)), ()))
  (cond (decide ((Go.IntKind.wrap .i64 ((Go.IntKind.wrap .i64 (x1 - (((List.length x0.2.2.2.2.1) : Nat) : Int))) - (((List.length x0.2.2.2.2.2.1) : Nat) : Int))) < (0 : Int)))
    (some ((-(1 : Int)), ()))
    (cond (decide ((Go.IntKind.wrap .i64 ((Go.IntKind.wrap .i64 ((Go.IntKind.wrap .i64 (x1 - (((List.length x0.2.2.2.2.1) : Nat) : Int))) - (((List.length x0.2.2.2.2.2.1) : Nat) : Int))) - (((List.length x0.2.2.2.2.2.2.1) : Nat) : Int))) < (0 : Int)))
      (some ((-(1 : Int)), ()))
      (some ((Go.IntKind.wrap .i64 ((Go.IntKind.wrap .i64 ((Go.IntKind.wrap .i64 (x1 - (((List.length x0.2.2.2.2.1) : Nat) : Int))) - (((List.length x0.2.2.2.2.2.1) : Nat) : Int))) - (((List.length x0.2.2.2.2.2.2.1) : Nat) : Int))), ()))))) := by kernel_rfl
/-- loop.example/g00548/laws.szStringS -/
theorem q_laws_szStringS (R : Run EE) (L : Loops) (x0 : List (List UInt8)) (x1 : Int) : @Eq (Option ((Int × Unit))) (bodyK EE R L 25 [⟨(.sl .str), x0⟩, ⟨(.int .i64), x1⟩]) (
  cond (decide ((Go.IntKind.wrap .i64 (x1 - (((List.length x0) : Nat) : Int))) < (0 : Int)))
  (some ((-(1 : Int)), ()))
  (lp_laws_szStringS_0 R L x0 (Go.IntKind.wrap .i64 (x1 - (((List.length x0) : Nat) : Int))) (0 : Int) (0 : Int))) := by kernel_rfl
theorem q_laws_szStringS_0 (R : Run EE) (L : Loops) (v0 : List (List UInt8)) (v1 : Int) (v4 : Int) (v5 : Int) : @Eq (Option ((Int × Unit))) (from_ EE R L 25 Go.Proofs.Tryd.f25 [1, 1, 1, 0, 1, 0, 0] (mk 28 [(0, .dat ⟨(.sl .str), v0, .sh⟩), (1, .dat ⟨(.int .i64), v1, .sh⟩), (4, .dat ⟨(.int .i64), v4, .sh⟩), (5, .dat ⟨(.int .i64), v5, .sh⟩)])) (
  cond (decide (v5 < (((List.length v0) : Nat) : Int)))
  (cond (Go.Rf.nonneg v5)
    (cond (Nat.blt (Int.toNat v5) (List.length v0))
      (cond (decide ((Go.IntKind.wrap .i64 (v1 - (((List.length (List.getD v0 (Int.toNat v5) ([] : List (UInt8)))) : Nat) : Int))) < (0 : Int)))
        (some ((-(1 : Int)), ()))
        (lp_laws_szStringS_0 R L v0 (Go.IntKind.wrap .i64 (v1 - (((List.length (List.getD v0 (Int.toNat v5) ([] : List (UInt8)))) : Nat) : Int))) v4 (Go.IntKind.wrap .i64 (v5 + (1 : Int)))))
      (none))
    (none))
  (some (v1, ()))) := by kernel_rfl
/-- loop.example/g00548/laws.szIo -/
theorem q_laws_szIo (R : Run EE) (L : Loops) (x0 : d10) (x1 : Int) : @Eq (Option ((Int × Unit))) (bodyK EE R L 42 [⟨t1, x0⟩, ⟨(.int .i64), x1⟩]) (
  cond (decide ((Go.IntKind.wrap .i64 (x1 - (((List.length x0.2.1) : Nat) : Int))) < (0 : Int)))
  (some ((-(1 : Int)), ()))
  (some ((Go.IntKind.wrap .i64 (x1 - (((List.length x0.2.1) : Nat) : Int))), ()))) := by kernel_rfl
/-- loop.example/g00548/laws.szIoS -/
theorem q_laws_szIoS (R : Run EE) (L : Loops) (x0 : List (d10)) (x1 : Int) : @Eq (Option ((Int × Unit))) (bodyK EE R L 26 [⟨(.sl t1), x0⟩, ⟨(.int .i64), x1⟩]) (
  cond (decide ((Go.IntKind.wrap .i64 (x1 - (((List.length x0) : Nat) : Int))) < (0 : Int)))
  (some ((-(1 : Int)), ()))
  (lp_laws_szIoS_0 R L x0 (Go.IntKind.wrap .i64 (x1 - (((List.length x0) : Nat) : Int))) (0 : Int) (0 : Int))) := by kernel_rfl
theorem q_laws_szIoS_0 (R : Run EE) (L : Loops) (v0 : List (d10)) (v1 : Int) (v4 : Int) (v5 : Int) : @Eq (Option ((Int × Unit))) (from_ EE R L 26 Go.Proofs.Tryd.f26 [1, 1, 1, 0, 1, 0, 0] (mk 27 [(0, .dat ⟨(.sl t1), v0, .sh⟩), (1, .dat ⟨(.int .i64), v1, .sh⟩), (4, .dat ⟨(.int .i64), v4, .sh⟩), (5, .dat ⟨(.int .i64), v5, .sh⟩)])) (
  cond (decide (v5 < (((List.length v0) : Nat) : Int)))
  (cond (Go.Rf.nonneg v5)
    (cond (Nat.blt (Int.toNat v5) (List.length v0))
      ((c_laws_szIo R (List.getD v0 (Int.toNat v5) ((0 : Int), (([] : List (UInt8)), ()))) v1).bind fun r0 =>
        cond (decide (r0.1 < (0 : Int)))
        (some ((-(1 : Int)), ()))
        (lp_laws_szIoS_0 R L v0 r0.1 v4 (Go.IntKind.wrap .i64 (v5 + (1 : Int)))))
      (none))
    (none))
  (some (v1, ()))) := by kernel_rfl
/-- loop.example/g00548/laws.szDevice -/
theorem q_laws_szDevice (R : Run EE) (L : Loops) (x0 : d11) (x1 : Int) : @Eq (Option ((Int × Unit))) (bodyK EE R L 14 [⟨t2, x0⟩, ⟨(.int .i64), x1⟩]) (
  (c_laws_szStringS R x0.1 x1).bind fun r0 =>
  cond (decide (r0.1 < (0 : Int)))
  (some ((-(1 : Int)), ()))
  ((c_laws_szIoS R x0.2.1 r0.1).bind fun r1 =>
    cond (decide (r1.1 < (0 : Int)))
    (some ((-(1 : Int)), ()))
    (some (r1.1, ())))) := by kernel_rfl
/-- loop.example/g00548/laws.szStore -/
theorem q_laws_szStore (R : Run EE) (L : Loops) (x0 : d12) (x1 : Int) : @Eq (Option ((Int × Unit))) (bodyK EE R L 4 [⟨t3, x0⟩, ⟨(.int .i64), x1⟩]) (
  cond (decide ((Go.IntKind.wrap .i64 (x1 - (((List.length x0.1) : Nat) : Int))) < (0 : Int)))
  (some ((-(1 : Int)), ()))
  ((c_laws_szRegister R x0.2.1 (Go.IntKind.wrap .i64 (x1 - (((List.length x0.1) : Nat) : Int)))).bind fun r0 =>
    cond (decide (r0.1 < (0 : Int)))
    (some ((-(1 : Int)), ()))
    ((c_laws_szDevice R x0.2.2.1 r0.1).bind fun r1 =>
      cond (decide (r1.1 < (0 : Int)))
      (some ((-(1 : Int)), ()))
      (some (r1.1, ()))))) := by kernel_rfl
/-- loop.example/g00548/laws.toRegister -/
theorem q_laws_toRegister (R : Run EE) (L : Loops) (x0 : d9) : @Eq (Option ((d9 × Unit))) (bodyK EE R L 17 [⟨t0, x0⟩]) (
  some ((x0.1, (x0.2.1, (x0.2.2.1, (x0.2.2.2.1, (x0.2.2.2.2.1, (x0.2.2.2.2.2.1, (x0.2.2.2.2.2.2.1, ()))))))), ())) := by kernel_rfl
/-- loop.example/g00548/laws.toStringS -/
theorem q_laws_toStringS (R : Run EE) (L : Loops) (x0 : List (List UInt8)) : @Eq (Option (d13)) (bodyK EE R L 31 [⟨(.sl .str), x0⟩]) (
  cond (Go.Rf.leI (((List.length x0) : Nat) : Int) (((List.length x0) : Nat) : Int))
  (cond (Go.Rf.lenOK (Int.toNat (((List.length x0) : Nat) : Int)))
    (lp_laws_toStringS_0 R L x0 ([] : List (List (UInt8))) (List.replicate (Int.toNat (((List.length x0) : Nat) : Int)) ([] : List (UInt8))) (0 : Int))
    (none))
  (none)) := by kernel_rfl
theorem q_laws_toStringS_0 (R : Run EE) (L : Loops) (v0 : List (List UInt8)) (v2 : List (List UInt8)) (v3 : List (List UInt8)) (v4 : Int) : @Eq (Option (d13)) (from_ EE R L 31 Go.Proofs.Tryd.f31 [1, 1, 0, 1, 0, 0] (mk 22 [(0, .dat ⟨(.sl .str), v0, .sh⟩), (2, .dat ⟨(.sl .str), v2, (.own .sh)⟩), (3, .dat ⟨(.sl .str), v3, (.own .sh)⟩), (4, .dat ⟨(.int .i64), v4, .sh⟩)])) (
  cond (decide (v4 < (((List.length v0) : Nat) : Int)))
  (cond (Go.Rf.nonneg v4)
    (cond (Nat.blt (Int.toNat v4) (List.length v0))
      (cond (Go.Rf.nonneg v4)
        (cond (Nat.blt (Int.toNat v4) (List.length v3))
          (lp_laws_toStringS_0 R L v0 v2 (List.set v3 (Int.toNat v4) (List.getD v0 (Int.toNat v4) ([] : List (UInt8)))) (Go.IntKind.wrap .i64 (v4 + (1 : Int))))
          (none))
        (none))
      (none))
    (none))
  (some (v3, ()))) := by kernel_rfl
/-- loop.example/g00548/laws.toIo -/
theorem q_laws_toIo (R : Run EE) (L : Loops) (x0 : d10) : @Eq (Option ((d10 × Unit))) (bodyK EE R L 45 [⟨t1, x0⟩]) (
  some ((x0.1, (x0.2.1, ())), ())) := by kernel_rfl
/-- loop.example/g00548/laws.toIoS -/
theorem q_laws_toIoS (R : Run EE) (L : Loops) (x0 : List (d10)) : @Eq (Option ((List (d10) × Unit))) (bodyK EE R L 32 [⟨(.sl t1), x0⟩]) (
  cond (Go.Rf.leI (((List.length x0) : Nat) : Int) (((List.length x0) : Nat) : Int))
  (cond (Go.Rf.lenOK (Int.toNat (((List.length x0) : Nat) : Int)))
    (lp_laws_toIoS_0 R L x0 ([] : List (d17)) (List.replicate (Int.toNat (((List.length x0) : Nat) : Int)) ((0 : Int), (([] : List (UInt8)), ()))) (0 : Int))
    (none))
  (none)) := by kernel_rfl
theorem q_laws_toIoS_0 (R : Run EE) (L : Loops) (v0 : List (d10)) (v2 : List (d10)) (v3 : List (d10)) (v4 : Int) : @Eq (Option ((List (d10) × Unit))) (from_ EE R L 32 Go.Proofs.Tryd.f32 [1, 1, 0, 1, 0, 0] (mk 23 [(0, .dat ⟨(.sl t1), v0, .sh⟩), (2, .dat ⟨(.sl t1), v2, (.own .sh)⟩), (3, .dat ⟨(.sl t1), v3, (.own .sh)⟩), (4, .dat ⟨(.int .i64), v4, .sh⟩)])) (
  cond (decide (v4 < (((List.length v0) : Nat) : Int)))
  (cond (Go.Rf.nonneg v4)
    (cond (Nat.blt (Int.toNat v4) (List.length v0))
      ((c_laws_toIo R (List.getD v0 (Int.toNat v4) ((0 : Int), (([] : List (UInt8)), ())))).bind fun r0 =>
        cond (Go.Rf.nonneg v4)
        (cond (Nat.blt (Int.toNat v4) (List.length v3))
          (lp_laws_toIoS_0 R L v0 v2 (List.set v3 (Int.toNat v4) r0.1) (Go.IntKind.wrap .i64 (v4 + (1 : Int))))
          (none))
        (none))
      (none))
    (none))
  (some (v3, ()))) := by kernel_rfl
/-- loop.example/g00548/laws.toDevice -/
theorem q_laws_toDevice (R : Run EE) (L : Loops) (x0 : d11) : @Eq (Option ((d11 × Unit))) (bodyK EE R L 18 [⟨t2, x0⟩]) (
  (c_laws_toStringS R x0.1).bind fun r0 =>
  (c_laws_toIoS R x0.2.1).bind fun r1 =>
  some ((r0.1, (r1.1, ())), ())) := by kernel_rfl
/-- loop.example/g00548/laws.toStore -/
theorem q_laws_toStore (R : Run EE) (L : Loops) (x0 : d12) : @Eq (Option ((d12 × Unit))) (bodyK EE R L 6 [⟨t3, x0⟩]) (
  (c_laws_toRegister R x0.2.1).bind fun r0 =>
  (c_laws_toDevice R x0.2.2.1).bind fun r1 =>
  some ((x0.1, (r0.1, (r1.1, (x0.2.2.2.1, (x0.2.2.2.2.1, ()))))), ())) := by kernel_rfl
/-- loop.example/g00548/spec.l01In -/
theorem q_spec_l01In (R : Run EE) (L : Loops) (x0 : Int) (x1 : Int) (x2 : Int) : @Eq (Option ((Bool × Unit))) (bodyK EE R L 43 [⟨(.int .i64), x0⟩, ⟨(.int .i64), x1⟩, ⟨(.int .i64), x2⟩]) (
  cond (decide (x1 ≤ x0))
  (some ((decide (x0 ≤ x2)), ()))
  (some (false, ()))) := by kernel_rfl
/-- loop.example/g00548/spec.RegisterOK -/
theorem q_spec_RegisterOK (R : Run EE) (L : Loops) (x0 : d9) : @Eq (Option ((Bool × Unit))) (bodyK EE R L 27 [⟨t0, x0⟩]) (
  (c_spec_l01In R x0.1 (0 : Int) (1000000 : Int)).bind fun r0 =>
  cond r0.1
  ((c_spec_l01In R x0.2.1 (0 : Int) (1 : Int)).bind fun r1 =>
    cond r1.1
    ((c_spec_l01In R x0.2.2.2.1 (0 : Int) (1000000 : Int)).bind fun r2 =>
      cond r2.1
      ((c_spec_l01In R x0.2.2.1 x0.1 (Go.Rf.minI (Go.IntKind.wrap .i64 (x0.1 + (4 : Int))) (1000000 : Int))).bind fun r3 =>
        cond r3.1
        (cond (Go.Rf.eqI (((List.length x0.2.2.2.2.1) : Nat) : Int) (32 : Int))
          (cond (Go.Rf.eqI (((List.length x0.2.2.2.2.2.1) : Nat) : Int) (32 : Int))
            (cond (Go.Rf.eqI (((List.length x0.2.2.2.2.2.2.1) : Nat) : Int) (32 : Int))
              (cond (decide (x0.1 < x0.2.2.1))
                (some (true, ()))
                (some ((Go.Rf.eqS x0.2.2.2.2.1 x0.2.2.2.2.2.1), ())))
              (some (false, ())))
            (some (false, ())))
          (some (false, ())))
        (some (false, ())))
      (some (false, ())))
    (some (false, ())))
  (some (false, ()))) := by kernel_rfl
/-- loop.example/g00548/spec.l05In -/
theorem q_spec_l05In (R : Run EE) (L : Loops) (x0 : Int) : @Eq (Option ((Bool × Unit))) (bodyK EE R L 44 [⟨(.int .i64), x0⟩]) (
  (c_spec_l01In R x0 (0 : Int) (39 : Int)).bind fun r0 =>
  some (r0.1, ())) := by kernel_rfl
/-- loop.example/g00548/spec.DeviceOK -/
theorem q_spec_DeviceOK (R : Run EE) (L : Loops) (x0 : d11) : @Eq (Option ((Bool × Unit))) (bodyK EE R L 28 [⟨t2, x0⟩]) (
  cond (!(Go.Rf.eqI (((List.length x0.1) : Nat) : Int) (40 : Int)))
  (some (false, ()))
  (cond (decide ((60 : Int) < (((List.length x0.2.1) : Nat) : Int)))
    (some (false, ()))
    (lp_spec_DeviceOK_0 R L x0 x0 false (0 : Int)))) := by kernel_rfl
theorem q_spec_DeviceOK_0 (R : Run EE) (L : Loops) (v0 : d11) (v1 : d11) (v2 : Bool) (v3 : Int) : @Eq (Option ((Bool × Unit))) (from_ EE R L 28 Go.Proofs.Tryd.f28 [1, 1, 0, 1, 0, 0] (mk 54 [(0, .dat ⟨t2, v0, .sh⟩), (1, .dat ⟨(.ptr t2), v1, (.own .sh)⟩), (2, .dat ⟨.bool, v2, .sh⟩), (3, .dat ⟨(.int .i64), v3, .sh⟩)])) (
  cond (decide (v3 < (((List.length v1.1) : Nat) : Int)))
  (cond (Go.Rf.nonneg v3)
    (cond (Nat.blt (Int.toNat v3) (List.length v1.1))
      (cond (decide ((700 : Int) < (((List.length (List.getD v1.1 (Int.toNat v3) ([] : List (UInt8)))) : Nat) : Int)))
        (some (false, ()))
        (lp_spec_DeviceOK_0 R L v0 v1 v2 (Go.IntKind.wrap .i64 (v3 + (1 : Int)))))
      (none))
    (none))
  (lp_spec_DeviceOK_1 R L v0 v1 v2 v3 (0 : Int))) := by kernel_rfl
theorem q_spec_DeviceOK_1 (R : Run EE) (L : Loops) (v0 : d11) (v1 : d11) (v2 : Bool) (v3 : Int) (v4 : Int) : @Eq (Option ((Bool × Unit))) (from_ EE R L 28 Go.Proofs.Tryd.f28 [1, 1, 1, 0, 1, 0, 0] (mk 54 [(0, .dat ⟨t2, v0, .sh⟩), (1, .dat ⟨(.ptr t2), v1, (.own .sh)⟩), (2, .dat ⟨.bool, v2, .sh⟩), (3, .dat ⟨(.int .i64), v3, .sh⟩), (4, .dat ⟨(.int .i64), v4, .sh⟩)])) (
  cond (decide (v4 < (((List.length v1.2.1) : Nat) : Int)))
  (cond (Go.Rf.nonneg v4)
    (cond (Nat.blt (Int.toNat v4) (List.length v1.2.1))
      ((c_spec_l05In R (List.getD v1.2.1 (Int.toNat v4) ((0 : Int), (([] : List (UInt8)), ()))).1).bind fun r0 =>
        cond (!r0.1)
        (some (false, ()))
        (cond (Go.Rf.nonneg v4)
          (cond (Nat.blt (Int.toNat v4) (List.length v1.2.1))
            (cond (decide ((700 : Int) < (((List.length (List.getD v1.2.1 (Int.toNat v4) ((0 : Int), (([] : List (UInt8)), ()))).2.1) : Nat) : Int)))
              (some (false, ()))
              (lp_spec_DeviceOK_1 R L v0 v1 v2 v3 (Go.IntKind.wrap .i64 (v4 + (1 : Int)))))
            (none))
          (none)))
      (none))
    (none))
  (some (true, ()))) := by kernel_rfl
/-- loop.example/g00548/spec.StoreOK -/
theorem q_spec_StoreOK (R : Run EE) (L : Loops) (x0 : d12) : @Eq (Option ((Bool × Unit))) (bodyK EE R L 15 [⟨t3, x0⟩]) (
  cond (Go.Rf.eqI (((List.length x0.1) : Nat) : Int) (32 : Int))
  ((c_spec_RegisterOK R x0.2.1).bind fun r0 =>
    cond r0.1
    ((c_spec_DeviceOK R x0.2.2.1).bind fun r1 =>
      cond r1.1
      (cond (Go.Rf.eqI (((List.length x0.2.2.1.2.1) : Nat) : Int) (0 : Int))
        (cond x0.2.2.2.1
          (some ((!x0.2.2.2.2.1), ()))
          (some ((!false), ())))
        (some (false, ())))
      (some (false, ())))
    (some (false, ())))
  (some (false, ()))) := by kernel_rfl
/-- loop.example/g00548/spec.l00Digits -/
theorem q_spec_l00Digits (R : Run EE) (L : Loops) (x0 : Int) : @Eq (Option ((List UInt8 × Unit))) (bodyK EE R L 29 [⟨(.int .i64), x0⟩]) (
  cond (Go.Rf.eqI x0 (-(9223372036854775808 : Int)))
  (some (((45 : UInt8) :: ((57 : UInt8) :: ((50 : UInt8) :: ((50 : UInt8) :: ((51 : UInt8) :: ((51 : UInt8) :: ((55 : UInt8) :: ((50 : UInt8) :: ((48 : UInt8) :: ((51 : UInt8) :: ((54 : UInt8) :: ((56 : UInt8) :: ((53 : UInt8) :: ((52 : UInt8) :: ((55 : UInt8) :: ((55 : UInt8) :: ((53 : UInt8) :: ((56 : UInt8) :: ((48 : UInt8) :: ((56 : UInt8) :: ([] : List (UInt8)))))))))))))))))))))), ()))
  (cond (decide (x0 < (0 : Int)))
    ((c_spec_l00Digits R (Go.Rf.negI .i64 x0)).bind fun r0 =>
      cond (Go.Rf.lenOK ((List.length ((45 : UInt8) :: ([] : List (UInt8)))) + (List.length r0.1)))
      (some ((((45 : UInt8) :: ([] : List (UInt8))) ++ r0.1), ()))
      (none))
    (cond (decide (x0 < (10 : Int)))
      (some ((List.map (fun (n : Int) => (UInt8.ofNat (Int.toNat n))) ((Go.IntKind.wrap .u8 (Go.IntKind.wrap .i64 ((48 : Int) + x0))) :: ([] : List (Int)))), ()))
      ((c_spec_l00Digits R (Go.IntKind.wrap .i64 (Int.tdiv x0 (10 : Int)))).bind fun r0 =>
        cond (Go.Rf.lenOK ((List.length r0.1) + (List.length (List.map (fun (n : Int) => (UInt8.ofNat (Int.toNat n))) ((Go.IntKind.wrap .u8 (Go.IntKind.wrap .i64 ((48 : Int) + (Int.tmod x0 (10 : Int))))) :: ([] : List (Int)))))))
        (some ((r0.1 ++ (List.map (fun (n : Int) => (UInt8.ofNat (Int.toNat n))) ((Go.IntKind.wrap .u8 (Go.IntKind.wrap .i64 ((48 : Int) + (Int.tmod x0 (10 : Int))))) :: ([] : List (Int))))), ()))
        (none))))) := by kernel_rfl
/-- loop.example/g00548/spec.l01Hex -/
theorem q_spec_l01Hex (R : Run EE) (L : Loops) (x0 : List UInt8) : @Eq (Option ((List UInt8 × Unit))) (bodyK EE R L 30 [⟨.str, x0⟩]) (
  lp_spec_l01Hex_0 R L x0 ([] : List (UInt8)) ([] : List (Int)) (0 : Int)) := by kernel_rfl
theorem q_spec_l01Hex_0 (R : Run EE) (L : Loops) (v0 : List UInt8) (v2 : List UInt8) (v3 : List (Int)) (v4 : Int) : @Eq (Option ((List UInt8 × Unit))) (from_ EE R L 30 Go.Proofs.Tryd.f30 [1, 1, 0, 1, 0, 0] (mk 27 [(0, .dat ⟨.str, v0, .sh⟩), (2, .dat ⟨.str, v2, .sh⟩), (3, .dat ⟨(.sl (.int .u8)), v3, (.own .sh)⟩), (4, .dat ⟨(.int .i64), v4, .sh⟩)])) (
  cond (decide (v4 < (((List.length v0) : Nat) : Int)))
  (cond (Go.Rf.nonneg v4)
    (cond (Nat.blt (Int.toNat v4) (List.length v0))
      (cond (Go.Rf.nonneg (Int.fdiv (((UInt8.toNat (List.getD v0 (Int.toNat v4) (0 : UInt8))) : Nat) : Int) ((2 : Int) ^ (Min.min (Int.toNat (4 : Int)) (Go.IntKind.bits .u8)))))
        (cond (Nat.blt (Int.toNat (Int.fdiv (((UInt8.toNat (List.getD v0 (Int.toNat v4) (0 : UInt8))) : Nat) : Int) ((2 : Int) ^ (Min.min (Int.toNat (4 : Int)) (Go.IntKind.bits .u8))))) (List.length ((48 : UInt8) :: ((49 : UInt8) :: ((50 : UInt8) :: ((51 : UInt8) :: ((52 : UInt8) :: ((53 : UInt8) :: ((54 : UInt8) :: ((55 : UInt8) :: ((56 : UInt8) :: ((57 : UInt8) :: ((97 : UInt8) :: ((98 : UInt8) :: ((99 : UInt8) :: ((100 : UInt8) :: ((101 : UInt8) :: ((102 : UInt8) :: ([] : List (UInt8))))))))))))))))))))
          (cond (Go.Rf.nonneg v4)
            (cond (Nat.blt (Int.toNat v4) (List.length v0))
              (cond (Nat.blt (Int.toNat (Go.Rf.bitI .and .u8 (((UInt8.toNat (List.getD v0 (Int.toNat v4) (0 : UInt8))) : Nat) : Int) (15 : Int))) (List.length ((48 : UInt8) :: ((49 : UInt8) :: ((50 : UInt8) :: ((51 : UInt8) :: ((52 : UInt8) :: ((53 : UInt8) :: ((54 : UInt8) :: ((55 : UInt8) :: ((56 : UInt8) :: ((57 : UInt8) :: ((97 : UInt8) :: ((98 : UInt8) :: ((99 : UInt8) :: ((100 : UInt8) :: ((101 : UInt8) :: ((102 : UInt8) :: ([] : List (UInt8))))))))))))))))))))
                (cond (Go.Rf.lenOK ((List.length v3) + (List.length ((((UInt8.toNat (List.getD ((48 : UInt8) :: ((49 : UInt8) :: ((50 : UInt8) :: ((51 : UInt8) :: ((52 : UInt8) :: ((53 : UInt8) :: ((54 : UInt8) :: ((55 : UInt8) :: ((56 : UInt8) :: ((57 : UInt8) :: ((97 : UInt8) :: ((98 : UInt8) :: ((99 : UInt8) :: ((100 : UInt8) :: ((101 : UInt8) :: ((102 : UInt8) :: ([] : List (UInt8)))))))))))))))))) (Int.toNat (Int.fdiv (((UInt8.toNat (List.getD v0 (Int.toNat v4) (0 : UInt8))) : Nat) : Int) ((2 : Int) ^ (Min.min (Int.toNat (4 : Int)) (Go.IntKind.bits .u8))))) (0 : UInt8))) : Nat) : Int) :: ((((UInt8.toNat (List.getD ((48 : UInt8) :: ((49 : UInt8) :: ((50 : UInt8) :: ((51 : UInt8) :: ((52 : UInt8) :: ((53 : UInt8) :: ((54 : UInt8) :: ((55 : UInt8) :: ((56 : UInt8) :: ((57 : UInt8) :: ((97 : UInt8) :: ((98 : UInt8) :: ((99 : UInt8) :: ((100 : UInt8) :: ((101 : UInt8) :: ((102 : UInt8) :: ([] : List (UInt8)))))))))))))))))) (Int.toNat (Go.Rf.bitI .and .u8 (((UInt8.toNat (List.getD v0 (Int.toNat v4) (0 : UInt8))) : Nat) : Int) (15 : Int))) (0 : UInt8))) : Nat) : Int) :: ([] : List (Int)))))))
                  (lp_spec_l01Hex_0 R L v0 v2 (v3 ++ ((((UInt8.toNat (List.getD ((48 : UInt8) :: ((49 : UInt8) :: ((50 : UInt8) :: ((51 : UInt8) :: ((52 : UInt8) :: ((53 : UInt8) :: ((54 : UInt8) :: ((55 : UInt8) :: ((56 : UInt8) :: ((57 : UInt8) :: ((97 : UInt8) :: ((98 : UInt8) :: ((99 : UInt8) :: ((100 : UInt8) :: ((101 : UInt8) :: ((102 : UInt8) :: ([] : List (UInt8)))))))))))))))))) (Int.toNat (Int.fdiv (((UInt8.toNat (List.getD v0 (Int.toNat v4) (0 : UInt8))) : Nat) : Int) ((2 : Int) ^ (Min.min (Int.toNat (4 : Int)) (Go.IntKind.bits .u8))))) (0 : UInt8))) : Nat) : Int) :: ((((UInt8.toNat (List.getD ((48 : UInt8) :: ((49 : UInt8) :: ((50 : UInt8) :: ((51 : UInt8) :: ((52 : UInt8) :: ((53 : UInt8) :: ((54 : UInt8) :: ((55 : UInt8) :: ((56 : UInt8) :: ((57 : UInt8) :: ((97 : UInt8) :: ((98 : UInt8) :: ((99 : UInt8) :: ((100 : UInt8) :: ((101 : UInt8) :: ((102 : UInt8) :: ([] : List (UInt8)))))))))))))))))) (Int.toNat (Go.Rf.bitI .and .u8 (((UInt8.toNat (List.getD v0 (Int.toNat v4) (0 : UInt8))) : Nat) : Int) (15 : Int))) (0 : UInt8))) : Nat) : Int) :: ([] : List (Int))))) (Go.IntKind.wrap .i64 (v4 + (1 : Int))))
                  (none))
                (none))
              (none))
            (none))
          (none))
        (none))
      (none))
    (none))
  (some ((List.map (fun (n : Int) => (UInt8.ofNat (Int.toNat n))) v3), ()))) := by kernel_rfl
/-- loop.example/g00548/spec.l15Store -/
theorem q_spec_l15Store (R : Run EE) (L : Loops) (x0 : d12) : @Eq (Option (d13)) (bodyK EE R L 16 [⟨t3, x0⟩]) (
  cond x0.2.2.2.2.1
  ((c_spec_l00Digits R x0.2.1.1).bind fun r0 =>
    cond (Go.Rf.lenOK ((List.length (((100 : UInt8) :: ((101 : UInt8) :: ((97 : UInt8) :: ((100 : UInt8) :: ([] : List (UInt8)))))) ++ ((32 : UInt8) :: ((101 : UInt8) :: ((112 : UInt8) :: ((111 : UInt8) :: ((99 : UInt8) :: ((104 : UInt8) :: ((32 : UInt8) :: ([] : List (UInt8))))))))))) + (List.length r0.1)))
    (cond (Go.Rf.lenOK ((List.length ((((100 : UInt8) :: ((101 : UInt8) :: ((97 : UInt8) :: ((100 : UInt8) :: ([] : List (UInt8)))))) ++ ((32 : UInt8) :: ((101 : UInt8) :: ((112 : UInt8) :: ((111 : UInt8) :: ((99 : UInt8) :: ((104 : UInt8) :: ((32 : UInt8) :: ([] : List (UInt8)))))))))) ++ r0.1)) + (List.length ((32 : UInt8) :: ((115 : UInt8) :: ((105 : UInt8) :: ((100 : UInt8) :: ((101 : UInt8) :: ((32 : UInt8) :: ([] : List (UInt8)))))))))))
      ((c_spec_l00Digits R x0.2.1.2.1).bind fun r1 =>
        cond (Go.Rf.lenOK ((List.length (((((100 : UInt8) :: ((101 : UInt8) :: ((97 : UInt8) :: ((100 : UInt8) :: ([] : List (UInt8)))))) ++ ((32 : UInt8) :: ((101 : UInt8) :: ((112 : UInt8) :: ((111 : UInt8) :: ((99 : UInt8) :: ((104 : UInt8) :: ((32 : UInt8) :: ([] : List (UInt8)))))))))) ++ r0.1) ++ ((32 : UInt8) :: ((115 : UInt8) :: ((105 : UInt8) :: ((100 : UInt8) :: ((101 : UInt8) :: ((32 : UInt8) :: ([] : List (UInt8)))))))))) + (List.length r1.1)))
        (cond (Go.Rf.lenOK ((List.length ((((((100 : UInt8) :: ((101 : UInt8) :: ((97 : UInt8) :: ((100 : UInt8) :: ([] : List (UInt8)))))) ++ ((32 : UInt8) :: ((101 : UInt8) :: ((112 : UInt8) :: ((111 : UInt8) :: ((99 : UInt8) :: ((104 : UInt8) :: ((32 : UInt8) :: ([] : List (UInt8)))))))))) ++ r0.1) ++ ((32 : UInt8) :: ((115 : UInt8) :: ((105 : UInt8) :: ((100 : UInt8) :: ((101 : UInt8) :: ((32 : UInt8) :: ([] : List (UInt8))))))))) ++ r1.1)) + (List.length ((32 : UInt8) :: ((119 : UInt8) :: ((97 : UInt8) :: ((105 : UInt8) :: ((116 : UInt8) :: ((105 : UInt8) :: ((110 : UInt8) :: ((103 : UInt8) :: ((32 : UInt8) :: ([] : List (UInt8))))))))))))))
          ((c_spec_l00Digits R (Go.IntKind.wrap .i64 (x0.2.1.2.2.1 - x0.2.1.1))).bind fun r2 =>
            cond (Go.Rf.lenOK ((List.length (((((((100 : UInt8) :: ((101 : UInt8) :: ((97 : UInt8) :: ((100 : UInt8) :: ([] : List (UInt8)))))) ++ ((32 : UInt8) :: ((101 : UInt8) :: ((112 : UInt8) :: ((111 : UInt8) :: ((99 : UInt8) :: ((104 : UInt8) :: ((32 : UInt8) :: ([] : List (UInt8)))))))))) ++ r0.1) ++ ((32 : UInt8) :: ((115 : UInt8) :: ((105 : UInt8) :: ((100 : UInt8) :: ((101 : UInt8) :: ((32 : UInt8) :: ([] : List (UInt8))))))))) ++ r1.1) ++ ((32 : UInt8) :: ((119 : UInt8) :: ((97 : UInt8) :: ((105 : UInt8) :: ((116 : UInt8) :: ((105 : UInt8) :: ((110 : UInt8) :: ((103 : UInt8) :: ((32 : UInt8) :: ([] : List (UInt8))))))))))))) + (List.length r2.1)))
            (cond (Nat.ble (Int.toNat (4 : Int)) (List.length x0.2.1.2.2.2.2.2.2.1))
              ((c_spec_l01Hex R (List.drop (0 : Nat) (List.take (Int.toNat (4 : Int)) x0.2.1.2.2.2.2.2.2.1))).bind fun r3 =>
                cond (Go.Rf.lenOK ((List.length ((114 : UInt8) :: ((111 : UInt8) :: ((111 : UInt8) :: ((116 : UInt8) :: ((32 : UInt8) :: ([] : List (UInt8)))))))) + (List.length r3.1)))
                (cond (Nat.ble (Int.toNat (4 : Int)) (List.length x0.2.1.2.2.2.2.2.1))
                  ((c_spec_l01Hex R (List.drop (0 : Nat) (List.take (Int.toNat (4 : Int)) x0.2.1.2.2.2.2.2.1))).bind fun r4 =>
                    cond (Go.Rf.lenOK ((List.length ((116 : UInt8) :: ((105 : UInt8) :: ((112 : UInt8) :: ((32 : UInt8) :: ([] : List (UInt8))))))) + (List.length r4.1)))
                    (some ((((((((((100 : UInt8) :: ((101 : UInt8) :: ((97 : UInt8) :: ((100 : UInt8) :: ([] : List (UInt8)))))) ++ ((32 : UInt8) :: ((101 : UInt8) :: ((112 : UInt8) :: ((111 : UInt8) :: ((99 : UInt8) :: ((104 : UInt8) :: ((32 : UInt8) :: ([] : List (UInt8)))))))))) ++ r0.1) ++ ((32 : UInt8) :: ((115 : UInt8) :: ((105 : UInt8) :: ((100 : UInt8) :: ((101 : UInt8) :: ((32 : UInt8) :: ([] : List (UInt8))))))))) ++ r1.1) ++ ((32 : UInt8) :: ((119 : UInt8) :: ((97 : UInt8) :: ((105 : UInt8) :: ((116 : UInt8) :: ((105 : UInt8) :: ((110 : UInt8) :: ((103 : UInt8) :: ((32 : UInt8) :: ([] : List (UInt8)))))))))))) ++ r2.1) :: ((((114 : UInt8) :: ((111 : UInt8) :: ((111 : UInt8) :: ((116 : UInt8) :: ((32 : UInt8) :: ([] : List (UInt8))))))) ++ r3.1) :: ((((116 : UInt8) :: ((105 : UInt8) :: ((112 : UInt8) :: ((32 : UInt8) :: ([] : List (UInt8)))))) ++ r4.1) :: ([] : List (List (UInt8)))))), ()))
                    (none))
                  (none))
                (none))
              (none))
            (none))
          (none))
        (none))
      (none))
    (none))
  (cond x0.2.2.2.1
    ((c_spec_l00Digits R x0.2.1.1).bind fun r0 =>
      cond (Go.Rf.lenOK ((List.length (((117 : UInt8) :: ((112 : UInt8) :: ([] : List (UInt8)))) ++ ((32 : UInt8) :: ((101 : UInt8) :: ((112 : UInt8) :: ((111 : UInt8) :: ((99 : UInt8) :: ((104 : UInt8) :: ((32 : UInt8) :: ([] : List (UInt8))))))))))) + (List.length r0.1)))
      (cond (Go.Rf.lenOK ((List.length ((((117 : UInt8) :: ((112 : UInt8) :: ([] : List (UInt8)))) ++ ((32 : UInt8) :: ((101 : UInt8) :: ((112 : UInt8) :: ((111 : UInt8) :: ((99 : UInt8) :: ((104 : UInt8) :: ((32 : UInt8) :: ([] : List (UInt8)))))))))) ++ r0.1)) + (List.length ((32 : UInt8) :: ((115 : UInt8) :: ((105 : UInt8) :: ((100 : UInt8) :: ((101 : UInt8) :: ((32 : UInt8) :: ([] : List (UInt8)))))))))))
        ((c_spec_l00Digits R x0.2.1.2.1).bind fun r1 =>
          cond (Go.Rf.lenOK ((List.length (((((117 : UInt8) :: ((112 : UInt8) :: ([] : List (UInt8)))) ++ ((32 : UInt8) :: ((101 : UInt8) :: ((112 : UInt8) :: ((111 : UInt8) :: ((99 : UInt8) :: ((104 : UInt8) :: ((32 : UInt8) :: ([] : List (UInt8)))))))))) ++ r0.1) ++ ((32 : UInt8) :: ((115 : UInt8) :: ((105 : UInt8) :: ((100 : UInt8) :: ((101 : UInt8) :: ((32 : UInt8) :: ([] : List (UInt8)))))))))) + (List.length r1.1)))
          (cond (Go.Rf.lenOK ((List.length ((((((117 : UInt8) :: ((112 : UInt8) :: ([] : List (UInt8)))) ++ ((32 : UInt8) :: ((101 : UInt8) :: ((112 : UInt8) :: ((111 : UInt8) :: ((99 : UInt8) :: ((104 : UInt8) :: ((32 : UInt8) :: ([] : List (UInt8)))))))))) ++ r0.1) ++ ((32 : UInt8) :: ((115 : UInt8) :: ((105 : UInt8) :: ((100 : UInt8) :: ((101 : UInt8) :: ((32 : UInt8) :: ([] : List (UInt8))))))))) ++ r1.1)) + (List.length ((32 : UInt8) :: ((119 : UInt8) :: ((97 : UInt8) :: ((105 : UInt8) :: ((116 : UInt8) :: ((105 : UInt8) :: ((110 : UInt8) :: ((103 : UInt8) :: ((32 : UInt8) :: ([] : List (UInt8))))))))))))))
            ((c_spec_l00Digits R (Go.IntKind.wrap .i64 (x0.2.1.2.2.1 - x0.2.1.1))).bind fun r2 =>
              cond (Go.Rf.lenOK ((List.length (((((((117 : UInt8) :: ((112 : UInt8) :: ([] : List (UInt8)))) ++ ((32 : UInt8) :: ((101 : UInt8) :: ((112 : UInt8) :: ((111 : UInt8) :: ((99 : UInt8) :: ((104 : UInt8) :: ((32 : UInt8) :: ([] : List (UInt8)))))))))) ++ r0.1) ++ ((32 : UInt8) :: ((115 : UInt8) :: ((105 : UInt8) :: ((100 : UInt8) :: ((101 : UInt8) :: ((32 : UInt8) :: ([] : List (UInt8))))))))) ++ r1.1) ++ ((32 : UInt8) :: ((119 : UInt8) :: ((97 : UInt8) :: ((105 : UInt8) :: ((116 : UInt8) :: ((105 : UInt8) :: ((110 : UInt8) :: ((103 : UInt8) :: ((32 : UInt8) :: ([] : List (UInt8))))))))))))) + (List.length r2.1)))
              (cond (Nat.ble (Int.toNat (4 : Int)) (List.length x0.2.1.2.2.2.2.2.2.1))
                ((c_spec_l01Hex R (List.drop (0 : Nat) (List.take (Int.toNat (4 : Int)) x0.2.1.2.2.2.2.2.2.1))).bind fun r3 =>
                  cond (Go.Rf.lenOK ((List.length ((114 : UInt8) :: ((111 : UInt8) :: ((111 : UInt8) :: ((116 : UInt8) :: ((32 : UInt8) :: ([] : List (UInt8)))))))) + (List.length r3.1)))
                  (cond (Nat.ble (Int.toNat (4 : Int)) (List.length x0.2.1.2.2.2.2.2.1))
                    ((c_spec_l01Hex R (List.drop (0 : Nat) (List.take (Int.toNat (4 : Int)) x0.2.1.2.2.2.2.2.1))).bind fun r4 =>
                      cond (Go.Rf.lenOK ((List.length ((116 : UInt8) :: ((105 : UInt8) :: ((112 : UInt8) :: ((32 : UInt8) :: ([] : List (UInt8))))))) + (List.length r4.1)))
                      (some ((((((((((117 : UInt8) :: ((112 : UInt8) :: ([] : List (UInt8)))) ++ ((32 : UInt8) :: ((101 : UInt8) :: ((112 : UInt8) :: ((111 : UInt8) :: ((99 : UInt8) :: ((104 : UInt8) :: ((32 : UInt8) :: ([] : List (UInt8)))))))))) ++ r0.1) ++ ((32 : UInt8) :: ((115 : UInt8) :: ((105 : UInt8) :: ((100 : UInt8) :: ((101 : UInt8) :: ((32 : UInt8) :: ([] : List (UInt8))))))))) ++ r1.1) ++ ((32 : UInt8) :: ((119 : UInt8) :: ((97 : UInt8) :: ((105 : UInt8) :: ((116 : UInt8) :: ((105 : UInt8) :: ((110 : UInt8) :: ((103 : UInt8) :: ((32 : UInt8) :: ([] : List (UInt8)))))))))))) ++ r2.1) :: ((((114 : UInt8) :: ((111 : UInt8) :: ((111 : UInt8) :: ((116 : UInt8) :: ((32 : UInt8) :: ([] : List (UInt8))))))) ++ r3.1) :: ((((116 : UInt8) :: ((105 : UInt8) :: ((112 : UInt8) :: ((32 : UInt8) :: ([] : List (UInt8)))))) ++ r4.1) :: ([] : List (List (UInt8)))))), ()))
                      (none))
                    (none))
                  (none))
                (none))
              (none))
            (none))
          (none))
        (none))
      (none))
    ((c_spec_l00Digits R x0.2.1.1).bind fun r0 =>
      cond (Go.Rf.lenOK ((List.length (((100 : UInt8) :: ((111 : UInt8) :: ((119 : UInt8) :: ((110 : UInt8) :: ([] : List (UInt8)))))) ++ ((32 : UInt8) :: ((101 : UInt8) :: ((112 : UInt8) :: ((111 : UInt8) :: ((99 : UInt8) :: ((104 : UInt8) :: ((32 : UInt8) :: ([] : List (UInt8))))))))))) + (List.length r0.1)))
      (cond (Go.Rf.lenOK ((List.length ((((100 : UInt8) :: ((111 : UInt8) :: ((119 : UInt8) :: ((110 : UInt8) :: ([] : List (UInt8)))))) ++ ((32 : UInt8) :: ((101 : UInt8) :: ((112 : UInt8) :: ((111 : UInt8) :: ((99 : UInt8) :: ((104 : UInt8) :: ((32 : UInt8) :: ([] : List (UInt8)))))))))) ++ r0.1)) + (List.length ((32 : UInt8) :: ((115 : UInt8) :: ((105 : UInt8) :: ((100 : UInt8) :: ((101 : UInt8) :: ((32 : UInt8) :: ([] : List (UInt8)))))))))))
        ((c_spec_l00Digits R x0.2.1.2.1).bind fun r1 =>
          cond (Go.Rf.lenOK ((List.length (((((100 : UInt8) :: ((111 : UInt8) :: ((119 : UInt8) :: ((110 : UInt8) :: ([] : List (UInt8)))))) ++ ((32 : UInt8) :: ((101 : UInt8) :: ((112 : UInt8) :: ((111 : UInt8) :: ((99 : UInt8) :: ((104 : UInt8) :: ((32 : UInt8) :: ([] : List (UInt8)))))))))) ++ r0.1) ++ ((32 : UInt8) :: ((115 : UInt8) :: ((105 : UInt8) :: ((100 : UInt8) :: ((101 : UInt8) :: ((32 : UInt8) :: ([] : List (UInt8)))))))))) + (List.length r1.1)))
          (cond (Go.Rf.lenOK ((List.length ((((((100 : UInt8) :: ((111 : UInt8) :: ((119 : UInt8) :: ((110 : UInt8) :: ([] : List (UInt8)))))) ++ ((32 : UInt8) :: ((101 : UInt8) :: ((112 : UInt8) :: ((111 : UInt8) :: ((99 : UInt8) :: ((104 : UInt8) :: ((32 : UInt8) :: ([] : List (UInt8)))))))))) ++ r0.1) ++ ((32 : UInt8) :: ((115 : UInt8) :: ((105 : UInt8) :: ((100 : UInt8) :: ((101 : UInt8) :: ((32 : UInt8) :: ([] : List (UInt8))))))))) ++ r1.1)) + (List.length ((32 : UInt8) :: ((119 : UInt8) :: ((97 : UInt8) :: ((105 : UInt8) :: ((116 : UInt8) :: ((105 : UInt8) :: ((110 : UInt8) :: ((103 : UInt8) :: ((32 : UInt8) :: ([] : List (UInt8))))))))))))))
            ((c_spec_l00Digits R (Go.IntKind.wrap .i64 (x0.2.1.2.2.1 - x0.2.1.1))).bind fun r2 =>
              cond (Go.Rf.lenOK ((List.length (((((((100 : UInt8) :: ((111 : UInt8) :: ((119 : UInt8) :: ((110 : UInt8) :: ([] : List (UInt8)))))) ++ ((32 : UInt8) :: ((101 : UInt8) :: ((112 : UInt8) :: ((111 : UInt8) :: ((99 : UInt8) :: ((104 : UInt8) :: ((32 : UInt8) :: ([] : List (UInt8)))))))))) ++ r0.1) ++ ((32 : UInt8) :: ((115 : UInt8) :: ((105 : UInt8) :: ((100 : UInt8) :: ((101 : UInt8) :: ((32 : UInt8) :: ([] : List (UInt8))))))))) ++ r1.1) ++ ((32 : UInt8) :: ((119 : UInt8) :: ((97 : UInt8) :: ((105 : UInt8) :: ((116 : UInt8) :: ((105 : UInt8) :: ((110 : UInt8) :: ((103 : UInt8) :: ((32 : UInt8) :: ([] : List (UInt8))))))))))))) + (List.length r2.1)))
              (cond (Nat.ble (Int.toNat (4 : Int)) (List.length x0.2.1.2.2.2.2.2.2.1))
                ((c_spec_l01Hex R (List.drop (0 : Nat) (List.take (Int.toNat (4 : Int)) x0.2.1.2.2.2.2.2.2.1))).bind fun r3 =>
                  cond (Go.Rf.lenOK ((List.length ((114 : UInt8) :: ((111 : UInt8) :: ((111 : UInt8) :: ((116 : UInt8) :: ((32 : UInt8) :: ([] : List (UInt8)))))))) + (List.length r3.1)))
                  (cond (Nat.ble (Int.toNat (4 : Int)) (List.length x0.2.1.2.2.2.2.2.1))
                    ((c_spec_l01Hex R (List.drop (0 : Nat) (List.take (Int.toNat (4 : Int)) x0.2.1.2.2.2.2.2.1))).bind fun r4 =>
                      cond (Go.Rf.lenOK ((List.length ((116 : UInt8) :: ((105 : UInt8) :: ((112 : UInt8) :: ((32 : UInt8) :: ([] : List (UInt8))))))) + (List.length r4.1)))
                      (some ((((((((((100 : UInt8) :: ((111 : UInt8) :: ((119 : UInt8) :: ((110 : UInt8) :: ([] : List (UInt8)))))) ++ ((32 : UInt8) :: ((101 : UInt8) :: ((112 : UInt8) :: ((111 : UInt8) :: ((99 : UInt8) :: ((104 : UInt8) :: ((32 : UInt8) :: ([] : List (UInt8)))))))))) ++ r0.1) ++ ((32 : UInt8) :: ((115 : UInt8) :: ((105 : UInt8) :: ((100 : UInt8) :: ((101 : UInt8) :: ((32 : UInt8) :: ([] : List (UInt8))))))))) ++ r1.1) ++ ((32 : UInt8) :: ((119 : UInt8) :: ((97 : UInt8) :: ((105 : UInt8) :: ((116 : UInt8) :: ((105 : UInt8) :: ((110 : UInt8) :: ((103 : UInt8) :: ((32 : UInt8) :: ([] : List (UInt8)))))))))))) ++ r2.1) :: ((((114 : UInt8) :: ((111 : UInt8) :: ((111 : UInt8) :: ((116 : UInt8) :: ((32 : UInt8) :: ([] : List (UInt8))))))) ++ r3.1) :: ((((116 : UInt8) :: ((105 : UInt8) :: ((112 : UInt8) :: ((32 : UInt8) :: ([] : List (UInt8)))))) ++ r4.1) :: ([] : List (List (UInt8)))))), ()))
                      (none))
                    (none))
                  (none))
                (none))
              (none))
            (none))
          (none))
        (none))
      (none)))) := by kernel_rfl
/-- loop.example/g00548/spec.StoreLines -/
theorem q_spec_StoreLines (R : Run EE) (L : Loops) (x0 : d12) : @Eq (Option (d14)) (bodyK EE R L 5 [⟨t3, x0⟩]) (
  (c_spec_StoreOK R x0).bind fun r0 =>
  cond (!r0.1)
  (some (([] : List (List (UInt8))), ((1 : Int), ())))
  ((c_spec_l15Store R x0).bind fun r1 =>
    some (r1.1, ((0 : Int), ())))) := by kernel_rfl
/-- loop.example/g00548/impl.within -/
theorem q_impl_within (R : Run EE) (L : Loops) (x0 : Int) (x1 : Int) (x2 : Int) : @Eq (Option ((Bool × Unit))) (bodyK EE R L 46 [⟨(.int .i64), x0⟩, ⟨(.int .i64), x1⟩, ⟨(.int .i64), x2⟩]) (
  cond (decide (x1 ≤ x0))
  (some ((decide (x0 ≤ x2)), ()))
  (some (false, ()))) := by kernel_rfl
/-- loop.example/g00548/impl.isDigest -/
theorem q_impl_isDigest (R : Run EE) (L : Loops) (x0 : List UInt8) : @Eq (Option ((Bool × Unit))) (bodyK EE R L 47 [⟨.str, x0⟩]) (
  some ((Go.Rf.eqI (((List.length x0) : Nat) : Int) (32 : Int)), ())) := by kernel_rfl
/-- (loop.example/g00548/impl.Register).waiting -/
theorem q_impl_Register_waiting (R : Run EE) (L : Loops) (x0 : d9) : @Eq (Option ((Int × Unit))) (bodyK EE R L 37 [⟨t0, x0⟩]) (
  some ((Go.IntKind.wrap .i64 (x0.2.2.1 - x0.1)), ())) := by kernel_rfl
/-- loop.example/g00548/impl.RegisterOK -/
theorem q_impl_RegisterOK (R : Run EE) (L : Loops) (x0 : d9) : @Eq (Option ((Bool × Unit))) (bodyK EE R L 33 [⟨t0, x0⟩]) (
  (c_impl_within R x0.1 (0 : Int) (1000000 : Int)).bind fun r0 =>
  cond r0.1
  ((c_impl_within R x0.2.1 (0 : Int) (1 : Int)).bind fun r1 =>
    cond r1.1
    ((c_impl_within R x0.2.2.1 x0.1 (Go.Rf.minI (Go.IntKind.wrap .i64 (x0.1 + (4 : Int))) (1000000 : Int))).bind fun r2 =>
      cond r2.1
      ((c_impl_within R x0.2.2.2.1 (0 : Int) (1000000 : Int)).bind fun r3 =>
        cond r3.1
        ((c_impl_isDigest R x0.2.2.2.2.1).bind fun r4 =>
          cond r4.1
          ((c_impl_isDigest R x0.2.2.2.2.2.1).bind fun r5 =>
            cond r5.1
            ((c_impl_isDigest R x0.2.2.2.2.2.2.1).bind fun r6 =>
              cond r6.1
              ((c_impl_Register_waiting R x0).bind fun r7 =>
                cond (decide ((0 : Int) < r7.1))
                (some (true, ()))
                (some ((Go.Rf.eqS x0.2.2.2.2.1 x0.2.2.2.2.2.1), ())))
              (some (false, ())))
            (some (false, ())))
          (some (false, ())))
        (some (false, ())))
      (some (false, ())))
    (some (false, ())))
  (some (false, ()))) := by kernel_rfl
/-- loop.example/g00548/impl.areAll[string]$1 -/
theorem q_impl_areAll_string__1 (R : Run EE) (L : Loops) (x0 : List UInt8) (x1 : FnVal) : @Eq (Option ((Bool × Unit))) (bodyK EE R L 63 [⟨.str, x0⟩, ⟨(.ptr .fn), x1⟩]) (
  (callVB EE R x1 [⟨.str, (x0 : List UInt8)⟩]).bind fun (r0 : Bool) =>
  some ((!r0), ())) := by kernel_rfl
/-- slices.IndexFunc[[]string,string] -/
theorem q_slices_IndexFunc___string_string_ (R : Run EE) (L : Loops) (x0 : List (List UInt8)) (x1 : FnVal) : @Eq (Option ((Int × Unit))) (bodyK EE R L 72 [⟨(.sl .str), x0⟩, ⟨.fn, x1⟩]) (
  lp_slices_IndexFunc___string_string__0 R L x0 x1 (0 : Int) (((List.length x0) : Nat) : Int) (0 : Int)) := by kernel_rfl
theorem q_slices_IndexFunc___string_string__0 (R : Run EE) (L : Loops) (v0 : List (List UInt8)) (v1 : FnVal) (v4 : Int) (v7 : Int) (v8 : Int) : @Eq (Option ((Int × Unit))) (from_ EE R L 72 Go.Proofs.Tryd.f72 [1, 0, 1, 0, 0] (mk 19 [(0, .dat ⟨(.sl .str), v0, .sh⟩), (1, .dat ⟨.fn, v1, .sh⟩), (4, .dat ⟨(.int .i64), v4, .sh⟩), (7, .dat ⟨(.int .i64), v7, .sh⟩), (8, .dat ⟨(.int .i64), v8, .sh⟩)])) (
  cond (decide (v8 < v7))
  (cond (Go.Rf.nonneg v8)
    (cond (Nat.blt (Int.toNat v8) (List.length v0))
      ((callVB EE R v1 [⟨.str, ((List.getD v0 (Int.toNat v8) ([] : List (UInt8))) : List UInt8)⟩]).bind fun (r0 : Bool) =>
        cond r0
        (some (v8, ()))
        (lp_slices_IndexFunc___string_string__1 R L v0 v1 v4 v8 v7 (Go.IntKind.wrap .i64 (v8 + (1 : Int)))))
      (none))
    (none))
  (some ((-(1 : Int)), ()))) := by kernel_rfl
theorem q_slices_IndexFunc___string_string__1 (R : Run EE) (L : Loops) (v0 : List (List UInt8)) (v1 : FnVal) (v4 : Int) (v5 : Int) (v7 : Int) (v8 : Int) : @Eq (Option ((Int × Unit))) (from_ EE R L 72 Go.Proofs.Tryd.f72 [1, 0, 1, 0, 0] (mk 19 [(0, .dat ⟨(.sl .str), v0, .sh⟩), (1, .dat ⟨.fn, v1, .sh⟩), (4, .dat ⟨(.int .i64), v4, .sh⟩), (5, .dat ⟨(.int .i64), v5, .sh⟩), (7, .dat ⟨(.int .i64), v7, .sh⟩), (8, .dat ⟨(.int .i64), v8, .sh⟩)])) (
  cond (decide (v8 < v7))
  (cond (Go.Rf.nonneg v8)
    (cond (Nat.blt (Int.toNat v8) (List.length v0))
      ((callVB EE R v1 [⟨.str, ((List.getD v0 (Int.toNat v8) ([] : List (UInt8))) : List UInt8)⟩]).bind fun (r0 : Bool) =>
        cond r0
        (some (v8, ()))
        (lp_slices_IndexFunc___string_string__1 R L v0 v1 v4 v8 v7 (Go.IntKind.wrap .i64 (v8 + (1 : Int)))))
      (none))
    (none))
  (some ((-(1 : Int)), ()))) := by kernel_rfl
/-- slices.ContainsFunc[[]string,string] -/
theorem q_slices_ContainsFunc___string_string_ (R : Run EE) (L : Loops) (x0 : List (List UInt8)) (x1 : FnVal) : @Eq (Option ((Bool × Unit))) (bodyK EE R L 62 [⟨(.sl .str), x0⟩, ⟨.fn, x1⟩]) (
  (c_slices_IndexFunc___string_string_ R x0 x1).bind fun r0 =>
  some ((decide ((0 : Int) ≤ r0.1)), ())) := by kernel_rfl
/-- loop.example/g00548/impl.areAll[string] -/
theorem q_impl_areAll_string_ (R : Run EE) (L : Loops) (x0 : List (List UInt8)) (x1 : FnVal) : @Eq (Option ((Bool × Unit))) (bodyK EE R L 54 [⟨(.sl .str), x0⟩, ⟨.fn, x1⟩]) (
  (c_slices_ContainsFunc___string_string_ R x0 (Go.Rf.FnVal.mk (63 : Nat) (Go.Rf.FCaps.fn x1 (Go.Rf.FCaps.nil)))).bind fun r0 =>
  some ((!r0.1), ())) := by kernel_rfl
/-- loop.example/g00548/impl.isContent -/
theorem q_impl_isContent (R : Run EE) (L : Loops) (x0 : List UInt8) : @Eq (Option ((Bool × Unit))) (bodyK EE R L 55 [⟨.str, x0⟩]) (
  some ((decide ((((List.length x0) : Nat) : Int) ≤ (700 : Int))), ())) := by kernel_rfl
/-- loop.example/g00548/impl.areAll[loop.example/g00548/impl.Io]$1 -/
theorem q_impl_areAll_impl_Io__1 (R : Run EE) (L : Loops) (x0 : d10) (x1 : FnVal) : @Eq (Option ((Bool × Unit))) (bodyK EE R L 65 [⟨t1, x0⟩, ⟨(.ptr .fn), x1⟩]) (
  (callVB EE R x1 [⟨t1, (x0 : d10)⟩]).bind fun (r0 : Bool) =>
  some ((!r0), ())) := by kernel_rfl
/-- slices.IndexFunc[[]loop.example/g00548/impl.Io,loop.example/g00548/impl.Io] -/
theorem q_slices_IndexFunc___impl_Io_impl_Io_ (R : Run EE) (L : Loops) (x0 : List (d10)) (x1 : FnVal) : @Eq (Option ((Int × Unit))) (bodyK EE R L 73 [⟨(.sl t1), x0⟩, ⟨.fn, x1⟩]) (
  lp_slices_IndexFunc___impl_Io_impl_Io__0 R L x0 x1 (0 : Int) (((List.length x0) : Nat) : Int) (0 : Int)) := by kernel_rfl
theorem q_slices_IndexFunc___impl_Io_impl_Io__0 (R : Run EE) (L : Loops) (v0 : List (d10)) (v1 : FnVal) (v4 : Int) (v7 : Int) (v8 : Int) : @Eq (Option ((Int × Unit))) (from_ EE R L 73 Go.Proofs.Tryd.f73 [1, 0, 1, 0, 0] (mk 19 [(0, .dat ⟨(.sl t1), v0, .sh⟩), (1, .dat ⟨.fn, v1, .sh⟩), (4, .dat ⟨(.int .i64), v4, .sh⟩), (7, .dat ⟨(.int .i64), v7, .sh⟩), (8, .dat ⟨(.int .i64), v8, .sh⟩)])) (
  cond (decide (v8 < v7))
  (cond (Go.Rf.nonneg v8)
    (cond (Nat.blt (Int.toNat v8) (List.length v0))
      ((callVB EE R v1 [⟨t1, ((List.getD v0 (Int.toNat v8) ((0 : Int), (([] : List (UInt8)), ()))) : d10)⟩]).bind fun (r0 : Bool) =>
        cond r0
        (some (v8, ()))
        (lp_slices_IndexFunc___impl_Io_impl_Io__1 R L v0 v1 v4 v8 v7 (Go.IntKind.wrap .i64 (v8 + (1 : Int)))))
      (none))
    (none))
  (some ((-(1 : Int)), ()))) := by kernel_rfl
theorem q_slices_IndexFunc___impl_Io_impl_Io__1 (R : Run EE) (L : Loops) (v0 : List (d10)) (v1 : FnVal) (v4 : Int) (v5 : Int) (v7 : Int) (v8 : Int) : @Eq (Option ((Int × Unit))) (from_ EE R L 73 Go.Proofs.Tryd.f73 [1, 0, 1, 0, 0] (mk 19 [(0, .dat ⟨(.sl t1), v0, .sh⟩), (1, .dat ⟨.fn, v1, .sh⟩), (4, .dat ⟨(.int .i64), v4, .sh⟩), (5, .dat ⟨(.int .i64), v5, .sh⟩), (7, .dat ⟨(.int .i64), v7, .sh⟩), (8, .dat ⟨(.int .i64), v8, .sh⟩)])) (
  cond (decide (v8 < v7))
  (cond (Go.Rf.nonneg v8)
    (cond (Nat.blt (Int.toNat v8) (List.length v0))
      ((callVB EE R v1 [⟨t1, ((List.getD v0 (Int.toNat v8) ((0 : Int), (([] : List (UInt8)), ()))) : d10)⟩]).bind fun (r0 : Bool) =>
        cond r0
        (some (v8, ()))
        (lp_slices_IndexFunc___impl_Io_impl_Io__1 R L v0 v1 v4 v8 v7 (Go.IntKind.wrap .i64 (v8 + (1 : Int)))))
      (none))
    (none))
  (some ((-(1 : Int)), ()))) := by kernel_rfl
/-- slices.ContainsFunc[[]loop.example/g00548/impl.Io,loop.example/g00548/impl.Io] -/
theorem q_slices_ContainsFunc___impl_Io_impl_Io_ (R : Run EE) (L : Loops) (x0 : List (d10)) (x1 : FnVal) : @Eq (Option ((Bool × Unit))) (bodyK EE R L 64 [⟨(.sl t1), x0⟩, ⟨.fn, x1⟩]) (
  (c_slices_IndexFunc___impl_Io_impl_Io_ R x0 x1).bind fun r0 =>
  some ((decide ((0 : Int) ≤ r0.1)), ())) := by kernel_rfl
/-- loop.example/g00548/impl.areAll[loop.example/g00548/impl.Io] -/
theorem q_impl_areAll_impl_Io_ (R : Run EE) (L : Loops) (x0 : List (d10)) (x1 : FnVal) : @Eq (Option ((Bool × Unit))) (bodyK EE R L 56 [⟨(.sl t1), x0⟩, ⟨.fn, x1⟩]) (
  (c_slices_ContainsFunc___impl_Io_impl_Io_ R x0 (Go.Rf.FnVal.mk (65 : Nat) (Go.Rf.FCaps.fn x1 (Go.Rf.FCaps.nil)))).bind fun r0 =>
  some ((!r0.1), ())) := by kernel_rfl
/-- loop.example/g00548/impl.isSector -/
theorem q_impl_isSector (R : Run EE) (L : Loops) (x0 : Int) : @Eq (Option ((Bool × Unit))) (bodyK EE R L 58 [⟨(.int .i64), x0⟩]) (
  (c_impl_within R x0 (0 : Int) (39 : Int)).bind fun r0 =>
  some (r0.1, ())) := by kernel_rfl
/-- loop.example/g00548/impl.DeviceOK$1 -/
theorem q_impl_DeviceOK_1 (R : Run EE) (L : Loops) (x0 : d10) : @Eq (Option ((Bool × Unit))) (bodyK EE R L 57 [⟨t1, x0⟩]) (
  (c_impl_isSector R x0.1).bind fun r0 =>
  cond r0.1
  ((c_impl_isContent R x0.2.1).bind fun r1 =>
    some (r1.1, ()))
  (some (false, ()))) := by kernel_rfl
/-- loop.example/g00548/impl.DeviceOK -/
theorem q_impl_DeviceOK (R : Run EE) (L : Loops) (x0 : d11) : @Eq (Option ((Bool × Unit))) (bodyK EE R L 48 [⟨t2, x0⟩]) (
  cond (Go.Rf.eqI (((List.length x0.1) : Nat) : Int) (40 : Int))
  ((c_impl_areAll_string_ R x0.1 (Go.Rf.FnVal.mk (55 : Nat) (Go.Rf.FCaps.nil))).bind fun r0 =>
    cond r0.1
    (cond (decide ((((List.length x0.2.1) : Nat) : Int) ≤ (60 : Int)))
      ((c_impl_areAll_impl_Io_ R x0.2.1 (Go.Rf.FnVal.mk (57 : Nat) (Go.Rf.FCaps.nil))).bind fun r1 =>
        some (r1.1, ()))
      (some (false, ())))
    (some (false, ())))
  (some (false, ()))) := by kernel_rfl
/-- loop.example/g00548/impl.isSure -/
theorem q_impl_isSure (R : Run EE) (L : Loops) (x0 : d11) : @Eq (Option ((Bool × Unit))) (bodyK EE R L 34 [⟨t2, x0⟩]) (
  (c_impl_DeviceOK R x0).bind fun r0 =>
  cond r0.1
  (some ((Go.Rf.eqI (((List.length x0.2.1) : Nat) : Int) (0 : Int)), ()))
  (some (false, ()))) := by kernel_rfl
/-- loop.example/g00548/impl.StoreOK -/
theorem q_impl_StoreOK (R : Run EE) (L : Loops) (x0 : d12) : @Eq (Option ((Bool × Unit))) (bodyK EE R L 19 [⟨t3, x0⟩]) (
  cond (Go.Rf.eqI (((List.length x0.1) : Nat) : Int) (32 : Int))
  ((c_impl_RegisterOK R x0.2.1).bind fun r0 =>
    cond r0.1
    ((c_impl_isSure R x0.2.2.1).bind fun r1 =>
      cond r1.1
      (cond x0.2.2.2.1
        (some ((!x0.2.2.2.2.1), ()))
        (some ((!false), ())))
      (some (false, ())))
    (some (false, ())))
  (some (false, ()))) := by kernel_rfl
/-- (loop.example/g00548/impl.Store).stateWord -/
theorem q_impl_Store_stateWord (R : Run EE) (L : Loops) (x0 : d12) : @Eq (Option ((List UInt8 × Unit))) (bodyK EE R L 35 [⟨t3, x0⟩]) (
  cond x0.2.2.2.2.1
  (some (((100 : UInt8) :: ((101 : UInt8) :: ((97 : UInt8) :: ((100 : UInt8) :: ([] : List (UInt8)))))), ()))
  (cond x0.2.2.2.1
    (some (((117 : UInt8) :: ((112 : UInt8) :: ([] : List (UInt8)))), ()))
    (some (((100 : UInt8) :: ((111 : UInt8) :: ((119 : UInt8) :: ((110 : UInt8) :: ([] : List (UInt8)))))), ())))) := by kernel_rfl
/-- loop.example/g00548/impl.hexOf -/
theorem q_impl_hexOf (R : Run EE) (L : Loops) (x0 : List UInt8) : @Eq (Option ((List UInt8 × Unit))) (bodyK EE R L 39 [⟨.str, x0⟩]) (
  lp_impl_hexOf_0 R L x0 ([] : List (UInt8)) ([] : List (Int)) (List.map (fun (b : UInt8) => (((UInt8.toNat b) : Nat) : Int)) x0) (((List.length (List.map (fun (b : UInt8) => (((UInt8.toNat b) : Nat) : Int)) x0)) : Nat) : Int) (0 : Int)) := by kernel_rfl
theorem q_impl_hexOf_0 (R : Run EE) (L : Loops) (v0 : List UInt8) (v2 : List UInt8) (v3 : List (Int)) (v7 : List (Int)) (v8 : Int) (v9 : Int) : @Eq (Option ((List UInt8 × Unit))) (from_ EE R L 39 Go.Proofs.Tryd.f39 [1, 1, 0, 1, 0, 0] (mk 25 [(0, .dat ⟨.str, v0, .sh⟩), (2, .dat ⟨.str, v2, .sh⟩), (3, .dat ⟨(.sl (.int .u8)), v3, (.own .sh)⟩), (7, .dat ⟨(.sl (.int .u8)), v7, (.own .sh)⟩), (8, .dat ⟨(.int .i64), v8, .sh⟩), (9, .dat ⟨(.int .i64), v9, .sh⟩)])) (
  cond (decide (v9 < v8))
  (cond (Go.Rf.nonneg v9)
    (cond (Nat.blt (Int.toNat v9) (List.length v7))
      (cond (Go.Rf.nonneg (Int.fdiv (List.getD v7 (Int.toNat v9) (0 : Int)) ((2 : Int) ^ (Min.min (Int.toNat (4 : Int)) (Go.IntKind.bits .u8)))))
        (cond (Nat.blt (Int.toNat (Int.fdiv (List.getD v7 (Int.toNat v9) (0 : Int)) ((2 : Int) ^ (Min.min (Int.toNat (4 : Int)) (Go.IntKind.bits .u8))))) (List.length ((48 : UInt8) :: ((49 : UInt8) :: ((50 : UInt8) :: ((51 : UInt8) :: ((52 : UInt8) :: ((53 : UInt8) :: ((54 : UInt8) :: ((55 : UInt8) :: ((56 : UInt8) :: ((57 : UInt8) :: ((97 : UInt8) :: ((98 : UInt8) :: ((99 : UInt8) :: ((100 : UInt8) :: ((101 : UInt8) :: ((102 : UInt8) :: ([] : List (UInt8))))))))))))))))))))
          (cond (Nat.blt (Int.toNat (Go.Rf.bitI .and .u8 (List.getD v7 (Int.toNat v9) (0 : Int)) (15 : Int))) (List.length ((48 : UInt8) :: ((49 : UInt8) :: ((50 : UInt8) :: ((51 : UInt8) :: ((52 : UInt8) :: ((53 : UInt8) :: ((54 : UInt8) :: ((55 : UInt8) :: ((56 : UInt8) :: ((57 : UInt8) :: ((97 : UInt8) :: ((98 : UInt8) :: ((99 : UInt8) :: ((100 : UInt8) :: ((101 : UInt8) :: ((102 : UInt8) :: ([] : List (UInt8))))))))))))))))))))
            (cond (Go.Rf.lenOK ((List.length v3) + (List.length ((((UInt8.toNat (List.getD ((48 : UInt8) :: ((49 : UInt8) :: ((50 : UInt8) :: ((51 : UInt8) :: ((52 : UInt8) :: ((53 : UInt8) :: ((54 : UInt8) :: ((55 : UInt8) :: ((56 : UInt8) :: ((57 : UInt8) :: ((97 : UInt8) :: ((98 : UInt8) :: ((99 : UInt8) :: ((100 : UInt8) :: ((101 : UInt8) :: ((102 : UInt8) :: ([] : List (UInt8)))))))))))))))))) (Int.toNat (Int.fdiv (List.getD v7 (Int.toNat v9) (0 : Int)) ((2 : Int) ^ (Min.min (Int.toNat (4 : Int)) (Go.IntKind.bits .u8))))) (0 : UInt8))) : Nat) : Int) :: ((((UInt8.toNat (List.getD ((48 : UInt8) :: ((49 : UInt8) :: ((50 : UInt8) :: ((51 : UInt8) :: ((52 : UInt8) :: ((53 : UInt8) :: ((54 : UInt8) :: ((55 : UInt8) :: ((56 : UInt8) :: ((57 : UInt8) :: ((97 : UInt8) :: ((98 : UInt8) :: ((99 : UInt8) :: ((100 : UInt8) :: ((101 : UInt8) :: ((102 : UInt8) :: ([] : List (UInt8)))))))))))))))))) (Int.toNat (Go.Rf.bitI .and .u8 (List.getD v7 (Int.toNat v9) (0 : Int)) (15 : Int))) (0 : UInt8))) : Nat) : Int) :: ([] : List (Int)))))))
              (lp_impl_hexOf_1 R L v0 v2 (v3 ++ ((((UInt8.toNat (List.getD ((48 : UInt8) :: ((49 : UInt8) :: ((50 : UInt8) :: ((51 : UInt8) :: ((52 : UInt8) :: ((53 : UInt8) :: ((54 : UInt8) :: ((55 : UInt8) :: ((56 : UInt8) :: ((57 : UInt8) :: ((97 : UInt8) :: ((98 : UInt8) :: ((99 : UInt8) :: ((100 : UInt8) :: ((101 : UInt8) :: ((102 : UInt8) :: ([] : List (UInt8)))))))))))))))))) (Int.toNat (Int.fdiv (List.getD v7 (Int.toNat v9) (0 : Int)) ((2 : Int) ^ (Min.min (Int.toNat (4 : Int)) (Go.IntKind.bits .u8))))) (0 : UInt8))) : Nat) : Int) :: ((((UInt8.toNat (List.getD ((48 : UInt8) :: ((49 : UInt8) :: ((50 : UInt8) :: ((51 : UInt8) :: ((52 : UInt8) :: ((53 : UInt8) :: ((54 : UInt8) :: ((55 : UInt8) :: ((56 : UInt8) :: ((57 : UInt8) :: ((97 : UInt8) :: ((98 : UInt8) :: ((99 : UInt8) :: ((100 : UInt8) :: ((101 : UInt8) :: ((102 : UInt8) :: ([] : List (UInt8)))))))))))))))))) (Int.toNat (Go.Rf.bitI .and .u8 (List.getD v7 (Int.toNat v9) (0 : Int)) (15 : Int))) (0 : UInt8))) : Nat) : Int) :: ([] : List (Int))))) (List.getD v7 (Int.toNat v9) (0 : Int)) v7 v8 (Go.IntKind.wrap .i64 (v9 + (1 : Int))))
              (none))
            (none))
          (none))
        (none))
      (none))
    (none))
  (some ((List.map (fun (n : Int) => (UInt8.ofNat (Int.toNat n))) v3), ()))) := by kernel_rfl
theorem q_impl_hexOf_1 (R : Run EE) (L : Loops) (v0 : List UInt8) (v2 : List UInt8) (v3 : List (Int)) (v5 : Int) (v7 : List (Int)) (v8 : Int) (v9 : Int) : @Eq (Option ((List UInt8 × Unit))) (from_ EE R L 39 Go.Proofs.Tryd.f39 [1, 1, 0, 1, 0, 0] (mk 25 [(0, .dat ⟨.str, v0, .sh⟩), (2, .dat ⟨.str, v2, .sh⟩), (3, .dat ⟨(.sl (.int .u8)), v3, (.own .sh)⟩), (5, .dat ⟨(.int .u8), v5, .sh⟩), (7, .dat ⟨(.sl (.int .u8)), v7, (.own .sh)⟩), (8, .dat ⟨(.int .i64), v8, .sh⟩), (9, .dat ⟨(.int .i64), v9, .sh⟩)])) (
  cond (decide (v9 < v8))
  (cond (Go.Rf.nonneg v9)
    (cond (Nat.blt (Int.toNat v9) (List.length v7))
      (cond (Go.Rf.nonneg (Int.fdiv (List.getD v7 (Int.toNat v9) (0 : Int)) ((2 : Int) ^ (Min.min (Int.toNat (4 : Int)) (Go.IntKind.bits .u8)))))
        (cond (Nat.blt (Int.toNat (Int.fdiv (List.getD v7 (Int.toNat v9) (0 : Int)) ((2 : Int) ^ (Min.min (Int.toNat (4 : Int)) (Go.IntKind.bits .u8))))) (List.length ((48 : UInt8) :: ((49 : UInt8) :: ((50 : UInt8) :: ((51 : UInt8) :: ((52 : UInt8) :: ((53 : UInt8) :: ((54 : UInt8) :: ((55 : UInt8) :: ((56 : UInt8) :: ((57 : UInt8) :: ((97 : UInt8) :: ((98 : UInt8) :: ((99 : UInt8) :: ((100 : UInt8) :: ((101 : UInt8) :: ((102 : UInt8) :: ([] : List (UInt8))))))))))))))))))))
          (cond (Nat.blt (Int.toNat (Go.Rf.bitI .and .u8 (List.getD v7 (Int.toNat v9) (0 : Int)) (15 : Int))) (List.length ((48 : UInt8) :: ((49 : UInt8) :: ((50 : UInt8) :: ((51 : UInt8) :: ((52 : UInt8) :: ((53 : UInt8) :: ((54 : UInt8) :: ((55 : UInt8) :: ((56 : UInt8) :: ((57 : UInt8) :: ((97 : UInt8) :: ((98 : UInt8) :: ((99 : UInt8) :: ((100 : UInt8) :: ((101 : UInt8) :: ((102 : UInt8) :: ([] : List (UInt8))))))))))))))))))))
            (cond (Go.Rf.lenOK ((List.length v3) + (List.length ((((UInt8.toNat (List.getD ((48 : UInt8) :: ((49 : UInt8) :: ((50 : UInt8) :: ((51 : UInt8) :: ((52 : UInt8) :: ((53 : UInt8) :: ((54 : UInt8) :: ((55 : UInt8) :: ((56 : UInt8) :: ((57 : UInt8) :: ((97 : UInt8) :: ((98 : UInt8) :: ((99 : UInt8) :: ((100 : UInt8) :: ((101 : UInt8) :: ((102 : UInt8) :: ([] : List (UInt8)))))))))))))))))) (Int.toNat (Int.fdiv (List.getD v7 (Int.toNat v9) (0 : Int)) ((2 : Int) ^ (Min.min (Int.toNat (4 : Int)) (Go.IntKind.bits .u8))))) (0 : UInt8))) : Nat) : Int) :: ((((UInt8.toNat (List.getD ((48 : UInt8) :: ((49 : UInt8) :: ((50 : UInt8) :: ((51 : UInt8) :: ((52 : UInt8) :: ((53 : UInt8) :: ((54 : UInt8) :: ((55 : UInt8) :: ((56 : UInt8) :: ((57 : UInt8) :: ((97 : UInt8) :: ((98 : UInt8) :: ((99 : UInt8) :: ((100 : UInt8) :: ((101 : UInt8) :: ((102 : UInt8) :: ([] : List (UInt8)))))))))))))))))) (Int.toNat (Go.Rf.bitI .and .u8 (List.getD v7 (Int.toNat v9) (0 : Int)) (15 : Int))) (0 : UInt8))) : Nat) : Int) :: ([] : List (Int)))))))
              (lp_impl_hexOf_1 R L v0 v2 (v3 ++ ((((UInt8.toNat (List.getD ((48 : UInt8) :: ((49 : UInt8) :: ((50 : UInt8) :: ((51 : UInt8) :: ((52 : UInt8) :: ((53 : UInt8) :: ((54 : UInt8) :: ((55 : UInt8) :: ((56 : UInt8) :: ((57 : UInt8) :: ((97 : UInt8) :: ((98 : UInt8) :: ((99 : UInt8) :: ((100 : UInt8) :: ((101 : UInt8) :: ((102 : UInt8) :: ([] : List (UInt8)))))))))))))))))) (Int.toNat (Int.fdiv (List.getD v7 (Int.toNat v9) (0 : Int)) ((2 : Int) ^ (Min.min (Int.toNat (4 : Int)) (Go.IntKind.bits .u8))))) (0 : UInt8))) : Nat) : Int) :: ((((UInt8.toNat (List.getD ((48 : UInt8) :: ((49 : UInt8) :: ((50 : UInt8) :: ((51 : UInt8) :: ((52 : UInt8) :: ((53 : UInt8) :: ((54 : UInt8) :: ((55 : UInt8) :: ((56 : UInt8) :: ((57 : UInt8) :: ((97 : UInt8) :: ((98 : UInt8) :: ((99 : UInt8) :: ((100 : UInt8) :: ((101 : UInt8) :: ((102 : UInt8) :: ([] : List (UInt8)))))))))))))))))) (Int.toNat (Go.Rf.bitI .and .u8 (List.getD v7 (Int.toNat v9) (0 : Int)) (15 : Int))) (0 : UInt8))) : Nat) : Int) :: ([] : List (Int))))) (List.getD v7 (Int.toNat v9) (0 : Int)) v7 v8 (Go.IntKind.wrap .i64 (v9 + (1 : Int))))
              (none))
            (none))
          (none))
        (none))
      (none))
    (none))
  (some ((List.map (fun (n : Int) => (UInt8.ofNat (Int.toNat n))) v3), ()))) := by kernel_rfl
/-- (loop.example/g00548/impl.Store).lines -/
theorem q_impl_Store_lines (R : Run EE) (L : Loops) (x0 : d12) : @Eq (Option (d13)) (bodyK EE R L 20 [⟨t3, x0⟩]) (
  (c_impl_Store_stateWord R x0).bind fun r0 =>
  (c_strconv_Itoa R x0.2.1.1).bind fun r1 =>
  (c_strconv_Itoa R x0.2.1.2.1).bind fun r2 =>
  (c_impl_Register_waiting R x0.2.1).bind fun r3 =>
  (c_strconv_Itoa R r3.1).bind fun r4 =>
  (c_strings_Join R (r0.1 :: (((101 : UInt8) :: ((112 : UInt8) :: ((111 : UInt8) :: ((99 : UInt8) :: ((104 : UInt8) :: ([] : List (UInt8))))))) :: (r1.1 :: (((115 : UInt8) :: ((105 : UInt8) :: ((100 : UInt8) :: ((101 : UInt8) :: ([] : List (UInt8)))))) :: (r2.1 :: (((119 : UInt8) :: ((97 : UInt8) :: ((105 : UInt8) :: ((116 : UInt8) :: ((105 : UInt8) :: ((110 : UInt8) :: ((103 : UInt8) :: ([] : List (UInt8))))))))) :: (r4.1 :: ([] : List (List (UInt8)))))))))) ((32 : UInt8) :: ([] : List (UInt8)))).bind fun r5 =>
  cond (Nat.ble (Int.toNat (4 : Int)) (List.length x0.2.1.2.2.2.2.2.2.1))
  ((c_impl_hexOf R (List.drop (0 : Nat) (List.take (Int.toNat (4 : Int)) x0.2.1.2.2.2.2.2.2.1))).bind fun r6 =>
    cond (Go.Rf.lenOK ((List.length ((114 : UInt8) :: ((111 : UInt8) :: ((111 : UInt8) :: ((116 : UInt8) :: ((32 : UInt8) :: ([] : List (UInt8)))))))) + (List.length r6.1)))
    (cond (Nat.ble (Int.toNat (4 : Int)) (List.length x0.2.1.2.2.2.2.2.1))
      ((c_impl_hexOf R (List.drop (0 : Nat) (List.take (Int.toNat (4 : Int)) x0.2.1.2.2.2.2.2.1))).bind fun r7 =>
        cond (Go.Rf.lenOK ((List.length ((116 : UInt8) :: ((105 : UInt8) :: ((112 : UInt8) :: ((32 : UInt8) :: ([] : List (UInt8))))))) + (List.length r7.1)))
        (some ((r5.1 :: ((((114 : UInt8) :: ((111 : UInt8) :: ((111 : UInt8) :: ((116 : UInt8) :: ((32 : UInt8) :: ([] : List (UInt8))))))) ++ r6.1) :: ((((116 : UInt8) :: ((105 : UInt8) :: ((112 : UInt8) :: ((32 : UInt8) :: ([] : List (UInt8)))))) ++ r7.1) :: ([] : List (List (UInt8)))))), ()))
        (none))
      (none))
    (none))
  (none)) := by kernel_rfl
/-- loop.example/g00548/impl.StoreLines -/
theorem q_impl_StoreLines (R : Run EE) (L : Loops) (x0 : d12) : @Eq (Option (d14)) (bodyK EE R L 7 [⟨t3, x0⟩]) (
  (c_impl_StoreOK R x0).bind fun r0 =>
  cond (!r0.1)
  (some (([] : List (List (UInt8))), ((1 : Int), ())))
  ((c_impl_Store_lines R x0).bind fun r1 =>
    some (r1.1, ((0 : Int), ())))) := by kernel_rfl
/-- loop.example/g00548/laws.eqStringS -/
theorem q_laws_eqStringS (R : Run EE) (L : Loops) (x0 : List (List UInt8)) (x1 : List (List UInt8)) : @Eq (Option ((Bool × Unit))) (bodyK EE R L 8 [⟨(.sl .str), x0⟩, ⟨(.sl .str), x1⟩]) (
  cond (!(Go.Rf.eqI (((List.length x0) : Nat) : Int) (((List.length x1) : Nat) : Int)))
  (some (false, ()))
  (lp_laws_eqStringS_0 R L x0 x1 false (0 : Int))) := by kernel_rfl
theorem q_laws_eqStringS_0 (R : Run EE) (L : Loops) (v0 : List (List UInt8)) (v1 : List (List UInt8)) (v4 : Bool) (v5 : Int) : @Eq (Option ((Bool × Unit))) (from_ EE R L 8 Go.Proofs.Tryd.f8 [1, 1, 0, 1, 0, 0] (mk 26 [(0, .dat ⟨(.sl .str), v0, .sh⟩), (1, .dat ⟨(.sl .str), v1, .sh⟩), (4, .dat ⟨.bool, v4, .sh⟩), (5, .dat ⟨(.int .i64), v5, .sh⟩)])) (
  cond (decide (v5 < (((List.length v0) : Nat) : Int)))
  (cond (Go.Rf.nonneg v5)
    (cond (Nat.blt (Int.toNat v5) (List.length v0))
      (cond (Go.Rf.nonneg v5)
        (cond (Nat.blt (Int.toNat v5) (List.length v1))
          (cond (!(Go.Rf.eqS (List.getD v0 (Int.toNat v5) ([] : List (UInt8))) (List.getD v1 (Int.toNat v5) ([] : List (UInt8)))))
            (some (false, ()))
            (lp_laws_eqStringS_0 R L v0 v1 v4 (Go.IntKind.wrap .i64 (v5 + (1 : Int)))))
          (none))
        (none))
      (none))
    (none))
  (some (true, ()))) := by kernel_rfl
/-- loop.example/g00548/laws.eqRegister -/
theorem q_laws_eqRegister (R : Run EE) (L : Loops) (x0 : d9) (x1 : d9) : @Eq (Option ((Bool × Unit))) (bodyK EE R L 21 [⟨t0, x0⟩, ⟨t0, x1⟩]) (
  cond (!(Go.Rf.eqI x0.1 x1.1))
  (some (false, ()))
  (cond (!(Go.Rf.eqI x0.2.1 x1.2.1))
    (some (false, ()))
    (cond (!(Go.Rf.eqI x0.2.2.1 x1.2.2.1))
      (some (false, ()))
      (cond (!(Go.Rf.eqI x0.2.2.2.1 x1.2.2.2.1))
        (some (false, ()))
        (cond (!(Go.Rf.eqS x0.2.2.2.2.1 x1.2.2.2.2.1))
          (some (false, ()))
          (cond (!(Go.Rf.eqS x0.2.2.2.2.2.1 x1.2.2.2.2.2.1))
            (some (false, ()))
            (cond (!(Go.Rf.eqS x0.2.2.2.2.2.2.1 x1.2.2.2.2.2.2.1))
              (some (false, ()))
              (some (true, ()))))))))) := by kernel_rfl
/-- loop.example/g00548/laws.eqIo -/
theorem q_laws_eqIo (R : Run EE) (L : Loops) (x0 : d10) (x1 : d10) : @Eq (Option ((Bool × Unit))) (bodyK EE R L 53 [⟨t1, x0⟩, ⟨t1, x1⟩]) (
  cond (!(Go.Rf.eqI x0.1 x1.1))
  (some (false, ()))
  (cond (!(Go.Rf.eqS x0.2.1 x1.2.1))
    (some (false, ()))
    (some (true, ())))) := by kernel_rfl
/-- loop.example/g00548/laws.eqIoS -/
theorem q_laws_eqIoS (R : Run EE) (L : Loops) (x0 : List (d10)) (x1 : List (d10)) : @Eq (Option ((Bool × Unit))) (bodyK EE R L 40 [⟨(.sl t1), x0⟩, ⟨(.sl t1), x1⟩]) (
  cond (!(Go.Rf.eqI (((List.length x0) : Nat) : Int) (((List.length x1) : Nat) : Int)))
  (some (false, ()))
  (lp_laws_eqIoS_0 R L x0 x1 false (0 : Int))) := by kernel_rfl
theorem q_laws_eqIoS_0 (R : Run EE) (L : Loops) (v0 : List (d10)) (v1 : List (d10)) (v4 : Bool) (v5 : Int) : @Eq (Option ((Bool × Unit))) (from_ EE R L 40 Go.Proofs.Tryd.f40 [1, 1, 0, 1, 0, 0] (mk 27 [(0, .dat ⟨(.sl t1), v0, .sh⟩), (1, .dat ⟨(.sl t1), v1, .sh⟩), (4, .dat ⟨.bool, v4, .sh⟩), (5, .dat ⟨(.int .i64), v5, .sh⟩)])) (
  cond (decide (v5 < (((List.length v0) : Nat) : Int)))
  (cond (Go.Rf.nonneg v5)
    (cond (Nat.blt (Int.toNat v5) (List.length v0))
      (cond (Go.Rf.nonneg v5)
        (cond (Nat.blt (Int.toNat v5) (List.length v1))
          ((c_laws_eqIo R (List.getD v0 (Int.toNat v5) ((0 : Int), (([] : List (UInt8)), ()))) (List.getD v1 (Int.toNat v5) ((0 : Int), (([] : List (UInt8)), ())))).bind fun r0 =>
            cond (!r0.1)
            (some (false, ()))
            (lp_laws_eqIoS_0 R L v0 v1 v4 (Go.IntKind.wrap .i64 (v5 + (1 : Int)))))
          (none))
        (none))
      (none))
    (none))
  (some (true, ()))) := by kernel_rfl
/-- loop.example/g00548/laws.eqDevice -/
theorem q_laws_eqDevice (R : Run EE) (L : Loops) (x0 : d11) (x1 : d11) : @Eq (Option ((Bool × Unit))) (bodyK EE R L 22 [⟨t2, x0⟩, ⟨t2, x1⟩]) (
  (c_laws_eqStringS R x0.1 x1.1).bind fun r0 =>
  cond (!r0.1)
  (some (false, ()))
  ((c_laws_eqIoS R x0.2.1 x1.2.1).bind fun r1 =>
    cond (!r1.1)
    (some (false, ()))
    (some (true, ())))) := by kernel_rfl
/-- loop.example/g00548/laws.eqStore -/
theorem q_laws_eqStore (R : Run EE) (L : Loops) (x0 : d12) (x1 : d12) : @Eq (Option ((Bool × Unit))) (bodyK EE R L 9 [⟨t3, x0⟩, ⟨t3, x1⟩]) (
  cond (!(Go.Rf.eqS x0.1 x1.1))
  (some (false, ()))
  ((c_laws_eqRegister R x0.2.1 x1.2.1).bind fun r0 =>
    cond (!r0.1)
    (some (false, ()))
    ((c_laws_eqDevice R x0.2.2.1 x1.2.2.1).bind fun r1 =>
      cond (!r1.1)
      (some (false, ()))
      (cond (!(Go.Rf.eqB x0.2.2.2.1 x1.2.2.2.1))
        (some (false, ()))
        (cond (!(Go.Rf.eqB x0.2.2.2.2.1 x1.2.2.2.2.1))
          (some (false, ()))
          (some (true, ()))))))) := by kernel_rfl
/-- loop.example/g00548/laws.markText -/
theorem q_laws_markText (R : Run EE) (L : Loops) (x0 : Int) : @Eq (Option ((List UInt8 × Unit))) (bodyK EE R L 24 [⟨(.int .i64), x0⟩]) (
  cond (decide (x0 ≤ (0 : Int)))
  (some (((109 : UInt8) :: ((48 : UInt8) :: ([] : List (UInt8)))), ()))
  (lp_laws_markText_0 R L x0 ([] : List (UInt8)) ([] : List (UInt8)))) := by kernel_rfl
theorem q_laws_markText_0 (R : Run EE) (L : Loops) (v0 : Int) (v2 : List UInt8) (v3 : List UInt8) : @Eq (Option ((List UInt8 × Unit))) (from_ EE R L 24 Go.Proofs.Tryd.f24 [1, 1, 1, 0, 0, 0] (mk 20 [(0, .dat ⟨(.int .i64), v0, .sh⟩), (2, .dat ⟨.str, v2, .sh⟩), (3, .dat ⟨.str, v3, .sh⟩)])) (
  cond (decide ((0 : Int) < v0))
  (cond (Go.Rf.lenOK ((List.length (List.map (fun (n : Int) => (UInt8.ofNat (Int.toNat n))) ((Go.IntKind.wrap .u8 (Go.IntKind.wrap .i64 ((48 : Int) + (Int.tmod v0 (10 : Int))))) :: ([] : List (Int))))) + (List.length v3)))
    (lp_laws_markText_0 R L (Go.IntKind.wrap .i64 (Int.tdiv v0 (10 : Int))) v2 ((List.map (fun (n : Int) => (UInt8.ofNat (Int.toNat n))) ((Go.IntKind.wrap .u8 (Go.IntKind.wrap .i64 ((48 : Int) + (Int.tmod v0 (10 : Int))))) :: ([] : List (Int)))) ++ v3))
    (none))
  (cond (Go.Rf.lenOK ((List.length ((109 : UInt8) :: ([] : List (UInt8)))) + (List.length v3)))
    (some ((((109 : UInt8) :: ([] : List (UInt8))) ++ v3), ()))
    (none))) := by kernel_rfl
/-- loop.example/g00548/laws.markStringS -/
theorem q_laws_markStringS (R : Run EE) (L : Loops) (x0 : List (List UInt8)) (x1 : Int) : @Eq (Option (d15)) (bodyK EE R L 11 [⟨(.sl .str), x0⟩, ⟨(.int .i64), x1⟩]) (
  lp_laws_markStringS_0 R L x0 x1 (0 : Int) (0 : Int)) := by kernel_rfl
theorem q_laws_markStringS_0 (R : Run EE) (L : Loops) (v0 : List (List UInt8)) (v1 : Int) (v4 : Int) (v5 : Int) : @Eq (Option (d15)) (from_ EE R L 11 Go.Proofs.Tryd.f11 [1, 0, 1, 0, 0] (mk 20 [(0, .dat ⟨(.sl .str), v0, (.pin 0 (.own .sh))⟩), (1, .dat ⟨(.int .i64), v1, .sh⟩), (4, .dat ⟨(.int .i64), v4, .sh⟩), (5, .dat ⟨(.int .i64), v5, .sh⟩)])) (
  cond (decide (v5 < (((List.length v0) : Nat) : Int)))
  ((c_laws_markText R v1).bind fun r0 =>
    cond (Go.Rf.nonneg v5)
    (cond (Nat.blt (Int.toNat v5) (List.length v0))
      (lp_laws_markStringS_0 R L (List.set v0 (Int.toNat v5) r0.1) (Go.IntKind.wrap .i64 (v1 + (1 : Int))) v4 (Go.IntKind.wrap .i64 (v5 + (1 : Int))))
      (none))
    (none))
  (some (v1, (v0, ())))) := by kernel_rfl
/-- loop.example/g00548/laws.markIoS -/
theorem q_laws_markIoS (R : Run EE) (L : Loops) (x0 : List (d10)) (x1 : Int) : @Eq (Option (d16)) (bodyK EE R L 41 [⟨(.sl t1), x0⟩, ⟨(.int .i64), x1⟩]) (
  lp_laws_markIoS_0 R L x0 x1 (0 : Int) (0 : Int)) := by kernel_rfl
theorem q_laws_markIoS_0 (R : Run EE) (L : Loops) (v0 : List (d10)) (v1 : Int) (v4 : Int) (v5 : Int) : @Eq (Option (d16)) (from_ EE R L 41 Go.Proofs.Tryd.f41 [1, 0, 1, 0, 0] (mk 28 [(0, .dat ⟨(.sl t1), v0, (.pin 0 (.own .sh))⟩), (1, .dat ⟨(.int .i64), v1, .sh⟩), (4, .dat ⟨(.int .i64), v4, .sh⟩), (5, .dat ⟨(.int .i64), v5, .sh⟩)])) (
  cond (decide (v5 < (((List.length v0) : Nat) : Int)))
  (cond (Go.Rf.nonneg v5)
    (cond (Nat.blt (Int.toNat v5) (List.length v0))
      ((c_laws_markText R (Go.IntKind.wrap .i64 (v1 + (1 : Int)))).bind fun r0 =>
        cond (Go.Rf.nonneg v5)
        (cond (Nat.blt (Int.toNat v5) (List.length (List.set v0 (Int.toNat v5) (v1, (List.getD v0 (Int.toNat v5) ((0 : Int), (([] : List (UInt8)), ()))).2))))
          (lp_laws_markIoS_0 R L (List.set (List.set v0 (Int.toNat v5) (v1, (List.getD v0 (Int.toNat v5) ((0 : Int), (([] : List (UInt8)), ()))).2)) (Int.toNat v5) ((List.getD (List.set v0 (Int.toNat v5) (v1, (List.getD v0 (Int.toNat v5) ((0 : Int), (([] : List (UInt8)), ()))).2)) (Int.toNat v5) ((0 : Int), (([] : List (UInt8)), ()))).1, (r0.1, (List.getD (List.set v0 (Int.toNat v5) (v1, (List.getD v0 (Int.toNat v5) ((0 : Int), (([] : List (UInt8)), ()))).2)) (Int.toNat v5) ((0 : Int), (([] : List (UInt8)), ()))).2.2))) (Go.IntKind.wrap .i64 ((Go.IntKind.wrap .i64 (v1 + (1 : Int))) + (1 : Int))) v4 (Go.IntKind.wrap .i64 (v5 + (1 : Int))))
          (none))
        (none))
      (none))
    (none))
  (some (v1, (v0, ())))) := by kernel_rfl
/-- loop.example/g00548/laws.markDevice -/
theorem q_laws_markDevice (R : Run EE) (L : Loops) (x0 : d11) (x1 : Int) : @Eq (Option ((Int × (d11 × Unit)))) (bodyK EE R L 23 [⟨t2, x0⟩, ⟨(.int .i64), x1⟩]) (
  (c_laws_markStringS R x0.1 x1).bind fun r0 =>
  (c_laws_markIoS R x0.2.1 r0.1).bind fun r1 =>
  some (r1.1, ((r0.2.1, (r1.2.1, x0.2.2)), ()))) := by kernel_rfl
/-- loop.example/g00548/laws.markStore -/
theorem q_laws_markStore (R : Run EE) (L : Loops) (x0 : d12) (x1 : Int) : @Eq (Option ((Int × (d12 × Unit)))) (bodyK EE R L 10 [⟨t3, x0⟩, ⟨(.int .i64), x1⟩]) (
  (c_laws_markDevice R x0.2.2.1 x1).bind fun r0 =>
  some (r0.1, ((x0.1, (x0.2.1, (r0.2.1, x0.2.2.2))), ()))) := by kernel_rfl
/-- loop.example/g00548/laws.heldStringS -/
theorem q_laws_heldStringS (R : Run EE) (L : Loops) (x0 : List (List UInt8)) (x1 : Int) : @Eq (Option ((Int × Unit))) (bodyK EE R L 12 [⟨(.sl .str), x0⟩, ⟨(.int .i64), x1⟩]) (
  lp_laws_heldStringS_0 R L x0 x1 (0 : Int) (0 : Int)) := by kernel_rfl
theorem q_laws_heldStringS_0 (R : Run EE) (L : Loops) (v0 : List (List UInt8)) (v1 : Int) (v4 : Int) (v5 : Int) : @Eq (Option ((Int × Unit))) (from_ EE R L 12 Go.Proofs.Tryd.f12 [1, 0, 1, 0, 0] (mk 22 [(0, .dat ⟨(.sl .str), v0, .sh⟩), (1, .dat ⟨(.int .i64), v1, .sh⟩), (4, .dat ⟨(.int .i64), v4, .sh⟩), (5, .dat ⟨(.int .i64), v5, .sh⟩)])) (
  cond (decide (v5 < (((List.length v0) : Nat) : Int)))
  (cond (Go.Rf.nonneg v5)
    (cond (Nat.blt (Int.toNat v5) (List.length v0))
      ((c_laws_markText R v1).bind fun r0 =>
        cond (!(Go.Rf.eqS (List.getD v0 (Int.toNat v5) ([] : List (UInt8))) r0.1))
        (some ((-(1 : Int)), ()))
        (lp_laws_heldStringS_0 R L v0 (Go.IntKind.wrap .i64 (v1 + (1 : Int))) v4 (Go.IntKind.wrap .i64 (v5 + (1 : Int)))))
      (none))
    (none))
  (some (v1, ()))) := by kernel_rfl
/-- loop.example/g00548/laws.FnExactStoreLines -/
theorem q_laws_FnExactStoreLines (R : Run EE) (L : Loops) (x0 : d12) : @Eq (Option ((Bool × Unit))) (bodyK EE R L 3 [⟨t3, x0⟩]) (
  (c_laws_szStore R x0 (1048576 : Int)).bind fun r0 =>
  cond (decide (r0.1 < (0 : Int)))
  (some (true, ()))
  ((c_laws_toStore R x0).bind fun r1 =>
    (c_spec_StoreLines R r1.1).bind fun r2 =>
    (c_laws_toStore R x0).bind fun r3 =>
    (c_impl_StoreLines R r3.1).bind fun r4 =>
    (c_laws_eqStringS R r4.1 r2.1).bind fun r5 =>
    cond (!r5.1)
    (some (false, ()))
    (cond (!(Go.Rf.eqI r4.2.1 r2.2.1))
      (some (false, ()))
      ((c_laws_toStore R x0).bind fun r6 =>
        (c_laws_eqStore R r3.1 r6.1).bind fun r7 =>
        cond (!r7.1)
        (some (false, ()))
        ((c_laws_markStore R r3.1 (1 : Int)).bind fun r8 =>
          cond (decide (r8.1 < (0 : Int)))
          (some (false, ()))
          ((c_laws_eqStringS R r4.1 r2.1).bind fun r9 =>
            cond (!r9.1)
            (some (false, ()))
            (cond (!(Go.Rf.eqI r4.2.1 r2.2.1))
              (some (false, ()))
              ((c_laws_markStringS R r4.1 (1 : Int)).bind fun r10 =>
                (c_laws_heldStringS R r10.2.1 (1 : Int)).bind fun r11 =>
                cond (decide (r11.1 < (0 : Int)))
                (some (false, ()))
                (cond (!(Go.Rf.eqI r11.1 r10.1))
                  (some (false, ()))
                  ((c_laws_toStore R x0).bind fun r12 =>
                    (c_impl_StoreLines R r12.1).bind fun r13 =>
                    (c_laws_eqStringS R r13.1 r2.1).bind fun r14 =>
                    cond (!r14.1)
                    (some (false, ()))
                    (cond (!(Go.Rf.eqI r13.2.1 r2.2.1))
                      (some (false, ()))
                      ((c_laws_heldStringS R r10.2.1 (1 : Int)).bind fun r15 =>
                        cond (decide (r15.1 < (0 : Int)))
                        (some (false, ()))
                        (cond (!(Go.Rf.eqI r15.1 r10.1))
                          (some (false, ()))
                          (some (true, ()))))))))))))))) := by kernel_rfl

end Go.Rf.S
