/- What the program computes, in plain words: part 5. No condition. -/
import Derived.Test.YtcikhcfofnlegaaGreatProg
import Derived.KernelRfl
import Derived.Test.YtcikhcfofnlegaaGreatRhC
import Derived.Test.YtcikhcfofnlegaaGreatHol1
open Go.IntKind renaming wrap->Aa,bits->Ac
open Nat renaming blt->Ab,ble->Al,min_eq_left->Aq,lt_of_lt_of_le->Ar
open List renaming replicate->Ad,drop->Ag,take->Ah,map->An
open Min renaming min->Ae
open Int renaming tmod->Af,fdiv->Aj,tdiv->Ak,toNat->Ao
open UInt8 renaming toNat->Ai,ofNat->Am
open Go.Proofs.Tryz renaming f349->Ap,f217->As,f310->At,f322->Au,f304->Av,f248->Aw,f350->Ax,f191->Ay,f283->Az,f233->A0,f315->A5,f229->A6,f153->A7,f259->A8,f152->A9,f374->AA,f377->AB,f375->AC,f308->AD,f363->AE,f316->AF,f352->AG,f356->AH,f355->AI,f379->AJ,f358->AK,f359->AL,f360->AM,f170->AN,f297->AO,f338->AP
open _root_ renaming decide_eq_true->A1,decide_eq_false->A3,cond_true->A4
open Option renaming bind_some->A2
open Bool renaming and->AQ
set_option linter.unusedVariables false
set_option linter.unusedSimpArgs false
section
open Go Go.Rf
set_option maxRecDepth 100000
namespace Go.Rf.S
def mvD (l:List (Nat × Nat)) (d:List (Nat × List Nat)):List (Nat × Nat):=l++d.flatMap fun x=>x.2.map fun s=>(4000000+x.1,s)
abbrev t0:Ty:=(.pair .bool .unit)
abbrev t1:Ty:=(.sl (.int .i64))
abbrev t2:Ty:=(.pair (.int .i64) .unit)
abbrev t3:Ty:=(.pair t1 .unit)
abbrev t4:Ty:=(.pair (.int .i64) (.pair (.int .i64) (.pair (.int .i64) .unit)))
abbrev t5:Ty:=(.ptr (.int .i64))
abbrev t6:Ty:=(.pair (.sl t4) .unit)
abbrev t7:Ty:=(.sl (.sl t4))
abbrev t8:Ty:=(.pair t1 (.pair (.sl t4) (.pair t7 .unit)))
abbrev t9:Ty:=(.pair t1 (.pair (.int .i64) (.pair .bool .unit)))
abbrev t10:Ty:=(.pair .bool (.pair (.ptr t9) .unit))
abbrev t11:Ty:=(.pair t1 (.pair t8 .unit))
abbrev t12:Ty:=(.pair (.int .i64) (.pair t1 .unit))
abbrev t13:Ty:=(.pair t11 (.pair (.sl t12) (.pair .bool .unit)))
abbrev t14:Ty:=(.pair (.sl t4) (.pair .bool .unit))
abbrev t15:Ty:=(.pair (.int .i64) (.pair (.int .i64) (.pair (.int .i64) (.pair (.int .i64) (.pair .str (.pair .str (.pair .str .unit)))))))
abbrev t16:Ty:=(.pair (.int .i64) (.pair .str .unit))
abbrev t17:Ty:=(.pair (.sl .str) (.pair (.sl t16) .unit))
abbrev t18:Ty:=(.pair .str (.pair t15 (.pair t17 (.pair .bool (.pair .bool .unit)))))
abbrev t19:Ty:=(.pair (.ptr t9) .unit)
abbrev t20:Ty:=(.pair (.int .i64) (.pair (.ptr t9) .unit))
abbrev t21:Ty:=(.pair t1 (.pair (.ptr t9) .unit))
abbrev t22:Ty:=(.pair (.sl t4) (.pair (.ptr t9) .unit))
abbrev t23:Ty:=(.pair (.int .i64) (.pair (.int .i64) .unit))
abbrev t24:Ty:=(.sl (.sl t6))
abbrev t25:Ty:=(.pair t18 (.pair t17 (.pair (.sl t23) (.pair t24 (.pair (.sl t12) (.pair .bool .unit))))))
abbrev t26:Ty:=(.pair .bool (.pair (.int .i64) .unit))
abbrev t27:Ty:=(.pair t1 (.pair (.int .i64) .unit))
abbrev t28:Ty:=(.pair (.ptr t27) .unit)
abbrev t29:Ty:=(.pair (.int .i64) (.pair (.ptr t27) .unit))
abbrev t30:Ty:=(.pair .bool (.pair (.ptr t27) .unit))
abbrev t31:Ty:=(.pair (.sl t23) .unit)
abbrev t32:Ty:=(.sl (.int .u8))
abbrev t33:Ty:=(.pair t32 .unit)
abbrev t34:Ty:=(.arr 8 (.int .i64))
abbrev t35:Ty:=(.pair t34 .unit)
abbrev t36:Ty:=(.pair t34 (.pair .str (.pair (.int .i64) .unit)))
abbrev t37:Ty:=(.pair t36 .unit)
abbrev t38:Ty:=(.arr 64 (.int .i64))
abbrev t39:Ty:=(.pair t38 .unit)
abbrev t40:Ty:=(.pair .str .unit)
abbrev t41:Ty:=(.arr 64 (.int .u32))
abbrev t42:Ty:=(.pair t41 .unit)
abbrev t43:Ty:=(.pair (.int .u32) .unit)
abbrev t44:Ty:=(.pair (.ptr t36) .unit)
abbrev t45:Ty:=(.pair (.int .u32) (.pair (.int .u32) (.pair (.int .u32) (.pair (.int .u32) .unit))))
abbrev t46:Ty:=(.arr 4 (.int .i64))
abbrev t47:Ty:=(.pair t46 .unit)
abbrev t48:Ty:=(.arr 16 (.int .i64))
abbrev t49:Ty:=(.pair t48 .unit)
abbrev t50:Ty:=(.pair t15 .unit)
abbrev t51:Ty:=(.pair (.sl .str) .unit)
abbrev t52:Ty:=(.pair t16 .unit)
abbrev t53:Ty:=(.pair (.sl t16) .unit)
abbrev t54:Ty:=(.pair t17 .unit)
abbrev t55:Ty:=(.pair t18 .unit)
abbrev t56:Ty:=(.pair t4 .unit)
abbrev t57:Ty:=(.pair t6 .unit)
abbrev t58:Ty:=(.pair (.sl t6) .unit)
abbrev t59:Ty:=(.arr 5 (.int .i64))
abbrev t60:Ty:=(.pair t59 .unit)
abbrev t61:Ty:=(.arr 5 (.int .u64))
abbrev t62:Ty:=(.pair t61 .unit)
abbrev t63:Ty:=(.pair t8 .unit)
abbrev t64:Ty:=(.sl (.sl .str))
abbrev t65:Ty:=(.pair t64 .unit)
abbrev t66:Ty:=(.pair t23 .unit)
abbrev t67:Ty:=(.pair t24 .unit)
abbrev t68:Ty:=(.pair t12 .unit)
abbrev t69:Ty:=(.pair (.sl t12) .unit)
abbrev t70:Ty:=(.pair t25 .unit)
abbrev t71:Ty:=(.pair .str (.pair .bool .unit))
abbrev t72:Ty:=(.pair t1 (.pair .bool .unit))
abbrev t73:Ty:=(.pair (.int .i64) (.pair .bool .unit))
abbrev d74:Type:=(Bool × Unit)
abbrev d75:Type:=(Int × Unit)
abbrev d76:Type:=(List Int × Unit)
abbrev d77:Type:=(Int × (Int × (Int × Unit)))
abbrev d78:Type:=(List d77 × Unit)
abbrev d79:Type:=(List Int × (List d77 × (List (List d77) × Unit)))
abbrev d80:Type:=(List Int × (Int × (Bool × Unit)))
abbrev d81:Type:=(Bool × (d80 × Unit))
abbrev d82:Type:=(List Int × (d79 × Unit))
abbrev d83:Type:=(Int × (List Int × Unit))
abbrev d84:Type:=(d82 × (List d83 × (Bool × Unit)))
abbrev d85:Type:=(List d77 × (Bool × Unit))
abbrev d86:Type:=(Int × (Int × (Int × (Int × (List UInt8 × (List UInt8 × (List UInt8 × Unit)))))))
abbrev d87:Type:=(Int × (List UInt8 × Unit))
abbrev d88:Type:=(List (List UInt8) × (List d87 × Unit))
abbrev d89:Type:=(List UInt8 × (d86 × (d88 × (Bool × (Bool × Unit)))))
abbrev d90:Type:=(d80 × Unit)
abbrev d91:Type:=(Int × (d80 × Unit))
abbrev d92:Type:=(List Int × (d80 × Unit))
abbrev d93:Type:=(List d77 × (d80 × Unit))
abbrev d94:Type:=(Int × (Int × Unit))
abbrev d95:Type:=(d89 × (d88 × (List d94 × (List (List d78) × (List d83 × (Bool × Unit))))))
abbrev d96:Type:=(Bool × (Int × Unit))
abbrev d97:Type:=(List Int × (Int × Unit))
abbrev d98:Type:=(d97 × Unit)
abbrev d99:Type:=(Int × (d97 × Unit))
abbrev B4T:Type:=(Bool × (d97 × Unit))
abbrev Bj0:Type:=(List d94 × Unit)
abbrev AT4:Type:=(List Int × (List UInt8 × (Int × Unit)))
abbrev BO0:Type:=(AT4 × Unit)
abbrev jH:Type:=(List UInt8 × Unit)
abbrev B4Q:Type:=(Int × (Int × (Int × (Int × Unit))))
abbrev B4d:Type:=(d86 × Unit)
abbrev B0Q:Type:=(List (List UInt8) × Unit)
abbrev B40:Type:=(d87 × Unit)
abbrev B4N:Type:=(List d87 × Unit)
abbrev B4h:Type:=(d88 × Unit)
abbrev B4j:Type:=(d89 × Unit)
abbrev B4x:Type:=(d77 × Unit)
abbrev B4Z:Type:=(d78 × Unit)
abbrev B4O:Type:=(List d78 × Unit)
abbrev B4v:Type:=(d79 × Unit)
abbrev B3H:Type:=(List (List (List UInt8)) × Unit)
abbrev B43:Type:=(d94 × Unit)
abbrev B4X:Type:=(List (List d78) × Unit)
abbrev B4i:Type:=(d83 × Unit)
abbrev B4F:Type:=(List d83 × Unit)
abbrev B44:Type:=(d95 × Unit)
abbrev B3L:Type:=(List UInt8 × (Bool × Unit))
abbrev B4L:Type:=(List Int × (Bool × Unit))
abbrev B3q:Type:=(Int × (Bool × Unit))
abbrev B4k:Ty:=(.arr 12 .bool)
abbrev B3v:Ty:=(.arr 8 (.int .u32))
abbrev t127:Ty:=(.arr 2 (.int .i64))
abbrev B4s:Ty:=(.arr 2 t127)
abbrev Bi3:Ty:=(.arr 16 (.int .u32))
noncomputable def B3M:List (Nat × FCfg):=[
(149,⟨[.ro (.int .i64),.ro (.int .i64),.ro (.int .i64)],1,t0,.sh,[0,1,2,6],[(1,8)]⟩),
(228,⟨[.ro (.int .i64)],1,t0,.sh,[0,2],[(1,2)]⟩),
(268,⟨[.ro (.int .i64),.ro (.ptr .fn)],1,t0,.sh,[0,1,3],[(1,4)]⟩),
(315,⟨[.ro t1,.ro .fn],1,t2,.sh,[0,1,4,5,7,8,9,16],[(7,0),(5,1)]⟩),
(267,⟨[.ro t1,.ro .fn],1,t0,.sh,[0,1,4],[(1,4)]⟩),
(204,⟨[.ro t1,.ro .fn],1,t0,.sh,[0,1,3,4],[(1,4)]⟩),
(205,⟨[.ro (.int .i64)],1,t0,.sh,[0,2],[(1,2)]⟩),
(366,⟨[.io t1 (.own .sh) (.own .sh) 0 []],0,t3,(.pr (.own .sh) .sh),[],[]⟩),
(336,⟨[.ro (.int .i64)],1,t3,(.pr (.own .sh) .sh),[0,2,3,4,15],mvD [(7,1),(4,4)] [(30,[0,2,15])]⟩),
(365,⟨[.ro t1,.ro (.int .i64)],1,t2,.sh,[0,1,4,5,7,8,9,16],mvD [(7,0),(5,1)] [(25,[4,5,9,16])]⟩),
(335,⟨[.ro t1,.ro (.int .i64)],1,t0,.sh,[0,1,4],[(1,4)]⟩),
(293,⟨[.ro (.int .i64),.ro (.int .i64)],1,t0,.sh,[0,1,4],[(1,4)]⟩),
(292,⟨[.ro t4,.ro t5],1,t0,.sh,[0,1,2,3],[(1,9)]⟩),
(334,⟨[.ro t4,.ro (.ptr .fn)],1,t0,.sh,[0,1,2,3],[(1,4)]⟩),
(364,⟨[.ro (.sl t4),.ro .fn],1,t2,.sh,[0,1,4,5,7,8,9,16],mvD [(7,0),(5,1)] [(25,[4,5,9,16])]⟩),
(333,⟨[.ro (.sl t4),.ro .fn],1,t0,.sh,[0,1,4],[(1,4)]⟩),
(291,⟨[.ro (.sl t4),.ro .fn],1,t0,.sh,[0,1,3,4],[(1,4)]⟩),
(302,⟨[.ro (.sl t4)],1,t6,(.pr (.own .sh) .sh),[900000,0,2,4],[(3,3),(2,0),(3,0)]⟩),
(303,⟨[.ro t7],1,t6,(.pr (.own .sh) .sh),[],[]⟩),
(244,⟨[.ro t8],1,t6,(.pr (.own .sh) .sh),[0,1,2],[(1,7)]⟩),
(337,⟨[.ro (.int .i64)],1,t0,.sh,[0,2],[(1,2)]⟩),
(235,⟨[.ro (.int .i64)],1,t0,.sh,[0,2],[(1,2)]⟩),
(294,⟨[.ro t4],1,t0,.sh,[0,1,2],[(1,13)]⟩),
(229,⟨[.ro t8],1,t0,.sh,[0,1,2,3,4,5,7,23,25,26,27,28,40,43,44,45,46,68],mvD [(2,0),(7,0),(17,0),(14,0)] [(35,[0,2,3,4,5,7,23,28,40,43,44,45,46,68]),(87,[0,2,3,4,7,23,25,26,27,28,40,46,68])]⟩),
(290,⟨[.ro (.int .i64)],1,t0,.sh,[0,2],[(1,2)]⟩),
(227,⟨[.io (.ptr t9) (.own (.pr (.own .sh) .sh)) (.own .sh) 0 []],1,t10,(.pr .sh (.pr (.own .sh) .sh)),[0,2],[(1,17),(1,0),(1,6),(1,10)]⟩),
(160,⟨[.ro .str],3,t13,(.pr (.pr (.own .sh) (.pr (.pr (.own .sh) (.pr (.own .sh) (.pr (.own (.own .sh)) .sh))) .sh)) (.pr (.own (.pr .sh (.pr (.own .sh) .sh))) .sh)),[0,2,3,4,5,6,7,8,9,23,24,25,50],mvD [(12,2),(12,3),(12,4),(11,1),(11,2),(11,3),(1,2),(2,5),(2,7),(3,3),(3,5),(7,2),(8,6),(8,7),(8,8),(8,9),(2,0),(2,2),(3,0),(8,2),(8,3),(11,0)] [(34,[0,3,4,6,9,25,50])]⟩),
(161,⟨[.ro .str],2,t14,(.pr (.own .sh) .sh),[0,2,3,4,5],[(3,3),(3,4),(1,2),(2,2)]⟩),
(83,⟨[.ro t18],3,t13,(.pr (.pr (.own .sh) (.pr (.pr (.own .sh) (.pr (.own .sh) (.pr (.own (.own .sh)) .sh))) .sh)) (.pr (.own (.pr .sh (.pr (.own .sh) .sh))) .sh)),[0,1,2,3,4,5,6,7,8,9,10,11,12,13,14,15,16,24,54,59,60,61,91],mvD [(3,1),(3,2),(3,3),(8,1),(8,2),(8,3),(18,4),(18,5),(18,6),(15,1),(15,2),(15,3),(1,2),(5,13),(5,14),(6,7),(6,8),(6,9),(12,18),(12,19),(13,5),(13,6),(16,6),(3,0),(8,0),(15,0)] [(116,[0,3,4,7,8,11,12,13,14,15,16,24,54,61,91])]⟩),
(217,⟨[.ro .str],3,t13,(.pr (.pr (.own .sh) (.pr (.pr (.own .sh) (.pr (.own .sh) (.pr (.own (.own .sh)) .sh))) .sh)) (.pr (.own (.pr .sh (.pr (.own .sh) .sh))) .sh)),[0,2,3,4,5,6,7,8,9,10,11,12,13,14,21,36,57,71,81],mvD [(27,2),(27,3),(28,12),(28,13),(28,14),(1,2),(2,2),(2,4),(6,5),(6,9),(7,2),(10,2),(10,4),(11,3),(12,3),(13,8),(17,4),(17,7),(18,1),(19,2),(22,3),(22,5),(23,2),(26,4),(26,7),(27,4),(6,3),(17,2),(26,2),(28,2)] [(18,[0,3,4,8,9,10,11,12,13,14,21,36,57,71,81]),(69,[0,3,4,7,9,10,11,12,13,14,21,36,57,71,81]),(51,[0,3,4,7,8,9,11,12,13,14,21,36,57,71,81]),(196,[0,3,4,7,8,9,10,13,14,21,36,57,71,81]),(78,[0,3,4,7,8,9,10,21,36,57,71,81])]⟩),
(153,⟨[.ro t18],3,t13,(.pr (.pr (.own .sh) (.pr (.pr (.own .sh) (.pr (.own .sh) (.pr (.own (.own .sh)) .sh))) .sh)) (.pr (.own (.pr .sh (.pr (.own .sh) .sh))) .sh)),[0,1,2,3,4,5,6,7,8,9,10,11,12,13,14,15,16,19,39,69,73,107],mvD [(7,2),(7,3),(7,4),(11,2),(11,3),(11,4),(20,4),(20,5),(20,6),(18,2),(18,3),(18,4),(1,1),(5,10),(5,12),(8,16),(8,17),(9,7),(9,8),(9,9),(15,21),(15,22),(16,5),(16,6),(19,6),(7,0),(7,1),(11,0),(11,1),(18,0),(18,1)] [(15,[0,3,4,7,8,9,10,11,12,13,14,15,16,19,39,69,73,107]),(119,[0,3,4,6,7,8,11,13,14,15,16,19,39,69,73,107])]⟩),
(223,⟨[.ro .str,.ro (.int .i64)],1,t19,(.pr (.own (.pr (.own .sh) .sh)) .sh),[0,1,4,9],[(3,4),(2,2),(3,2),(3,3),(2,0),(2,1)]⟩),
(226,⟨[.io (.ptr t9) (.own (.pr (.own .sh) .sh)) (.own (.pr (.own .sh) .sh)) 0 [],.ro (.int .i64),.ro (.int .i64)],1,t20,(.pr .sh (.pr (.own (.pr (.own .sh) .sh)) .sh)),[0,1,2,6,38],[(3,0),(5,11),(1,0),(1,5),(1,9),(1,17),(1,21),(5,0),(5,4)]⟩),
(224,⟨[.io (.ptr t9) (.own (.pr (.own .sh) .sh)) (.own (.pr (.own .sh) .sh)) 0 [],.ro (.int .i64),.ro (.int .i64),.ro (.int .i64)],1,t21,(.pr (.own .sh) (.pr (.own (.pr (.own .sh) .sh)) .sh)),[0,1,2,3,8,9,10,11,12],mvD [(6,1),(4,5),(4,7)] [(15,[1,8,12])]⟩),
(225,⟨[.io (.ptr t9) (.own (.pr (.own .sh) .sh)) (.own (.pr (.own .sh) .sh)) 0 [],.ro (.int .i64)],1,t22,(.pr (.own .sh) (.pr (.own (.pr (.own .sh) .sh)) .sh)),[0,1,4,5,8,9,10],mvD [(6,1),(4,7),(4,8),(4,10)] [(15,[1,4,10])]⟩),
(43,⟨[.ro t25],2,t26,.sh,[0,1,2,3,4,5,6,9],[(2,0),(2,1),(4,19),(4,20),(3,8),(3,9),(3,10)]⟩),
(9,⟨[.ro t25],1,t0,.sh,[0,1,2,3,4,5,6,7,8,13,34,39],[(4,0),(9,0),(12,0),(11,0)]⟩),
(277,⟨[.ro .str,.ro (.int .i64)],1,t28,(.pr (.own (.pr (.own .sh) .sh)) .sh),[0,1,4,5,6,19],[(4,3),(3,2),(1,5),(1,6),(4,1),(4,2),(3,0),(3,1)]⟩),
(279,⟨[.io (.ptr t27) (.own (.pr (.own .sh) .sh)) (.own (.pr (.own .sh) .sh)) 0 []],1,t29,(.pr .sh (.pr (.own (.pr (.own .sh) .sh)) .sh)),[0,2,12],[(2,0),(4,11)]⟩),
(280,⟨[.io (.ptr t27) (.own (.pr (.own .sh) .sh)) (.own (.pr (.own .sh) .sh)) 0 [],.ro (.int .i64)],1,t29,(.pr .sh (.pr (.own (.pr (.own .sh) .sh)) .sh)),[0,1,4,5,11],[(5,1),(4,0),(1,2)]⟩),
(281,⟨[.io (.ptr t27) (.own (.pr (.own .sh) .sh)) (.own (.pr (.own .sh) .sh)) 0 []],1,t30,(.pr .sh (.pr (.own (.pr (.own .sh) .sh)) .sh)),[0,2,3,14,24],mvD [(6,10),(5,0)] [(18,[2,14,24])]⟩),
(218,⟨[.ro .str],2,t14,(.pr (.own .sh) .sh),[0,2,3,4,5,6,7,14],mvD [(10,7),(10,8),(1,2),(2,1),(3,2),(6,2),(6,4),(7,3),(8,3),(9,4)] [(45,[0,2,3,7,14])]⟩),
(94,⟨[.ro t25],1,t0,.sh,[0,1,2,3,4,5,6,7,21,31,35,47],mvD [(3,2),(6,0),(12,4),(11,0),(1,8),(1,9),(1,10),(4,2)] [(42,[0,2,3,5,21,31,35,47])]⟩),
(41,⟨[.ro t25],2,t26,.sh,[0,1,2,3,6],[(3,2),(3,3),(2,0),(2,1)]⟩),
(175,⟨[.ro t8,.ro (.int .i64)],1,t2,.sh,[0,1,2,4,6,8,9,10,11,17],mvD [(7,0),(5,2)] [(25,[0,2,4,6,11,17])]⟩),
(100,⟨[.ro t11],1,t31,(.pr (.own .sh) .sh),[0,1,2,3,4,5,6,9,10,11,12,17],mvD [(9,1),(6,6),(6,7),(7,7),(7,8),(7,10)] [(39,[0,2,4,5,6,12,17])]⟩),
(263,⟨[.mv t32 (.own .sh),.ro (.int .i64)],1,t33,(.pr (.own .sh) .sh),[0,1,4],[(1,14)]⟩),
(305,⟨[],1,t35,.sh,[0],[(1,1)]⟩),
(250,⟨[],1,t37,.sh,[0],[(1,2)]⟩),
(341,⟨[.ro .str,.ro (.int .i64)],1,t2,.sh,[0,1,4],[(1,25)]⟩),
(342,⟨[.ro (.int .i64),.ro (.int .i64)],1,t2,.sh,[0,1,4],[(1,9)]⟩),
(343,⟨[],1,t39,.sh,[0],[(1,1)]⟩),
(304,⟨[.ro t34,.ro .str],1,t35,.sh,[0,1,2,4,5,6,7,8,9,10,11,12,13,14,15,16,17,18,21,31,87,180],mvD [(27,1)] [(15,[0,7,8,9,10,11,12,13,14,15,16,17,18,21,31,87,180]),(50,[0,1,6,8,9,10,11,12,13,14,15,16,17,18,21,31,87,180]),(156,[0,1,6,7,8,9,13,14,15,16,17,18,21,31,87,180]),(78,[0,1,5,6,7,8,9,10,12,13,14,15,16,17,21,31,87,180])]⟩),
(249,⟨[.ro t36,.ro .str],1,t37,.sh,[0,1,2,4,19],mvD [(6,1)] [(15,[0,1,19])]⟩),
(248,⟨[.ro t36],1,t40,.sh,[0,1,2,3,4,5,6,7,8,19,24,41,45],mvD [(18,2)] [(9,[0,2,5,6,7,8,19,24,41,45]),(24,[0,2,6,7,8,19,24,41,45]),(93,[0,2,3,4,5,8,19,24,41,45]),(51,[0,2,3,4,5,19,24,41,45])]⟩),
(181,⟨[.ro .str],1,t40,.sh,[0,2],[(1,4)]⟩),
(257,⟨[],1,t37,.sh,[0],[(1,2)]⟩),
(309,⟨[],1,t42,.sh,[0],[(1,1)]⟩),
(367,⟨[.ro (.int .u32),.ro (.int .i64)],1,t43,.sh,[0,1,4,5],[(2,8)]⟩),
(344,⟨[.ro (.int .u32),.ro (.int .i64)],1,t43,.sh,[0,1,4],[(1,4)]⟩),
(310,⟨[.io (.ptr t36) (.own .sh) (.own .sh) 0 [],.ro .str,.ro (.ptr t41)],0,t44,(.pr (.own .sh) .sh),[0,1,2,6,7,8,9,10,11,12,13,14,15,16,17,18,19,20,21,22,23,24,25,26,61,104,105,106,114,115,194,195,196],mvD [] [(18,[7,8,9,10,11,12,13,14,15,16,17,18,19,20,21,22,23,24,26,61,104,105,106,114,115,194,195,196]),(38,[1,7,9,10,11,12,13,14,15,16,17,18,19,20,21,22,23,24,25,26,61,104,105,106,114,115,194,195,196]),(62,[1,7,8,9,10,12,13,14,15,16,17,18,19,20,21,22,23,24,25,26,61,106,114,115,194,195,196]),(154,[1,7,8,9,10,12,13,14,15,16,17,18,19,20,21,22,23,24,25,26,61,104,105,106,115,194,195,196]),(114,[1,2,6,7,8,9,10,11,12,13,14,15,16,17,18,19,20,21,22,23,24,25,26,61,104,105,106,114,115,196])]⟩),
(258,⟨[.ro t36,.ro .str],1,t37,.sh,[0,1,2,4,5,19],mvD [(8,1)] [(18,[0,19])]⟩),
(311,⟨[.ro .str,.ro (.int .i64)],1,t40,.sh,[],[]⟩),
(259,⟨[.ro t36],1,t40,.sh,[0,1,2,3,4,5,6,8,20,35,36,37],mvD [(13,2)] [(18,[0,2,6,8,20,35,36,37]),(46,[0,1,2,3,4,5,8,20,37])]⟩),
(190,⟨[.ro .str],1,t40,.sh,[0,2],[(1,4)]⟩),
(139,⟨[.ro (.int .i64),.ro (.int .i64)],1,t40,.sh,[0,1,4,5,6,7,8,9],mvD [(7,2)] [(22,[1,4,6,9])]⟩),
(332,⟨[.ro .str],1,t43,.sh,[0,2],[(1,18)]⟩),
(354,⟨[.ro (.int .u32),.ro (.int .u32),.ro (.int .u32),.ro (.int .u32)],4,t45,.sh,[0,1,2,3,8,9,10,11,13,16,17,18],mvD [(9,4),(9,5),(9,6),(9,7)] [(42,[8,9,10,11,13,18])]⟩),
(322,⟨[.ro .str,.ro .str,.ro (.int .i64)],1,t40,.sh,[0,1,2,6,7,8,9,10,11,12,13,14,15,16,17,25,26,41,42,43,44,46,47,95,96],mvD [(28,1)] [(35,[0,1,2,6,10,11,12,13,14,15,16,17,26,41,42,43,44,46,47,95,96]),(198,[0,1,2,6,7,10,11,12,13,14,15,16,17,25,26,42,43,44,46,47,95,96]),(153,[0,1,2,6,7,10,11,12,13,14,15,16,17,25,26,42,44,46,47,95,96]),(90,[0,1,2,6,7,10,12,13,14,15,16,17,25,26,42,44,47,95,96]),(106,[0,1,2,6,7,10,11,12,13,14,15,17,25,26,41,42,43,44,46,47,96])]⟩),
(361,⟨[.ro .str,.ro (.int .i64)],1,t2,.sh,[0,1,4],[(1,25)]⟩),
(382,⟨[.ro (.int .i64),.ro (.int .i64)],1,t2,.sh,[0,1,4],[(1,9)]⟩),
(381,⟨[.ro (.int .i64),.ro (.int .i64),.ro (.int .i64),.ro (.int .i64)],1,t47,.sh,[0,1,2,3,8],[(9,5)]⟩),
(372,⟨[.ro t48,.ro (.int .i64),.ro (.int .i64),.ro (.int .i64),.ro (.int .i64)],1,t49,.sh,[0,1,2,3,4,5,10,11],[(6,1)]⟩),
(349,⟨[.ro .str,.ro .str,.ro (.int .i64)],1,t40,.sh,[0,1,2,6,7,8,9,10,11,12,13,14,15,16,19,28,41,53,57,70,90],mvD [(32,2)] [(15,[6,9,10,11,12,13,14,15,16,19,28,41,53,57,70,90]),(27,[6,8,10,11,12,13,14,15,16,19,28,41,53,57,70,90]),(42,[0,2,6,8,9,11,12,13,14,15,16,19,28,41,53,57,70,90]),(225,[0,1,2,6,8,9,10,13,14,15,16,19,28,41,53,57,70,90]),(66,[0,1,2,6,8,9,10,14,15,16,19,28,41,53,57,70,90]),(78,[0,1,2,6,8,9,10,13,15,16,19,28,41,53,57,70,90]),(93,[0,1,2,6,8,9,10,12,13,14,19,28,41,53,57,70,90])]⟩),
(321,⟨[.ro .str,.ro .str],1,t40,.sh,[0,1,4,5,6,10,11,12],mvD [(7,2)] [(22,[0,4,6,12])]⟩),
(313,⟨[.ro .str,.ro .str,.ro (.int .i64),.ro .str],1,t40,.sh,[0,1,2,3,8,9,10,11,16,21],mvD [(9,2)] [(35,[8,16,21])]⟩),
(60,⟨[.ro t15,.ro (.int .i64)],1,t2,.sh,[0,1,2,4,11,18,25],[(3,0),(6,0),(10,1),(9,0)]⟩),
(122,⟨[.ro (.sl .str),.ro (.int .i64)],1,t2,.sh,[0,1,4,5,11,15,26],[(3,0),(10,1),(9,0)]⟩),
(195,⟨[.ro t16,.ro (.int .i64)],1,t2,.sh,[0,1,2,4,11],[(4,1),(3,0)]⟩),
(123,⟨[.ro (.sl t16),.ro (.int .i64)],1,t2,.sh,[0,1,4,5,11,15,25],[(3,0),(10,1),(9,0)]⟩),
(61,⟨[.ro t17,.ro (.int .i64)],1,t2,.sh,[0,1,2,4,10,16],[(3,0),(7,1),(6,0)]⟩),
(20,⟨[.ro t18,.ro (.int .i64)],1,t2,.sh,[0,1,2,4,11,17,23],[(3,0),(6,0),(10,1),(9,0)]⟩),
(124,⟨[.ro (.sl t4),.ro (.int .i64)],1,t2,.sh,[0,1,4,10],[(4,1),(3,0)]⟩),
(62,⟨[.ro t6,.ro (.int .i64)],1,t2,.sh,[0,1,2,4,10],[(4,1),(3,0)]⟩),
(21,⟨[.ro (.sl t6),.ro (.int .i64)],1,t2,.sh,[0,1,4,5,11,15,25],[(3,0),(10,1),(9,0)]⟩),
(66,⟨[.ro t15],1,t50,.sh,[0,1,2,3],[(9,1)]⟩),
(132,⟨[.ro (.sl .str)],1,t51,(.pr (.own .sh) .sh),[0,2,3,4,11],[(1,2),(6,1)]⟩),
(202,⟨[.ro t16],1,t52,.sh,[0,1,2,3],[(4,1)]⟩),
(133,⟨[.ro (.sl t16)],1,t53,(.pr (.own .sh) .sh),[0,2,3,4,11],[(1,2),(6,1)]⟩),
(67,⟨[.ro t17],1,t54,(.pr (.pr (.own .sh) (.pr (.own .sh) .sh)) .sh),[0,1,2,3],[(4,1)]⟩),
(23,⟨[.ro t18],1,t55,(.pr (.pr .sh (.pr .sh (.pr (.pr (.own .sh) (.pr (.own .sh) .sh)) .sh))) .sh),[0,1,2,3],[(7,1)]⟩),
(203,⟨[.ro t4],1,t56,.sh,[0,1,2,3],[(5,1)]⟩),
(134,⟨[.ro (.sl t4)],1,t6,(.pr (.own .sh) .sh),[0,2,3,4,11],[(1,2),(6,1)]⟩),
(68,⟨[.ro t6],1,t57,(.pr (.pr (.own .sh) .sh) .sh),[0,1,2,3],[(3,1)]⟩),
(24,⟨[.ro (.sl t6)],1,t58,(.pr (.own (.pr (.own .sh) .sh)) .sh),[0,2,3,4,11],[(1,2),(6,1)]⟩),
(11,⟨[.ro t1],1,t3,(.pr (.own .sh) .sh),[0,2,3,4,11],[(1,2),(6,1)]⟩),
(102,⟨[.ro (.int .i64),.ro (.int .i64),.ro (.int .i64)],1,t0,.sh,[0,1,2,6],[(1,8)]⟩),
(44,⟨[.ro t1],1,t0,.sh,[0,2,3,7,15],mvD [(6,0),(5,0)] [(18,[2,7,15])]⟩),
(151,⟨[.ro t15],1,t0,.sh,[0,1,2],[(1,56)]⟩),
(214,⟨[.ro (.int .i64)],1,t0,.sh,[0,2],[(1,2)]⟩),
(152,⟨[.ro t17],1,t0,.sh,[0,1,2,3,4,14,19,28,33,53],[(2,0),(7,0),(13,0),(12,0)]⟩),
(80,⟨[.ro t18],1,t0,.sh,[0,1,2],[(1,30)]⟩),
(262,⟨[.ro t4],1,t0,.sh,[1000015,0,1,2,12,14,15,21],[(2,0),(9,3),(6,3),(8,3)]⟩),
(196,⟨[.ro t6],1,t0,.sh,[0,1,2,3,8,17],[(6,4),(5,0)]⟩),
(126,⟨[.ro (.sl t6)],1,t0,.sh,[0,2,3,6,10,14,22],[(2,0),(4,0),(10,0),(9,0)]⟩),
(312,⟨[.ro (.int .i64)],1,t40,.sh,[0,2,3,4,7],mvD [(6,2)] [(15,[2,7])]⟩),
(264,⟨[.ro (.int .i64),.ro (.int .i64),.ro (.int .i64)],1,t40,.sh,[0,1,2,6],[(1,12)]⟩),
(351,⟨[.ro .str],1,t40,.sh,[0,2,6],mvD [(3,1)] [(5,[2,6])]⟩),
(374,⟨[.ro .str],1,t40,.sh,[0,2,3,4,5,10,20],mvD [(10,2)] [(15,[0,2,5,10,20]),(27,[0,2,4,10,20])]⟩),
(373,⟨[.ro .str],1,t60,.sh,[0,2,3,4,5,6,9,36],mvD [(10,1)] [(49,[5,6,9,36])]⟩),
(377,⟨[.ro t59],1,t60,.sh,[0,1,2,3,4,6,10],mvD [(11,1)] [(63,[0,4,6,10]),(30,[0,6,10])]⟩),
(375,⟨[.ro t59,.ro t59],1,t60,.sh,[0,1,2,3,4,5,6,7,8,11,15,28],mvD [(12,2)] [(72,[0,1,7,8,11,15,28]),(57,[0,1,8,11,15,28])]⟩),
(376,⟨[.ro t59],1,t60,.sh,[0,1,2,3,4,11,32],mvD [(9,1),(11,1)] [(26,[0,11,32])]⟩),
(350,⟨[.ro .str,.ro .str],1,t40,.sh,[0,1,4,5,6,7,8,9,10,11,12,13,14,15,24,38,44,63,77],mvD [(28,2)] [(110,[4,8,9,10,11,12,13,14,15,24,38,44,63,77]),(17,[4,9,10,11,12,13,14,15,24,38,44,63,77]),(39,[4,8,11,12,13,14,15,24,38,44,63,77]),(216,[1,4,5,7,8,9,10,14,15,24,38,44,63,77])]⟩),
(314,⟨[.ro .str,.ro .str,.ro .str,.ro .str],1,t40,.sh,[0,1,2,3,8,9],[(2,15)]⟩),
(220,⟨[.ro .str],1,t0,.sh,[0,2],[(1,3)]⟩),
(137,⟨[.ro t15],1,t2,.sh,[0,1,2],[(1,5)]⟩),
(156,⟨[.ro t15],1,t0,.sh,[0,1,2],[(1,51)]⟩),
(254,⟨[.ro .str,.ro (.ptr .fn)],1,t0,.sh,[0,1,3],[(1,4)]⟩),
(308,⟨[.ro (.sl .str),.ro .fn],1,t2,.sh,[0,1,4,5,7,8,9,16],[(7,0),(5,1)]⟩),
(253,⟨[.ro (.sl .str),.ro .fn],1,t0,.sh,[0,1,4],[(1,4)]⟩),
(185,⟨[.ro (.sl .str),.ro .fn],1,t0,.sh,[0,1,3,4],[(1,4)]⟩),
(285,⟨[.ro .str],1,t0,.sh,[0,2],[(1,3)]⟩),
(331,⟨[.ro t16,.ro (.ptr .fn)],1,t0,.sh,[0,1,2,3],[(1,4)]⟩),
(363,⟨[.ro (.sl t16),.ro .fn],1,t2,.sh,[0,1,4,5,7,8,9,16],[(7,0),(5,1)]⟩),
(330,⟨[.ro (.sl t16),.ro .fn],1,t0,.sh,[0,1,4],[(1,4)]⟩),
(286,⟨[.ro (.sl t16),.ro .fn],1,t0,.sh,[0,1,3,4],[(1,4)]⟩),
(288,⟨[.ro (.int .i64)],1,t0,.sh,[0,2],[(1,2)]⟩),
(287,⟨[.ro t16],1,t0,.sh,[0,1,2],[(1,8)]⟩),
(221,⟨[.ro t17],1,t0,.sh,[0,1,2],[(1,20)]⟩),
(157,⟨[.ro t17],1,t0,.sh,[0,1,2],[(1,8)]⟩),
(82,⟨[.ro t18],1,t0,.sh,[0,1,2],[(1,23)]⟩),
(270,⟨[.ro t6,.ro (.ptr .fn)],1,t0,.sh,[0,1,2,3],[(1,4)]⟩),
(316,⟨[.ro (.sl t6),.ro .fn],1,t2,.sh,[0,1,4,5,7,8,9,16],[(7,0),(5,1)]⟩),
(269,⟨[.ro (.sl t6),.ro .fn],1,t0,.sh,[0,1,4],[(1,4)]⟩),
(206,⟨[.ro (.sl t6),.ro .fn],1,t0,.sh,[0,1,3,4],[(1,4)]⟩),
(318,⟨[.ro t4,.ro (.ptr .fn)],1,t0,.sh,[0,1,2,3],[(1,4)]⟩),
(352,⟨[.ro (.sl t4),.ro .fn],1,t2,.sh,[0,1,4,5,7,8,9,16],[(7,0),(5,1)]⟩),
(317,⟨[.ro (.sl t4),.ro .fn],1,t0,.sh,[0,1,4],[(1,4)]⟩),
(271,⟨[.ro (.sl t4),.ro .fn],1,t0,.sh,[0,1,3,4],[(1,4)]⟩),
(319,⟨[.ro (.int .i64)],1,t0,.sh,[0,2],[(1,6)]⟩),
(272,⟨[.ro t4],1,t0,.sh,[0,1,2,12,13,20],[(2,0),(7,3),(4,3),(6,3)]⟩),
(207,⟨[.ro t6],1,t0,.sh,[0,1,2],[(1,9)]⟩),
(136,⟨[.ro (.sl t6)],1,t0,.sh,[0,2],[(1,7)]⟩),
(209,⟨[.ro (.int .i64),.ro (.int .i64),.ro (.int .i64)],1,t40,.sh,[0,1,2,6],[(1,10)]⟩),
(273,⟨[.ro .str,.ro .str,.ro (.int .i64),.ro .str],1,t40,.sh,[],[]⟩),
(325,⟨[.ro .str],1,t40,.sh,[0,2],[(1,8)]⟩),
(356,⟨[.ro .str],1,t40,.sh,[0,2,3,4,5,10,20],mvD [(10,2)] [(15,[0,2,5,10,20]),(27,[0,2,4,10,20])]⟩),
(355,⟨[.ro .str],1,t62,.sh,[0,2,3,4,5,6,7,9,10,11,12,16,17,27],mvD [(13,1)] [(85,[0,4,5,6,7,12,16,17,27]),(57,[0,6,7,12,17,27])]⟩),
(379,⟨[.ro t61],1,t62,.sh,[0,1,2,3,4,5,6,7,8],mvD [(13,1)] [(88,[0,3,4,6,7,8]),(51,[0,4,6,8])]⟩),
(357,⟨[.ro t61,.ro t61],1,t62,.sh,[0,1,2,3,4,5,6,7],mvD [(6,2)] [(18,[0,1,5,7])]⟩),
(358,⟨[.ro t61,.ro t61],1,t62,.sh,[0,1,2,3,4,5,6,7,8,9,10,11,12,15,16,17,23],mvD [(13,2)] [(85,[0,1,2,6,7,8,9,12,15,16,17,23]),(57,[0,1,2,8,9,12,17,23])]⟩),
(359,⟨[.ro t61],1,t62,.sh,[0,1,2,3,4,5,10,19,26,28,29],mvD [(8,1),(14,1)] [(35,[0,5,10,19,26,28,29]),(50,[0,4,5,10,19,26,29])]⟩),
(360,⟨[.ro t61,.ro .str],1,t40,.sh,[0,1,2,4,5,6,7,8,9,10,13,14,15,17,18],mvD [(17,2)] [(143,[0,4,7,8,9,10,15,17,18]),(55,[0,4,9,10,15,18])]⟩),
(324,⟨[.ro .str,.ro .str],1,t40,.sh,[0,1,4,5,6,7,14],mvD [(7,5)] [(18,[4,14])]⟩),
(274,⟨[.ro .str,.ro .str,.ro .str,.ro .str],1,t40,.sh,[0,1,2,3,8],[(1,18)]⟩),
(73,⟨[.ro t15,.ro t15],1,t0,.sh,[0,1,2,3,4,9,14,19,24,29,34,39],[(2,0),(4,0),(6,0),(8,0),(10,0),(12,0),(15,0),(14,0)]⟩),
(114,⟨[.ro (.sl .str),.ro (.sl .str)],1,t0,.sh,[0,1,4,5,10,14,25],[(2,0),(8,0),(7,0)]⟩),
(192,⟨[.ro t16,.ro t16],1,t0,.sh,[0,1,2,3,4,9,14],[(2,0),(5,0),(4,0)]⟩),
(115,⟨[.ro (.sl t16),.ro (.sl t16)],1,t0,.sh,[0,1,4,5,10,14,26],[(2,0),(8,0),(7,0)]⟩),
(49,⟨[.ro t17,.ro t17],1,t0,.sh,[0,1,2,3,4,10,16],[(2,0),(5,0),(4,0)]⟩),
(26,⟨[.ro t18,.ro t18],1,t0,.sh,[0,1,2,3,4,9,15,21,26,31],[(2,0),(4,0),(6,0),(8,0),(11,0),(10,0)]⟩),
(212,⟨[.ro t4,.ro t4],1,t0,.sh,[0,1,2,3,4,9,14,19],[(2,0),(4,0),(7,0),(6,0)]⟩),
(146,⟨[.ro (.sl t4),.ro (.sl t4)],1,t0,.sh,[0,1,4,5,10,14,26],[(2,0),(8,0),(7,0)]⟩),
(74,⟨[.ro t6,.ro t6],1,t0,.sh,[0,1,2,3,4,10],[(3,0),(2,0)]⟩),
(27,⟨[.ro (.sl t6),.ro (.sl t6)],1,t0,.sh,[0,1,4,5,10,14,26],[(2,0),(8,0),(7,0)]⟩),
(14,⟨[.ro t1,.ro t1],1,t0,.sh,[0,1,4,5,10,14,25],[(2,0),(8,0),(7,0)]⟩),
(278,⟨[.ro t1],1,t63,(.pr (.pr (.own .sh) (.pr (.own .sh) (.pr (.own (.own .sh)) .sh))) .sh),[0,2],[(1,6)]⟩),
(306,⟨[.ro (.int .i64),.ro .str],1,t40,.sh,[0,1,4],[(1,7)]⟩),
(251,⟨[.ro (.sl .str)],1,t51,(.pr (.own .sh) .sh),[0,2,3,4,9],mvD [(6,1)] [(15,[2,9])]⟩),
(307,⟨[.ro .str,.ro .str],1,t40,.sh,[0,1,4],[(1,5)]⟩),
(252,⟨[.ro (.sl .str)],1,t51,(.pr (.own .sh) .sh),[0,2,3,4,10],mvD [(6,1)] [(15,[2,10])]⟩),
(182,⟨[.ro (.sl .str)],1,t40,.sh,[0,2,3,8],mvD [(4,3)] [(7,[0,2,8])]⟩),
(260,⟨[.ro (.int .i64),.ro .str],1,t40,.sh,[0,1,4],[(1,7)]⟩),
(261,⟨[.ro .str,.ro .str],1,t40,.sh,[0,1,4],[(1,5)]⟩),
(191,⟨[.ro (.sl .str)],1,t65,(.pr (.own .sh) .sh),[0,2,3,4,5,6,7,8,9,10,11,12,27,31],mvD [(16,1)] [(22,[0,2,4,5,6,7,8,12,27,31]),(100,[0,2,4,5,7,8,9,10,11,12,27,31]),(39,[0,2,4,5,9,10,11,12,27,31])]⟩),
(111,⟨[.ro (.sl .str)],1,t40,.sh,[0,2],[(1,6)]⟩),
(116,⟨[.ro t23,.ro t23],1,t0,.sh,[0,1,2,3,4,9,14],[(2,0),(5,0),(4,0)]⟩),
(50,⟨[.ro (.sl t23),.ro (.sl t23)],1,t0,.sh,[0,1,4,5,10,14,26],[(2,0),(8,0),(7,0)]⟩),
(51,⟨[.ro t24,.ro t24],1,t0,.sh,[0,1,4,5,10,14,26],[(2,0),(8,0),(7,0)]⟩),
(88,⟨[.ro t12,.ro t12],1,t0,.sh,[0,1,2,3,4,9,15],[(2,0),(5,0),(4,0)]⟩),
(37,⟨[.ro (.sl t12),.ro (.sl t12)],1,t0,.sh,[0,1,4,5,10,14,26],[(2,0),(8,0),(7,0)]⟩),
(13,⟨[.ro t25,.ro t25],1,t0,.sh,[0,1,2,3,4,10,16,22,28,34,39],[(2,0),(4,0),(6,0),(8,0),(10,0),(13,0),(12,0)]⟩),
(90,⟨[.ro (.sl t23),.ro (.int .i64)],1,t2,.sh,[0,1,4,10],[(4,1),(3,0)]⟩),
(91,⟨[.ro t24,.ro (.int .i64)],1,t2,.sh,[0,1,4,5,11,15,25],[(3,0),(10,1),(9,0)]⟩),
(230,⟨[.ro t1,.ro (.int .i64)],1,t2,.sh,[0,1,4,10],[(4,1),(3,0)]⟩),
(163,⟨[.ro t12,.ro (.int .i64)],1,t2,.sh,[0,1,2,4,10],[(4,1),(3,0)]⟩),
(92,⟨[.ro (.sl t12),.ro (.int .i64)],1,t2,.sh,[0,1,4,5,11,15,25],[(3,0),(10,1),(9,0)]⟩),
(40,⟨[.ro t25,.ro (.int .i64)],1,t2,.sh,[0,1,2,4,10,16,22,28,34],[(3,0),(6,0),(9,0),(12,0),(16,1),(15,0)]⟩),
(168,⟨[.ro t23],1,t66,.sh,[0,1,2,3],[(4,1)]⟩),
(95,⟨[.ro (.sl t23)],1,t31,(.pr (.own .sh) .sh),[0,2,3,4,11],[(1,2),(6,1)]⟩),
(96,⟨[.ro t24],1,t67,(.pr (.own (.own (.pr (.own .sh) .sh))) .sh),[0,2,3,4,11],[(1,2),(6,1)]⟩),
(169,⟨[.ro t12],1,t68,(.pr (.pr .sh (.pr (.own .sh) .sh)) .sh),[0,1,2,3],[(4,1)]⟩),
(97,⟨[.ro (.sl t12)],1,t69,(.pr (.own (.pr .sh (.pr (.own .sh) .sh))) .sh),[0,2,3,4,11],[(1,2),(6,1)]⟩),
(42,⟨[.ro t25],1,t70,(.pr (.pr (.pr .sh (.pr .sh (.pr (.pr (.own .sh) (.pr (.own .sh) .sh)) .sh))) (.pr (.pr (.own .sh) (.pr (.own .sh) .sh)) (.pr (.own .sh) (.pr (.own (.own (.pr (.own .sh) .sh))) (.pr (.own (.pr .sh (.pr (.own .sh) .sh))) .sh))))) .sh),[0,1,2,3],[(8,1)]⟩),
(164,⟨[.ro (.sl t23)],1,t0,.sh,[0,2,3,6,10,46],[(2,0),(8,3),(7,0)]⟩),
(231,⟨[.ro t12],1,t0,.sh,[0,1,2,3,24,29,38],[(2,0),(8,0),(7,0)]⟩),
(165,⟨[.ro (.sl t12)],1,t0,.sh,[0,2,3,7,15],[(6,3),(5,0)]⟩),
(93,⟨[.ro t25],1,t0,.sh,[0,1,2,3,47,52,61],[(2,0),(8,0),(7,0)]⟩),
(215,⟨[.ro t17,.ro (.int .i64)],1,t40,.sh,[0,1,2,4,5,11,21],mvD [(6,5),(5,6)] [(18,[0,4,11,21])]⟩),
(326,⟨[.ro .str,.ro .str],1,t0,.sh,[0,1,4,5,6,14,24],mvD [(2,0),(8,9)] [(21,[4,14,24])]⟩),
(276,⟨[.ro .str,.ro .str,.ro .str,.ro .str],2,t71,.sh,[0,1,2,3,8,9,10,13,29],[(2,0),(2,1),(6,4),(6,5),(5,0),(5,1)]⟩),
(216,⟨[.ro .str,.ro (.int .i64),.ro (.int .i64),.ro (.int .i64),.ro .str],2,t71,.sh,[0,1,2,3,4,10,11,12],[(2,6),(2,7)]⟩),
(327,⟨[.ro .str],2,t72,(.pr (.own .sh) .sh),[0,2,3,4,5,11],mvD [(6,5),(6,6)] [(15,[2,3,11])]⟩),
(284,⟨[.ro t1,.ro (.int .i64)],1,t0,.sh,[0,1,4,5,9,17],mvD [(6,0),(5,0)] [(18,[4,9,17])]⟩),
(328,⟨[.ro t8,.ro t4,.ro t1],1,t0,.sh,[0,1,2,3,4,6],[(1,26)]⟩),
(362,⟨[.ro (.int .i64)],1,t3,(.pr (.own .sh) .sh),[0,2,3,4,16],mvD [(6,1)] [(22,[0,2,16])]⟩),
(329,⟨[.ro (.int .i64),.ro (.int .i64)],1,t0,.sh,[0,1,4,5,6,12,20],mvD [(7,0),(6,0)] [(22,[1,4,12,20])]⟩),
(283,⟨[.ro t8],1,t0,.sh,[0,1,2,3,4,5,6,7,29,35,46,57,66,74,96],mvD [(2,0),(8,0),(22,0),(14,0),(20,0)] [(40,[0,2,5,6,7,29,35,46,57,66,74,96]),(187,[0,2,4,6,7,29,35,46,57,66,74,96]),(117,[0,2,4,7,29,35,46,57,66,74,96])]⟩),
(219,⟨[.ro t11],1,t0,.sh,[0,1,2,3,13,18,47],mvD [(2,0),(8,0),(7,0)] [(26,[0,2,13,18,47])]⟩),
(282,⟨[.ro (.sl t4)],1,t0,.sh,[0,2,3,4,8,30],mvD [(7,3),(6,0)] [(25,[2,4,8,30])]⟩),
(233,⟨[.ro t8,.ro (.int .i64)],1,t2,.sh,[0,1,2,4,5,6,7,12,22,33,43,56],mvD [(5,6),(14,0),(13,9)] [(18,[0,4,6,7,12,22,33,43,56]),(77,[0,4,5,7,12,22,33,43,56]),(50,[0,4,5,12,22,33,43,56])]⟩),
(232,⟨[.ro (.sl t23),.ro (.int .i64),.ro (.int .i64)],1,t31,(.pr (.own .sh) .sh),[0,1,2,6,7,8,21,39],mvD [(7,12)] [(7,[6,8,21,39])]⟩),
(166,⟨[.ro t11],1,t31,(.pr (.own .sh) .sh),[0,1,2,3,4,10,18],mvD [(7,1)] [(22,[0,2,10,18])]⟩),
(295,⟨[.ro (.int .i64)],1,t40,.sh,[0,2,3,12],[(4,4),(3,0)]⟩),
(296,⟨[.ro (.int .i64)],1,t40,.sh,[0,2,4,6,12],[(2,0),(4,4),(7,10),(6,5)]⟩),
(234,⟨[.ro t12],1,t40,.sh,[0,1,2,3,4,12],mvD [(6,1)] [(15,[0,2,12])]⟩),
(167,⟨[.ro (.sl t12),.ro (.sl t12)],1,t0,.sh,[0,1,4,5,10,14,27],mvD [(2,0),(8,0),(7,0)] [(26,[4,10,14,27])]⟩),
(170,⟨[.ro (.sl t23)],1,t0,.sh,[0,2,3,4,5,6,7,8,36],[(7,3),(5,0)]⟩),
(237,⟨[.ro (.sl t6),.ro (.ptr .fn)],1,t0,.sh,[0,1,3],[(1,4)]⟩),
(297,⟨[.ro t24,.ro .fn],1,t2,.sh,[0,1,4,5,7,8,9,16],[(7,0),(5,1)]⟩),
(236,⟨[.ro t24,.ro .fn],1,t0,.sh,[0,1,4],[(1,4)]⟩),
(171,⟨[.ro t24,.ro .fn],1,t0,.sh,[0,1,3,4],[(1,4)]⟩),
(299,⟨[.ro t12,.ro (.ptr .fn)],1,t0,.sh,[0,1,2,3],[(1,4)]⟩),
(338,⟨[.ro (.sl t12),.ro .fn],1,t2,.sh,[0,1,4,5,7,8,9,16],[(7,0),(5,1)]⟩),
(298,⟨[.ro (.sl t12),.ro .fn],1,t0,.sh,[0,1,4],[(1,4)]⟩),
(238,⟨[.ro (.sl t12),.ro .fn],1,t0,.sh,[0,1,3,4],[(1,4)]⟩),
(300,⟨[.ro (.int .i64)],1,t0,.sh,[0,2],[(1,2)]⟩),
(239,⟨[.ro t12],1,t0,.sh,[0,1,2],[(1,25)]⟩),
(172,⟨[.ro (.sl t12)],1,t0,.sh,[0,2],[(1,7)]⟩),
(98,⟨[.ro t25],1,t0,.sh,[0,1,2],[(1,33)]⟩),
(158,⟨[.ro t18],1,t51,.sh,[0,1,2],[(1,13)]⟩),
(222,⟨[.ro .str,.ro .str,.ro .str,.ro .str],2,t71,.sh,[0,1,2,3,8,9,10,11,14,31],[(2,0),(2,1),(6,4),(6,5),(5,0),(5,1)]⟩),
(159,⟨[.ro .str,.ro (.int .i64),.ro (.int .i64),.ro (.int .i64),.ro .str],2,t71,.sh,[0,1,2,3,4,10,11],[(1,9),(1,10)]⟩),
(289,⟨[.ro .str],1,t3,(.pr (.own .sh) .sh),[0,2,3,4,8],mvD [(6,1)] [(15,[2,8])]⟩),
(162,⟨[.ro t11],1,t0,.sh,[],[]⟩),
(240,⟨[.ro (.sl t23),.ro (.int .i64),.ro .fn],2,t73,.sh,[0,1,2,6,7,8,9,10,11,17,31],mvD [(8,14),(8,15)] [(30,[6,7,11,17,31])]⟩),
(241,⟨[.ro t23,.ro (.int .i64)],1,t2,.sh,[0,1,2,4],[(1,4)]⟩),
(173,⟨[.ro (.sl t23),.ro (.int .i64)],2,t73,.sh,[0,1,4,5],[(1,5),(1,6)]⟩),
(174,⟨[.mv (.sl t23) (.own .sh),.ro (.int .i64),.ro (.sl t23)],1,t31,(.pr (.own .sh) .sh),[],[]⟩),
(99,⟨[.ro (.sl t23),.ro (.sl t23)],1,t0,.sh,[0,1,4,5,10,12,13,14,24],mvD [(2,0),(9,0),(7,0)] [(35,[4,5,10,14,24])]⟩),
(176,⟨[.ro (.sl t12),.ro (.sl t12),.ro .fn],1,t0,.sh,[0,1,2,6,7,8,9,14,15,16,17,18,30],mvD [(2,0),(10,0),(8,0)] [(45,[0,6,7,8,9,14,18,30])]⟩),
(178,⟨[.ro t1,.ro t1],1,t0,.sh,[0,1,4,5,10,12,13,14,24],mvD [(2,0),(9,0),(7,0)] [(35,[4,5,10,14,24])]⟩),
(177,⟨[.ro t12,.ro t12],1,t0,.sh,[0,1,2,3,4],[(1,12)]⟩),
(101,⟨[.ro (.sl t12),.ro (.sl t12)],1,t0,.sh,[0,1,4],[(1,3)]⟩)]
noncomputable def EE:Env:=⟨Go.Proofs.Tryz.prog,BU7 B3M⟩
variable (R:Run EE) (L:fT)
noncomputable def uF (x0 x1 x2:Int):Option d74:=R 149 [⟨(.int .i64),x0⟩,⟨(.int .i64),x1⟩,⟨(.int .i64),x2⟩]
noncomputable def AG6 (x0:Int):Option d74:=R 228 [⟨(.int .i64),x0⟩]
noncomputable def eX (x0:Int) (x1:FnVal):Option d74:=R 268 [⟨(.int .i64),x0⟩,⟨(.ptr .fn),x1⟩]
noncomputable def uT (x0:List Int) (x1:FnVal):Option d75:=R 315 [⟨t1,x0⟩,⟨.fn,x1⟩]
noncomputable def vN (x0:List Int) (x1:FnVal):Option d74:=R 267 [⟨t1,x0⟩,⟨.fn,x1⟩]
noncomputable def tZ (x0:List Int) (x1:FnVal):Option d74:=R 204 [⟨t1,x0⟩,⟨.fn,x1⟩]
noncomputable def gF (x0:Int):Option d74:=R 205 [⟨(.int .i64),x0⟩]
noncomputable def kZ (x0:List Int):Option d76:=R 366 [⟨t1,x0⟩]
noncomputable def AY2 (x0:Int):Option d76:=R 336 [⟨(.int .i64),x0⟩]
noncomputable def rU (x0:List Int) (x1:Int):Option d75:=R 365 [⟨t1,x0⟩,⟨(.int .i64),x1⟩]
noncomputable def qU (x0:List Int) (x1:Int):Option d74:=R 335 [⟨t1,x0⟩,⟨(.int .i64),x1⟩]
noncomputable def cB (x0 x1:Int):Option d74:=R 293 [⟨(.int .i64),x0⟩,⟨(.int .i64),x1⟩]
noncomputable def Ag0 (x0:d77) (x1:Int):Option d74:=R 292 [⟨t4,x0⟩,⟨t5,x1⟩]
noncomputable def kH (x0:d77) (x1:FnVal):Option d74:=R 334 [⟨t4,x0⟩,⟨(.ptr .fn),x1⟩]
noncomputable def wI (x0:List d77) (x1:FnVal):Option d75:=R 364 [⟨(.sl t4),x0⟩,⟨.fn,x1⟩]
noncomputable def xO (x0:List d77) (x1:FnVal):Option d74:=R 333 [⟨(.sl t4),x0⟩,⟨.fn,x1⟩]
noncomputable def mT (x0:List d77) (x1:FnVal):Option d74:=R 291 [⟨(.sl t4),x0⟩,⟨.fn,x1⟩]
noncomputable def vF (x0:List d77):Option d78:=R 302 [⟨(.sl t4),x0⟩]
noncomputable def oD (x0:List (List d77)):Option d78:=R 303 [⟨t7,x0⟩]
noncomputable def kR (x0:d79):Option d78:=R 244 [⟨t8,x0⟩]
noncomputable def A0h (x0:Int):Option d74:=R 337 [⟨(.int .i64),x0⟩]
noncomputable def kO (x0:Int):Option d74:=R 235 [⟨(.int .i64),x0⟩]
noncomputable def AN3 (x0:d77):Option d74:=R 294 [⟨t4,x0⟩]
noncomputable def Aq5 (x0:d79):Option d74:=R 229 [⟨t8,x0⟩]
noncomputable def kS (x0:Int):Option d74:=R 290 [⟨(.int .i64),x0⟩]
noncomputable def pQ (x0:d80):Option d81:=R 227 [⟨(.ptr t9),x0⟩]
noncomputable def bH (x0:List UInt8):Option d84:=R 160 [⟨.str,x0⟩]
noncomputable def dG (x0:List UInt8):Option d85:=R 161 [⟨.str,x0⟩]
noncomputable def fE (x0:d89):Option d84:=R 83 [⟨t18,x0⟩]
noncomputable def dQ (x0:List UInt8):Option d84:=R 217 [⟨.str,x0⟩]
noncomputable def AI5 (x0:d89):Option d84:=R 153 [⟨t18,x0⟩]
noncomputable def kU (x0:List UInt8) (x1:Int):Option d90:=R 223 [⟨.str,x0⟩,⟨(.int .i64),x1⟩]
noncomputable def xC (x0:d80) (x1 x2:Int):Option d91:=R 226 [⟨(.ptr t9),x0⟩,⟨(.int .i64),x1⟩,⟨(.int .i64),x2⟩]
noncomputable def wG (x0:d80) (x1 x2 x3:Int):Option d92:=R 224 [⟨(.ptr t9),x0⟩,⟨(.int .i64),x1⟩,⟨(.int .i64),x2⟩,⟨(.int .i64),x3⟩]
noncomputable def vQ (x0:d80) (x1:Int):Option d93:=R 225 [⟨(.ptr t9),x0⟩,⟨(.int .i64),x1⟩]
noncomputable def Ah9 (x0:d95):Option d96:=R 43 [⟨t25,x0⟩]
noncomputable def cO (x0:d95):Option d74:=R 9 [⟨t25,x0⟩]
noncomputable def gE (x0:List UInt8) (x1:Int):Option d98:=R 277 [⟨.str,x0⟩,⟨(.int .i64),x1⟩]
noncomputable def zW (x0:d97):Option d99:=R 279 [⟨(.ptr t27),x0⟩]
noncomputable def xE (x0:d97) (x1:Int):Option d99:=R 280 [⟨(.ptr t27),x0⟩,⟨(.int .i64),x1⟩]
noncomputable def rF (x0:d97):Option B4T:=R 281 [⟨(.ptr t27),x0⟩]
noncomputable def gW (x0:List UInt8):Option d85:=R 218 [⟨.str,x0⟩]
noncomputable def AS4 (x0:d95):Option d74:=R 94 [⟨t25,x0⟩]
noncomputable def Aj5 (x0:d95):Option d96:=R 41 [⟨t25,x0⟩]
noncomputable def iV (x0:d79) (x1:Int):Option d75:=R 175 [⟨t8,x0⟩,⟨(.int .i64),x1⟩]
noncomputable def fB (x0:d82):Option Bj0:=R 100 [⟨t11,x0⟩]
noncomputable def AC3 (x0:List Int) (x1:Int):Option d76:=R 263 [⟨t32,x0⟩,⟨(.int .i64),x1⟩]
noncomputable def AS2:Option d76:=R 305 []
noncomputable def AM1:Option BO0:=R 250 []
noncomputable def AK1 (x0:List UInt8) (x1:Int):Option d75:=R 341 [⟨.str,x0⟩,⟨(.int .i64),x1⟩]
noncomputable def yS (x0 x1:Int):Option d75:=R 342 [⟨(.int .i64),x0⟩,⟨(.int .i64),x1⟩]
noncomputable def AR5:Option d76:=R 343 []
noncomputable def AC4 (x0:List Int) (x1:List UInt8):Option d76:=R 304 [⟨t34,x0⟩,⟨.str,x1⟩]
noncomputable def gA (x0:AT4) (x1:List UInt8):Option BO0:=R 249 [⟨t36,x0⟩,⟨.str,x1⟩]
noncomputable def AW0 (x0:AT4):Option jH:=R 248 [⟨t36,x0⟩]
noncomputable def AT5 (x0:List UInt8):Option jH:=R 181 [⟨.str,x0⟩]
noncomputable def Ae7:Option BO0:=R 257 []
noncomputable def AK3:Option d76:=R 309 []
noncomputable def xM (x0 x1:Int):Option d75:=R 367 [⟨(.int .u32),x0⟩,⟨(.int .i64),x1⟩]
noncomputable def wN (x0 x1:Int):Option d75:=R 344 [⟨(.int .u32),x0⟩,⟨(.int .i64),x1⟩]
noncomputable def lR (x0:AT4) (x1:List UInt8) (x2:List Int):Option BO0:=R 310 [⟨(.ptr t36),x0⟩,⟨.str,x1⟩,⟨(.ptr t41),x2⟩]
noncomputable def mZ (x0:AT4) (x1:List UInt8):Option BO0:=R 258 [⟨t36,x0⟩,⟨.str,x1⟩]
noncomputable def lC (x0:List UInt8) (x1:Int):Option jH:=R 311 [⟨.str,x0⟩,⟨(.int .i64),x1⟩]
noncomputable def AC7 (x0:AT4):Option jH:=R 259 [⟨t36,x0⟩]
noncomputable def AH2 (x0:List UInt8):Option jH:=R 190 [⟨.str,x0⟩]
noncomputable def uH (x0 x1:Int):Option jH:=R 139 [⟨(.int .i64),x0⟩,⟨(.int .i64),x1⟩]
noncomputable def iT (x0:List UInt8):Option d75:=R 332 [⟨.str,x0⟩]
noncomputable def AM9 (x0 x1 x2 x3:Int):Option B4Q:=R 354 [⟨(.int .u32),x0⟩,⟨(.int .u32),x1⟩,⟨(.int .u32),x2⟩,⟨(.int .u32),x3⟩]
noncomputable def AF7 (x0 x1:List UInt8) (x2:Int):Option jH:=R 322 [⟨.str,x0⟩,⟨.str,x1⟩,⟨(.int .i64),x2⟩]
noncomputable def kP (x0:List UInt8) (x1:Int):Option d75:=R 361 [⟨.str,x0⟩,⟨(.int .i64),x1⟩]
noncomputable def pJ (x0 x1:Int):Option d75:=R 382 [⟨(.int .i64),x0⟩,⟨(.int .i64),x1⟩]
noncomputable def dH (x0 x1 x2 x3:Int):Option d76:=R 381 [⟨(.int .i64),x0⟩,⟨(.int .i64),x1⟩,⟨(.int .i64),x2⟩,⟨(.int .i64),x3⟩]
noncomputable def cE (x0:List Int) (x1 x2 x3 x4:Int):Option d76:=R 372 [⟨t48,x0⟩,⟨(.int .i64),x1⟩,⟨(.int .i64),x2⟩,⟨(.int .i64),x3⟩,⟨(.int .i64),x4⟩]
noncomputable def mE (x0 x1:List UInt8) (x2:Int):Option jH:=R 349 [⟨.str,x0⟩,⟨.str,x1⟩,⟨(.int .i64),x2⟩]
noncomputable def A7a (x0 x1:List UInt8):Option jH:=R 321 [⟨.str,x0⟩,⟨.str,x1⟩]
noncomputable def AH1 (x0 x1:List UInt8) (x2:Int) (x3:List UInt8):Option jH:=R 313 [⟨.str,x0⟩,⟨.str,x1⟩,⟨(.int .i64),x2⟩,⟨.str,x3⟩]
noncomputable def dE (x0:d86) (x1:Int):Option d75:=R 60 [⟨t15,x0⟩,⟨(.int .i64),x1⟩]
noncomputable def bO (x0:List (List UInt8)) (x1:Int):Option d75:=R 122 [⟨(.sl .str),x0⟩,⟨(.int .i64),x1⟩]
noncomputable def A0L (x0:d87) (x1:Int):Option d75:=R 195 [⟨t16,x0⟩,⟨(.int .i64),x1⟩]
noncomputable def Am2 (x0:List d87) (x1:Int):Option d75:=R 123 [⟨(.sl t16),x0⟩,⟨(.int .i64),x1⟩]
noncomputable def dU (x0:d88) (x1:Int):Option d75:=R 61 [⟨t17,x0⟩,⟨(.int .i64),x1⟩]
noncomputable def AJ9 (x0:d89) (x1:Int):Option d75:=R 20 [⟨t18,x0⟩,⟨(.int .i64),x1⟩]
noncomputable def Ai2 (x0:List d77) (x1:Int):Option d75:=R 124 [⟨(.sl t4),x0⟩,⟨(.int .i64),x1⟩]
noncomputable def Al4 (x0:d78) (x1:Int):Option d75:=R 62 [⟨t6,x0⟩,⟨(.int .i64),x1⟩]
noncomputable def AW8 (x0:List d78) (x1:Int):Option d75:=R 21 [⟨(.sl t6),x0⟩,⟨(.int .i64),x1⟩]
noncomputable def dL (x0:d86):Option B4d:=R 66 [⟨t15,x0⟩]
noncomputable def bF (x0:List (List UInt8)):Option B0Q:=R 132 [⟨(.sl .str),x0⟩]
noncomputable def A0I (x0:d87):Option B40:=R 202 [⟨t16,x0⟩]
noncomputable def Ah0 (x0:List d87):Option B4N:=R 133 [⟨(.sl t16),x0⟩]
noncomputable def dY (x0:d88):Option B4h:=R 67 [⟨t17,x0⟩]
noncomputable def AK5 (x0:d89):Option B4j:=R 23 [⟨t18,x0⟩]
noncomputable def A0M (x0:d77):Option B4x:=R 203 [⟨t4,x0⟩]
noncomputable def Al9 (x0:List d77):Option d78:=R 134 [⟨(.sl t4),x0⟩]
noncomputable def Ah3 (x0:d78):Option B4Z:=R 68 [⟨t6,x0⟩]
noncomputable def AY7 (x0:List d78):Option B4O:=R 24 [⟨(.sl t6),x0⟩]
noncomputable def AW6 (x0:List Int):Option d76:=R 11 [⟨t1,x0⟩]
noncomputable def wT (x0 x1 x2:Int):Option d74:=R 102 [⟨(.int .i64),x0⟩,⟨(.int .i64),x1⟩,⟨(.int .i64),x2⟩]
noncomputable def bS (x0:List Int):Option d74:=R 44 [⟨t1,x0⟩]
noncomputable def dD (x0:d86):Option d74:=R 151 [⟨t15,x0⟩]
noncomputable def An5 (x0:Int):Option d74:=R 214 [⟨(.int .i64),x0⟩]
noncomputable def dV (x0:d88):Option d74:=R 152 [⟨t17,x0⟩]
noncomputable def AM4 (x0:d89):Option d74:=R 80 [⟨t18,x0⟩]
noncomputable def A0b (x0:d77):Option d74:=R 262 [⟨t4,x0⟩]
noncomputable def AX0 (x0:d78):Option d74:=R 196 [⟨t6,x0⟩]
noncomputable def AI7 (x0:List d78):Option d74:=R 126 [⟨(.sl t6),x0⟩]
noncomputable def gK (x0:Int):Option jH:=R 312 [⟨(.int .i64),x0⟩]
noncomputable def AD4 (x0 x1 x2:Int):Option jH:=R 264 [⟨(.int .i64),x0⟩,⟨(.int .i64),x1⟩,⟨(.int .i64),x2⟩]
noncomputable def AH3 (x0:List UInt8):Option jH:=R 351 [⟨.str,x0⟩]
noncomputable def AB3 (x0:List UInt8):Option jH:=R 374 [⟨.str,x0⟩]
noncomputable def gO (x0:List UInt8):Option d76:=R 373 [⟨.str,x0⟩]
noncomputable def kG (x0:List Int):Option d76:=R 377 [⟨t59,x0⟩]
noncomputable def gH (x0 x1:List Int):Option d76:=R 375 [⟨t59,x0⟩,⟨t59,x1⟩]
noncomputable def AL6 (x0:List Int):Option d76:=R 376 [⟨t59,x0⟩]
noncomputable def bW (x0 x1:List UInt8):Option jH:=R 350 [⟨.str,x0⟩,⟨.str,x1⟩]
noncomputable def AV0 (x0 x1 x2 x3:List UInt8):Option jH:=R 314 [⟨.str,x0⟩,⟨.str,x1⟩,⟨.str,x2⟩,⟨.str,x3⟩]
noncomputable def gG (x0:List UInt8):Option d74:=R 220 [⟨.str,x0⟩]
noncomputable def qO (x0:d86):Option d75:=R 137 [⟨t15,x0⟩]
noncomputable def dI (x0:d86):Option d74:=R 156 [⟨t15,x0⟩]
noncomputable def iF (x0:List UInt8) (x1:FnVal):Option d74:=R 254 [⟨.str,x0⟩,⟨(.ptr .fn),x1⟩]
noncomputable def wU (x0:List (List UInt8)) (x1:FnVal):Option d75:=R 308 [⟨(.sl .str),x0⟩,⟨.fn,x1⟩]
noncomputable def wA (x0:List (List UInt8)) (x1:FnVal):Option d74:=R 253 [⟨(.sl .str),x0⟩,⟨.fn,x1⟩]
noncomputable def lP (x0:List (List UInt8)) (x1:FnVal):Option d74:=R 185 [⟨(.sl .str),x0⟩,⟨.fn,x1⟩]
noncomputable def fH (x0:List UInt8):Option d74:=R 285 [⟨.str,x0⟩]
noncomputable def fR (x0:d87) (x1:FnVal):Option d74:=R 331 [⟨t16,x0⟩,⟨(.ptr .fn),x1⟩]
noncomputable def vW (x0:List d87) (x1:FnVal):Option d75:=R 363 [⟨(.sl t16),x0⟩,⟨.fn,x1⟩]
noncomputable def wZ (x0:List d87) (x1:FnVal):Option d74:=R 330 [⟨(.sl t16),x0⟩,⟨.fn,x1⟩]
noncomputable def iW (x0:List d87) (x1:FnVal):Option d74:=R 286 [⟨(.sl t16),x0⟩,⟨.fn,x1⟩]
noncomputable def AC8 (x0:Int):Option d74:=R 288 [⟨(.int .i64),x0⟩]
noncomputable def dK (x0:d87):Option d74:=R 287 [⟨t16,x0⟩]
noncomputable def AB6 (x0:d88):Option d74:=R 221 [⟨t17,x0⟩]
noncomputable def AF3 (x0:d88):Option d74:=R 157 [⟨t17,x0⟩]
noncomputable def AK4 (x0:d89):Option d74:=R 82 [⟨t18,x0⟩]
noncomputable def gB (x0:d78) (x1:FnVal):Option d74:=R 270 [⟨t6,x0⟩,⟨(.ptr .fn),x1⟩]
noncomputable def vI (x0:List d78) (x1:FnVal):Option d75:=R 316 [⟨(.sl t6),x0⟩,⟨.fn,x1⟩]
noncomputable def wR (x0:List d78) (x1:FnVal):Option d74:=R 269 [⟨(.sl t6),x0⟩,⟨.fn,x1⟩]
noncomputable def jL (x0:List d78) (x1:FnVal):Option d74:=R 206 [⟨(.sl t6),x0⟩,⟨.fn,x1⟩]
noncomputable def fX (x0:d77) (x1:FnVal):Option d74:=R 318 [⟨t4,x0⟩,⟨(.ptr .fn),x1⟩]
noncomputable def vZ (x0:List d77) (x1:FnVal):Option d75:=R 352 [⟨(.sl t4),x0⟩,⟨.fn,x1⟩]
noncomputable def vA (x0:List d77) (x1:FnVal):Option d74:=R 317 [⟨(.sl t4),x0⟩,⟨.fn,x1⟩]
noncomputable def iX (x0:List d77) (x1:FnVal):Option d74:=R 271 [⟨(.sl t4),x0⟩,⟨.fn,x1⟩]
noncomputable def AX3 (x0:Int):Option d74:=R 319 [⟨(.int .i64),x0⟩]
noncomputable def A0a (x0:d77):Option d74:=R 272 [⟨t4,x0⟩]
noncomputable def Am9 (x0:d78):Option d74:=R 207 [⟨t6,x0⟩]
noncomputable def AH9 (x0:List d78):Option d74:=R 136 [⟨(.sl t6),x0⟩]
noncomputable def AM3 (x0 x1 x2:Int):Option jH:=R 209 [⟨(.int .i64),x0⟩,⟨(.int .i64),x1⟩,⟨(.int .i64),x2⟩]
noncomputable def As6 (x0 x1:List UInt8) (x2:Int) (x3:List UInt8):Option jH:=R 273 [⟨.str,x0⟩,⟨.str,x1⟩,⟨(.int .i64),x2⟩,⟨.str,x3⟩]
noncomputable def AF4 (x0:List UInt8):Option jH:=R 325 [⟨.str,x0⟩]
noncomputable def AK2 (x0:List UInt8):Option jH:=R 356 [⟨.str,x0⟩]
noncomputable def eU (x0:List UInt8):Option d76:=R 355 [⟨.str,x0⟩]
noncomputable def vB (x0:List Int):Option d76:=R 379 [⟨t61,x0⟩]
noncomputable def dC (x0 x1:List Int):Option d76:=R 357 [⟨t61,x0⟩,⟨t61,x1⟩]
noncomputable def fG (x0 x1:List Int):Option d76:=R 358 [⟨t61,x0⟩,⟨t61,x1⟩]
noncomputable def jQ (x0:List Int):Option d76:=R 359 [⟨t61,x0⟩]
noncomputable def fD (x0:List Int) (x1:List UInt8):Option jH:=R 360 [⟨t61,x0⟩,⟨.str,x1⟩]
noncomputable def A1t (x0 x1:List UInt8):Option jH:=R 324 [⟨.str,x0⟩,⟨.str,x1⟩]
noncomputable def AX6 (x0 x1 x2 x3:List UInt8):Option jH:=R 274 [⟨.str,x0⟩,⟨.str,x1⟩,⟨.str,x2⟩,⟨.str,x3⟩]
noncomputable def dM (x0 x1:d86):Option d74:=R 73 [⟨t15,x0⟩,⟨t15,x1⟩]
noncomputable def bA (x0 x1:List (List UInt8)):Option d74:=R 114 [⟨(.sl .str),x0⟩,⟨(.sl .str),x1⟩]
noncomputable def A0F (x0 x1:d87):Option d74:=R 192 [⟨t16,x0⟩,⟨t16,x1⟩]
noncomputable def Am1 (x0 x1:List d87):Option d74:=R 115 [⟨(.sl t16),x0⟩,⟨(.sl t16),x1⟩]
noncomputable def dR (x0 x1:d88):Option d74:=R 49 [⟨t17,x0⟩,⟨t17,x1⟩]
noncomputable def AI2 (x0 x1:d89):Option d74:=R 26 [⟨t18,x0⟩,⟨t18,x1⟩]
noncomputable def A0U (x0 x1:d77):Option d74:=R 212 [⟨t4,x0⟩,⟨t4,x1⟩]
noncomputable def An9 (x0 x1:List d77):Option d74:=R 146 [⟨(.sl t4),x0⟩,⟨(.sl t4),x1⟩]
noncomputable def Ak5 (x0 x1:d78):Option d74:=R 74 [⟨t6,x0⟩,⟨t6,x1⟩]
noncomputable def AY3 (x0 x1:List d78):Option d74:=R 27 [⟨(.sl t6),x0⟩,⟨(.sl t6),x1⟩]
noncomputable def AX5 (x0 x1:List Int):Option d74:=R 14 [⟨t1,x0⟩,⟨t1,x1⟩]
noncomputable def AV4 (x0:List Int):Option B4v:=R 278 [⟨t1,x0⟩]
noncomputable def AL9 (x0:Int) (x1:List UInt8):Option jH:=R 306 [⟨(.int .i64),x0⟩,⟨.str,x1⟩]
noncomputable def bN (x0:List (List UInt8)):Option B0Q:=R 251 [⟨(.sl .str),x0⟩]
noncomputable def AL7 (x0 x1:List UInt8):Option jH:=R 307 [⟨.str,x0⟩,⟨.str,x1⟩]
noncomputable def AD7 (x0:List (List UInt8)):Option B0Q:=R 252 [⟨(.sl .str),x0⟩]
noncomputable def AI4 (x0:List (List UInt8)):Option jH:=R 182 [⟨(.sl .str),x0⟩]
noncomputable def dP (x0:Int) (x1:List UInt8):Option jH:=R 260 [⟨(.int .i64),x0⟩,⟨.str,x1⟩]
noncomputable def A0O (x0 x1:List UInt8):Option jH:=R 261 [⟨.str,x0⟩,⟨.str,x1⟩]
noncomputable def A0T (x0:List (List UInt8)):Option B3H:=R 191 [⟨(.sl .str),x0⟩]
noncomputable def A0Y (x0:List (List UInt8)):Option jH:=R 111 [⟨(.sl .str),x0⟩]
noncomputable def AM8 (x0 x1:d94):Option d74:=R 116 [⟨t23,x0⟩,⟨t23,x1⟩]
noncomputable def AC9 (x0 x1:List d94):Option d74:=R 50 [⟨(.sl t23),x0⟩,⟨(.sl t23),x1⟩]
noncomputable def AN2 (x0 x1:List (List d78)):Option d74:=R 51 [⟨t24,x0⟩,⟨t24,x1⟩]
noncomputable def AD8 (x0 x1:d83):Option d74:=R 88 [⟨t12,x0⟩,⟨t12,x1⟩]
noncomputable def bJ (x0 x1:List d83):Option d74:=R 37 [⟨(.sl t12),x0⟩,⟨(.sl t12),x1⟩]
noncomputable def AK6 (x0 x1:d95):Option d74:=R 13 [⟨t25,x0⟩,⟨t25,x1⟩]
noncomputable def AD9 (x0:List d94) (x1:Int):Option d75:=R 90 [⟨(.sl t23),x0⟩,⟨(.int .i64),x1⟩]
noncomputable def AK8 (x0:List (List d78)) (x1:Int):Option d75:=R 91 [⟨t24,x0⟩,⟨(.int .i64),x1⟩]
noncomputable def AX4 (x0:List Int) (x1:Int):Option d75:=R 230 [⟨t1,x0⟩,⟨(.int .i64),x1⟩]
noncomputable def AC1 (x0:d83) (x1:Int):Option d75:=R 163 [⟨t12,x0⟩,⟨(.int .i64),x1⟩]
noncomputable def bC (x0:List d83) (x1:Int):Option d75:=R 92 [⟨(.sl t12),x0⟩,⟨(.int .i64),x1⟩]
noncomputable def AJ8 (x0:d95) (x1:Int):Option d75:=R 40 [⟨t25,x0⟩,⟨(.int .i64),x1⟩]
noncomputable def AJ0 (x0:d94):Option B43:=R 168 [⟨t23,x0⟩]
noncomputable def AD5 (x0:List d94):Option Bj0:=R 95 [⟨(.sl t23),x0⟩]
noncomputable def AM6 (x0:List (List d78)):Option B4X:=R 96 [⟨t24,x0⟩]
noncomputable def AD0 (x0:d83):Option B4i:=R 169 [⟨t12,x0⟩]
noncomputable def bU (x0:List d83):Option B4F:=R 97 [⟨(.sl t12),x0⟩]
noncomputable def eG (x0:d95):Option B44:=R 42 [⟨t25,x0⟩]
noncomputable def Am4 (x0:List d94):Option d74:=R 164 [⟨(.sl t23),x0⟩]
noncomputable def nP (x0:d83):Option d74:=R 231 [⟨t12,x0⟩]
noncomputable def nE (x0:List d83):Option d74:=R 165 [⟨(.sl t12),x0⟩]
noncomputable def AK7 (x0:d95):Option d74:=R 93 [⟨t25,x0⟩]
noncomputable def AN1 (x0:d88) (x1:Int):Option jH:=R 215 [⟨t17,x0⟩,⟨(.int .i64),x1⟩]
noncomputable def AB8 (x0 x1:List UInt8):Option d74:=R 326 [⟨.str,x0⟩,⟨.str,x1⟩]
noncomputable def eE (x0 x1 x2 x3:List UInt8):Option B3L:=R 276 [⟨.str,x0⟩,⟨.str,x1⟩,⟨.str,x2⟩,⟨.str,x3⟩]
noncomputable def hP (x0:List UInt8) (x1 x2 x3:Int) (x4:List UInt8):Option B3L:=R 216 [⟨.str,x0⟩,⟨(.int .i64),x1⟩,⟨(.int .i64),x2⟩,⟨(.int .i64),x3⟩,⟨.str,x4⟩]
noncomputable def bQ (x0:List UInt8):Option B4L:=R 327 [⟨.str,x0⟩]
noncomputable def AU1 (x0:List Int) (x1:Int):Option d74:=R 284 [⟨t1,x0⟩,⟨(.int .i64),x1⟩]
noncomputable def dX (x0:d79) (x1:d77) (x2:List Int):Option d74:=R 328 [⟨t8,x0⟩,⟨t4,x1⟩,⟨t1,x2⟩]
noncomputable def AL8 (x0:Int):Option d76:=R 362 [⟨(.int .i64),x0⟩]
noncomputable def Aj9 (x0 x1:Int):Option d74:=R 329 [⟨(.int .i64),x0⟩,⟨(.int .i64),x1⟩]
noncomputable def AV2 (x0:d79):Option d74:=R 283 [⟨t8,x0⟩]
noncomputable def AT3 (x0:d82):Option d74:=R 219 [⟨t11,x0⟩]
noncomputable def bK (x0:List d77):Option d74:=R 282 [⟨(.sl t4),x0⟩]
noncomputable def AC6 (x0:d79) (x1:Int):Option d75:=R 233 [⟨t8,x0⟩,⟨(.int .i64),x1⟩]
noncomputable def AY1 (x0:List d94) (x1 x2:Int):Option Bj0:=R 232 [⟨(.sl t23),x0⟩,⟨(.int .i64),x1⟩,⟨(.int .i64),x2⟩]
noncomputable def AW3 (x0:d82):Option Bj0:=R 166 [⟨t11,x0⟩]
noncomputable def AC0 (x0:Int):Option jH:=R 295 [⟨(.int .i64),x0⟩]
noncomputable def mW (x0:Int):Option jH:=R 296 [⟨(.int .i64),x0⟩]
noncomputable def aT (x0:d83):Option jH:=R 234 [⟨t12,x0⟩]
noncomputable def dA (x0 x1:List d83):Option d74:=R 167 [⟨(.sl t12),x0⟩,⟨(.sl t12),x1⟩]
noncomputable def An8 (x0:List d94):Option d74:=R 170 [⟨(.sl t23),x0⟩]
noncomputable def kA (x0:List d78) (x1:FnVal):Option d74:=R 237 [⟨(.sl t6),x0⟩,⟨(.ptr .fn),x1⟩]
noncomputable def wJ (x0:List (List d78)) (x1:FnVal):Option d75:=R 297 [⟨t24,x0⟩,⟨.fn,x1⟩]
noncomputable def xP (x0:List (List d78)) (x1:FnVal):Option d74:=R 236 [⟨t24,x0⟩,⟨.fn,x1⟩]
noncomputable def mY (x0:List (List d78)) (x1:FnVal):Option d74:=R 171 [⟨t24,x0⟩,⟨.fn,x1⟩]
noncomputable def lL (x0:d83) (x1:FnVal):Option d74:=R 299 [⟨t12,x0⟩,⟨(.ptr .fn),x1⟩]
noncomputable def xW (x0:List d83) (x1:FnVal):Option d75:=R 338 [⟨(.sl t12),x0⟩,⟨.fn,x1⟩]
noncomputable def xH (x0:List d83) (x1:FnVal):Option d74:=R 298 [⟨(.sl t12),x0⟩,⟨.fn,x1⟩]
noncomputable def nL (x0:List d83) (x1:FnVal):Option d74:=R 238 [⟨(.sl t12),x0⟩,⟨.fn,x1⟩]
noncomputable def aD (x0:Int):Option d74:=R 300 [⟨(.int .i64),x0⟩]
noncomputable def gJ (x0:d83):Option d74:=R 239 [⟨t12,x0⟩]
noncomputable def nF (x0:List d83):Option d74:=R 172 [⟨(.sl t12),x0⟩]
noncomputable def AI0 (x0:d95):Option d74:=R 98 [⟨t25,x0⟩]
noncomputable def jU (x0:d89):Option B0Q:=R 158 [⟨t18,x0⟩]
noncomputable def AY5 (x0 x1 x2 x3:List UInt8):Option B3L:=R 222 [⟨.str,x0⟩,⟨.str,x1⟩,⟨.str,x2⟩,⟨.str,x3⟩]
noncomputable def eS (x0:List UInt8) (x1 x2 x3:Int) (x4:List UInt8):Option B3L:=R 159 [⟨.str,x0⟩,⟨(.int .i64),x1⟩,⟨(.int .i64),x2⟩,⟨(.int .i64),x3⟩,⟨.str,x4⟩]
noncomputable def AB5 (x0:List UInt8):Option d76:=R 289 [⟨.str,x0⟩]
noncomputable def A1n (x0:d82):Option d74:=R 162 [⟨t11,x0⟩]
noncomputable def xV (x0:List d94) (x1:Int) (x2:FnVal):Option B3q:=R 240 [⟨(.sl t23),x0⟩,⟨(.int .i64),x1⟩,⟨.fn,x2⟩]
noncomputable def Ar8 (x0:d94) (x1:Int):Option d75:=R 241 [⟨t23,x0⟩,⟨(.int .i64),x1⟩]
noncomputable def A0W (x0:List d94) (x1:Int):Option B3q:=R 173 [⟨(.sl t23),x0⟩,⟨(.int .i64),x1⟩]
noncomputable def oC (x0:List d94) (x1:Int) (x2:List d94):Option Bj0:=R 174 [⟨(.sl t23),x0⟩,⟨(.int .i64),x1⟩,⟨(.sl t23),x2⟩]
noncomputable def vH (x0 x1:List d94):Option d74:=R 99 [⟨(.sl t23),x0⟩,⟨(.sl t23),x1⟩]
noncomputable def zZ (x0 x1:List d83) (x2:FnVal):Option d74:=R 176 [⟨(.sl t12),x0⟩,⟨(.sl t12),x1⟩,⟨.fn,x2⟩]
noncomputable def rW (x0 x1:List Int):Option d74:=R 178 [⟨t1,x0⟩,⟨t1,x1⟩]
noncomputable def iA (x0 x1:d83):Option d74:=R 177 [⟨t12,x0⟩,⟨t12,x1⟩]
noncomputable def gS (x0 x1:List d83):Option d74:=R 101 [⟨(.sl t12),x0⟩,⟨(.sl t12),x1⟩]
noncomputable def rC (v0:List Int) (v1:FnVal) (v4 v7 v8:Int) (p:List Nat:=[1,0,1,0]):Option d75:=zN EE R L 315 A5 p (mk 19 [(0,.dat ⟨t1,v0,.sh⟩),(1,.dat ⟨.fn,v1,.sh⟩),(4,.dat ⟨(.int .i64),v4,.sh⟩),(7,.dat ⟨(.int .i64),v7,.sh⟩),(8,.dat ⟨(.int .i64),v8,.sh⟩)])
noncomputable def zV (v0:List Int) (v1:FnVal) (v4 v5 v7 v8:Int) (p:List Nat:=[1,0,1,0]):Option d75:=zN EE R L 315 A5 p (mk 19 [(0,.dat ⟨t1,v0,.sh⟩),(1,.dat ⟨.fn,v1,.sh⟩),(4,.dat ⟨(.int .i64),v4,.sh⟩),(5,.dat ⟨(.int .i64),v5,.sh⟩),(7,.dat ⟨(.int .i64),v7,.sh⟩),(8,.dat ⟨(.int .i64),v8,.sh⟩)])
noncomputable def fN (v3:List Int) (v4:Int) (p:List Nat:=[1,1,1,0]):Option d76:=zN EE R L 336 Go.Proofs.Tryz.f336 p (mk 19 [(3,.dat ⟨t1,v3,(.own .sh)⟩),(4,.dat ⟨(.int .i64),v4,.sh⟩)])
noncomputable def wC (v0:List Int) (v1 v7 v8:Int) (p:List Nat:=[1,0,1,0]):Option d75:=zN EE R L 365 Go.Proofs.Tryz.f365 p (mk 19 [(0,.dat ⟨t1,v0,.sh⟩),(1,.dat ⟨(.int .i64),v1,.sh⟩),(7,.dat ⟨(.int .i64),v7,.sh⟩),(8,.dat ⟨(.int .i64),v8,.sh⟩)])
noncomputable def zL (v0:List d77) (v1:FnVal) (v7 v8:Int) (p:List Nat:=[1,0,1,0]):Option d75:=zN EE R L 364 Go.Proofs.Tryz.f364 p (mk 19 [(0,.dat ⟨(.sl t4),v0,.sh⟩),(1,.dat ⟨.fn,v1,.sh⟩),(7,.dat ⟨(.int .i64),v7,.sh⟩),(8,.dat ⟨(.int .i64),v8,.sh⟩)])
noncomputable def mX (v1:d79) (v25:List (List d77)) (v26 v27:Int) (p:List Nat:=[1,1,0,1,0]):Option d74:=zN EE R L 229 A6 p (mk 73 [(1,.dat ⟨(.ptr t8),v1,(.own .sh)⟩),(25,.dat ⟨t7,v25,.sh⟩),(26,.dat ⟨(.int .i64),v26,.sh⟩),(27,.dat ⟨(.int .i64),v27,.sh⟩)])
noncomputable def jI (v1:d79) (v5:List Bool) (v43:List d77) (v44 v45:Int) (p:List Nat:=[1,1,1,1,0,1,0]):Option d74:=zN EE R L 229 A6 p (mk 73 [(1,.dat ⟨(.ptr t8),v1,(.own .sh)⟩),(5,.dat ⟨(.ptr B4k),v5,(.own .sh)⟩),(43,.dat ⟨(.sl t4),v43,(.own .sh)⟩),(44,.dat ⟨(.int .i64),v44,.sh⟩),(45,.dat ⟨(.int .i64),v45,.sh⟩)])
noncomputable def oJ (v2:d82) (v5:d80) (v7:d82) (v8:List d83) (v23 v24:Int) (p:List Nat:=[1,1,1,1,1,0,1,0]):Option d84:=zN EE R L 160 Go.Proofs.Tryz.f160 p (mk 54 [(2,.dat ⟨(.ptr t11),v2,(.own (.pr (.own .sh) (.pr (.pr (.own .sh) (.pr (.own .sh) (.pr (.own .sh) .sh))) .sh)))⟩),(5,.dat ⟨(.ptr t9),v5,(.own (.pr (.own .sh) .sh))⟩),(7,.dat ⟨(.ptr t11),v7,(.own (.pr (.own .sh) (.pr (.pr (.own .sh) (.pr (.own .sh) (.pr (.own (.own .sh)) .sh))) .sh)))⟩),(8,.dat ⟨(.sl t12),v8,(.own (.pr .sh (.pr (.own .sh) .sh)))⟩),(23,.dat ⟨(.int .i64),v23,.sh⟩),(24,.dat ⟨(.int .i64),v24,.sh⟩)])
noncomputable def qM (v1:d89) (v2:d82) (v5:List (List UInt8)) (v6:Int) (v9:d82) (v10:List d83) (v59 v60:Int) (p:List Nat:=[1,1,1,1,1,1,1,0,1,0]):Option d84:=zN EE R L 83 Go.Proofs.Tryz.f83 p (mk 104 [(1,.dat ⟨(.ptr t18),v1,(.own .sh)⟩),(2,.dat ⟨(.ptr t11),v2,(.own (.pr (.own .sh) (.pr (.pr (.own .sh) (.pr (.own .sh) (.pr (.own .sh) .sh))) .sh)))⟩),(5,.dat ⟨(.sl .str),v5,.sh⟩),(6,.dat ⟨(.int .i64),v6,.sh⟩),(9,.dat ⟨(.ptr t11),v9,(.own (.pr (.own .sh) (.pr (.pr (.own .sh) (.pr (.own .sh) (.pr (.own (.own .sh)) .sh))) .sh)))⟩),(10,.dat ⟨(.sl t12),v10,(.own (.pr .sh (.pr (.own .sh) .sh)))⟩),(59,.dat ⟨(.int .i64),v59,.sh⟩),(60,.dat ⟨(.int .i64),v60,.sh⟩)])
noncomputable def vC (v2:d82) (v5:d97) (v6:d82) (v7:Int) (p:List Nat:=[1,1,1,0,1,0]):Option d84:=zN EE R L 217 As p (mk 107 [(2,.dat ⟨(.ptr t11),v2,(.own (.pr (.own .sh) (.pr (.pr (.own .sh) (.pr (.own .sh) (.pr (.own .sh) .sh))) .sh)))⟩),(5,.dat ⟨(.ptr t27),v5,(.own (.pr (.own .sh) .sh))⟩),(6,.dat ⟨(.ptr t11),v6,(.own (.pr (.own .sh) (.pr (.pr (.own .sh) (.pr (.own .sh) (.pr (.own (.own .sh)) .sh))) .sh)))⟩),(7,.dat ⟨(.int .i64),v7,.sh⟩)])
noncomputable def tF (v2:d82) (v5:d97) (v6:d82) (v8:Int) (p:List Nat:=[1,1,1,1,0,1,0]):Option d84:=zN EE R L 217 As p (mk 107 [(2,.dat ⟨(.ptr t11),v2,(.own (.pr (.own .sh) (.pr (.pr (.own .sh) (.pr (.own .sh) (.pr (.own .sh) .sh))) .sh)))⟩),(5,.dat ⟨(.ptr t27),v5,(.own (.pr (.own .sh) .sh))⟩),(6,.dat ⟨(.ptr t11),v6,(.own (.pr (.own .sh) (.pr (.pr (.own .sh) (.pr (.own .sh) (.pr (.own (.own .sh)) .sh))) .sh)))⟩),(8,.dat ⟨(.int .i64),v8,.sh⟩)])
noncomputable def yZ (v2:d82) (v5:d97) (v6:d82) (v10:Int) (p:List Nat:=[1,1,1,1,1,0,1,0]):Option d84:=zN EE R L 217 As p (mk 107 [(2,.dat ⟨(.ptr t11),v2,(.own (.pr (.own .sh) (.pr (.pr (.own .sh) (.pr (.own .sh) (.pr (.own .sh) .sh))) .sh)))⟩),(5,.dat ⟨(.ptr t27),v5,(.own (.pr (.own .sh) .sh))⟩),(6,.dat ⟨(.ptr t11),v6,(.own (.pr (.own .sh) (.pr (.pr (.own .sh) (.pr (.own .sh) (.pr (.own (.own .sh)) .sh))) .sh)))⟩),(10,.dat ⟨(.int .i64),v10,.sh⟩)])
noncomputable def rM (v2:d82) (v5:d97) (v6:d82) (v11:List d83) (v12:Int) (p:List Nat:=[1,1,1,1,1,1,1,0,1,0]):Option d84:=zN EE R L 217 As p (mk 107 [(2,.dat ⟨(.ptr t11),v2,(.own (.pr (.own .sh) (.pr (.pr (.own .sh) (.pr (.own .sh) (.pr (.own .sh) .sh))) .sh)))⟩),(5,.dat ⟨(.ptr t27),v5,(.own (.pr (.own .sh) .sh))⟩),(6,.dat ⟨(.ptr t11),v6,(.own (.pr (.own .sh) (.pr (.pr (.own .sh) (.pr (.own .sh) (.pr (.own (.own .sh)) .sh))) .sh)))⟩),(11,.dat ⟨(.sl t12),v11,(.own (.pr .sh (.pr (.own .sh) .sh)))⟩),(12,.dat ⟨(.int .i64),v12,.sh⟩)])
noncomputable def uW (v2:d82) (v5:d97) (v6:d82) (v11:List d83) (v12:Int) (v13:d83) (v14:Int) (p:List Nat:=[1,1,1,1,1,1,1,0,1,0,0,1,0,0,1,0,1,0]):Option d84:=zN EE R L 217 As p (mk 107 [(2,.dat ⟨(.ptr t11),v2,(.own (.pr (.own .sh) (.pr (.pr (.own .sh) (.pr (.own .sh) (.pr (.own .sh) .sh))) .sh)))⟩),(5,.dat ⟨(.ptr t27),v5,(.own (.pr (.own .sh) .sh))⟩),(6,.dat ⟨(.ptr t11),v6,(.own (.pr (.own .sh) (.pr (.pr (.own .sh) (.pr (.own .sh) (.pr (.own (.own .sh)) .sh))) .sh)))⟩),(11,.dat ⟨(.sl t12),v11,(.own (.pr .sh (.pr (.own .sh) .sh)))⟩),(12,.dat ⟨(.int .i64),v12,.sh⟩),(13,.dat ⟨(.ptr t12),v13,(.own (.pr .sh (.pr (.own .sh) .sh)))⟩),(14,.dat ⟨(.int .i64),v14,.sh⟩)])
noncomputable def pD (v1:d89) (v2:d82) (v5:List (List UInt8)) (v6:Int) (p:List Nat:=[1,1,0,1,0]):Option d84:=zN EE R L 153 A7 p (mk 120 [(1,.dat ⟨(.ptr t18),v1,(.own .sh)⟩),(2,.dat ⟨(.ptr t11),v2,(.own (.pr (.own .sh) (.pr (.pr (.own .sh) (.pr (.own .sh) (.pr (.own .sh) .sh))) .sh)))⟩),(5,.dat ⟨(.sl .str),v5,(.own .sh)⟩),(6,.dat ⟨(.int .i64),v6,.sh⟩)])
noncomputable def lJ (v1:d89) (v2:d82) (v5:List (List UInt8)) (v9:d82) (v10:List d83) (v12:Int) (p:List Nat:=[1,1,1,1,1,1,1,0,1,0]):Option d84:=zN EE R L 153 A7 p (mk 120 [(1,.dat ⟨(.ptr t18),v1,(.own .sh)⟩),(2,.dat ⟨(.ptr t11),v2,(.own (.pr (.own .sh) (.pr (.pr (.own .sh) (.pr (.own .sh) (.pr (.own .sh) .sh))) .sh)))⟩),(5,.dat ⟨(.sl .str),v5,(.own .sh)⟩),(9,.dat ⟨(.ptr t11),v9,(.own (.pr (.own .sh) (.pr (.pr (.own .sh) (.pr (.own .sh) (.pr (.own (.own .sh)) .sh))) .sh)))⟩),(10,.dat ⟨(.sl t12),v10,(.own (.pr .sh (.pr (.own .sh) .sh)))⟩),(12,.dat ⟨(.int .i64),v12,.sh⟩)])
noncomputable def vD (v0:d80) (v2 v3:Int) (v9:List Int) (v10 v11:Int) (p:List Nat:=[1,1,0,1,0]):Option d92:=zN EE R L 224 Go.Proofs.Tryz.f224 p (mk 22 [(0,.dat ⟨(.ptr t9),v0,(.pin 0 (.own (.pr (.own .sh) .sh)))⟩),(2,.dat ⟨(.int .i64),v2,.sh⟩),(3,.dat ⟨(.int .i64),v3,.sh⟩),(9,.dat ⟨t1,v9,(.own .sh)⟩),(10,.dat ⟨(.int .i64),v10,.sh⟩),(11,.dat ⟨(.int .i64),v11,.sh⟩)])
noncomputable def vK (v0:d80) (v5:List d77) (v8 v9:Int) (p:List Nat:=[1,1,0,1,0]):Option d93:=zN EE R L 225 Go.Proofs.Tryz.f225 p (mk 23 [(0,.dat ⟨(.ptr t9),v0,(.pin 0 (.own (.pr (.own .sh) .sh)))⟩),(5,.dat ⟨(.sl t4),v5,(.own .sh)⟩),(8,.dat ⟨(.int .i64),v8,.sh⟩),(9,.dat ⟨(.int .i64),v9,.sh⟩)])
noncomputable def xF (v0:d97) (v3:Int) (p:List Nat:=[1,0,1,0]):Option B4T:=zN EE R L 281 Go.Proofs.Tryz.f281 p (mk 35 [(0,.dat ⟨(.ptr t27),v0,(.pin 0 (.own (.pr (.own .sh) .sh)))⟩),(3,.dat ⟨(.int .i64),v3,.sh⟩)])
noncomputable def uE (v4:d97) (v5:List d77) (v6:Int) (p:List Nat:=[1,1,1,0,1,0]):Option d85:=zN EE R L 218 Go.Proofs.Tryz.f218 p (mk 37 [(4,.dat ⟨(.ptr t27),v4,(.own (.pr (.own .sh) .sh))⟩),(5,.dat ⟨(.sl t4),v5,(.own .sh)⟩),(6,.dat ⟨(.int .i64),v6,.sh⟩)])
noncomputable def qF (v1:d95) (v4:List d83) (v6:List d94) (v7:Int) (p:List Nat:=[1,1,1,1,1,0,1,0]):Option d74:=zN EE R L 94 Go.Proofs.Tryz.f94 p (mk 52 [(1,.dat ⟨(.ptr t25),v1,(.own .sh)⟩),(4,.dat ⟨(.sl t12),v4,(.own (.pr .sh (.pr (.own .sh) .sh)))⟩),(6,.dat ⟨(.sl t23),v6,(.own .sh)⟩),(7,.dat ⟨(.int .i64),v7,.sh⟩)])
noncomputable def rJ (v1:Int) (v8:List d77) (v9 v10:Int) (p:List Nat:=[1,0,1,0]):Option d75:=zN EE R L 175 Go.Proofs.Tryz.f175 p (mk 21 [(1,.dat ⟨(.int .i64),v1,.sh⟩),(8,.dat ⟨(.sl t4),v8,(.own .sh)⟩),(9,.dat ⟨(.int .i64),v9,.sh⟩),(10,.dat ⟨(.int .i64),v10,.sh⟩)])
noncomputable def sH (v1:d82) (v3:List d94) (v9:List Int) (v10 v11:Int) (p:List Nat:=[1,1,0,1,0]):Option Bj0:=zN EE R L 100 Go.Proofs.Tryz.f100 p (mk 36 [(1,.dat ⟨(.ptr t11),v1,(.own .sh)⟩),(3,.dat ⟨(.sl t23),v3,(.own .sh)⟩),(9,.dat ⟨t1,v9,.sh⟩),(10,.dat ⟨(.int .i64),v10,.sh⟩),(11,.dat ⟨(.int .i64),v11,.sh⟩)])
noncomputable def tY (v1:List UInt8) (v2 v4 v5:List Int) (v6:Int) (p:List Nat:=[1,1,0,1,0]):Option d76:=zN EE R L 304 Av p (mk 194 [(1,.dat ⟨.str,v1,.sh⟩),(2,.dat ⟨(.ptr t34),v2,(.own .sh)⟩),(4,.dat ⟨(.ptr t34),v4,(.own .sh)⟩),(5,.dat ⟨(.ptr t38),v5,(.own .sh)⟩),(6,.dat ⟨(.int .i64),v6,.sh⟩)])
noncomputable def wM (v2 v4 v5:List Int) (v7:Int) (p:List Nat:=[1,1,1,0,1,0]):Option d76:=zN EE R L 304 Av p (mk 194 [(2,.dat ⟨(.ptr t34),v2,(.own .sh)⟩),(4,.dat ⟨(.ptr t34),v4,(.own .sh)⟩),(5,.dat ⟨(.ptr t38),v5,(.own .sh)⟩),(7,.dat ⟨(.int .i64),v7,.sh⟩)])
noncomputable def wV (v2 v4 v5 v10 v11:List Int) (v12:Int) (p:List Nat:=[1,1,1,1,1,1,0,1,0]):Option d76:=zN EE R L 304 Av p (mk 194 [(2,.dat ⟨(.ptr t34),v2,(.own .sh)⟩),(4,.dat ⟨(.ptr t34),v4,(.own .sh)⟩),(5,.dat ⟨(.ptr t38),v5,(.own .sh)⟩),(10,.dat ⟨(.ptr t38),v10,(.own .sh)⟩),(11,.dat ⟨(.ptr t34),v11,(.own .sh)⟩),(12,.dat ⟨(.int .i64),v12,.sh⟩)])
noncomputable def vR (v2 v4 v11:List Int) (v18:Int) (p:List Nat:=[1,1,1,1,1,1,1,0,1,0]):Option d76:=zN EE R L 304 Av p (mk 194 [(2,.dat ⟨(.ptr t34),v2,(.own .sh)⟩),(4,.dat ⟨(.ptr t34),v4,(.own .sh)⟩),(11,.dat ⟨(.ptr t34),v11,(.own .sh)⟩),(18,.dat ⟨(.int .i64),v18,.sh⟩)])
noncomputable def nC (v2 v4:AT4) (p:List Nat:=[1,1,1,0,0]):Option BO0:=zN EE R L 249 Go.Proofs.Tryz.f249 p (mk 31 [(2,.dat ⟨(.ptr t36),v2,(.own .sh)⟩),(4,.dat ⟨(.ptr t36),v4,(.own .sh)⟩)])
noncomputable def mV (v1:AT4) (v3:Int) (v4:List Int) (p:List Nat:=[1,1,1,0,0]):Option jH:=zN EE R L 248 Aw p (mk 61 [(1,.dat ⟨(.ptr t36),v1,(.own .sh)⟩),(3,.dat ⟨(.int .i64),v3,.sh⟩),(4,.dat ⟨t32,v4,(.own .sh)⟩)])
noncomputable def uR (v1:AT4) (v3:Int) (v4:List Int) (v5:Int) (p:List Nat:=[1,1,1,1,0,1,0]):Option jH:=zN EE R L 248 Aw p (mk 61 [(1,.dat ⟨(.ptr t36),v1,(.own .sh)⟩),(3,.dat ⟨(.int .i64),v3,.sh⟩),(4,.dat ⟨t32,v4,(.own .sh)⟩),(5,.dat ⟨(.int .i64),v5,.sh⟩)])
noncomputable def uS (v1:AT4) (v6:List Int) (v7:Int) (p:List Nat:=[1,1,1,1,1,1,1,0,1,0]):Option jH:=zN EE R L 248 Aw p (mk 61 [(1,.dat ⟨(.ptr t36),v1,(.own .sh)⟩),(6,.dat ⟨t32,v6,(.own .sh)⟩),(7,.dat ⟨(.int .i64),v7,.sh⟩)])
noncomputable def rR (v1:AT4) (v6:List Int) (v7 v8:Int) (p:List Nat:=[1,1,1,1,1,1,1,0,1,0,0,1,0,0,1,0]):Option jH:=zN EE R L 248 Aw p (mk 61 [(1,.dat ⟨(.ptr t36),v1,(.own .sh)⟩),(6,.dat ⟨t32,v6,(.own .sh)⟩),(7,.dat ⟨(.int .i64),v7,.sh⟩),(8,.dat ⟨(.int .i64),v8,.sh⟩)])
noncomputable def xU (v0:AT4) (v1:List UInt8) (v2 v6:List Int) (v25:Int) (p:List Nat:=[1,0,1,0]):Option BO0:=zN EE R L 310 At p (mk 215 [(0,.dat ⟨(.ptr t36),v0,(.pin 0 (.own .sh))⟩),(1,.dat ⟨.str,v1,.sh⟩),(2,.dat ⟨(.ptr t41),v2,.sh⟩),(6,.dat ⟨(.ptr t41),v6,(.own .sh)⟩),(25,.dat ⟨(.int .i64),v25,.sh⟩)])
noncomputable def yD (v0:AT4) (v2 v6:List Int) (v8:Int) (p:List Nat:=[1,1,0,1,0]):Option BO0:=zN EE R L 310 At p (mk 215 [(0,.dat ⟨(.ptr t36),v0,(.pin 0 (.own .sh))⟩),(2,.dat ⟨(.ptr t41),v2,.sh⟩),(6,.dat ⟨(.ptr t41),v6,(.own .sh)⟩),(8,.dat ⟨(.int .i64),v8,.sh⟩)])
noncomputable def yG (v0:AT4) (v2 v6 v11 v104:List Int) (v105:Int) (p:List Nat:=[1,1,1,1,0,1,0]):Option BO0:=zN EE R L 310 At p (mk 215 [(0,.dat ⟨(.ptr t36),v0,(.pin 0 (.own .sh))⟩),(2,.dat ⟨(.ptr t41),v2,.sh⟩),(6,.dat ⟨(.ptr t41),v6,(.own .sh)⟩),(11,.dat ⟨(.ptr B3v),v11,(.own .sh)⟩),(104,.dat ⟨t34,v104,.sh⟩),(105,.dat ⟨(.int .i64),v105,.sh⟩)])
noncomputable def yR (v0:AT4) (v2 v6 v11:List Int) (v114:Int) (p:List Nat:=[1,1,1,1,1,0,1,0]):Option BO0:=zN EE R L 310 At p (mk 215 [(0,.dat ⟨(.ptr t36),v0,(.pin 0 (.own .sh))⟩),(2,.dat ⟨(.ptr t41),v2,.sh⟩),(6,.dat ⟨(.ptr t41),v6,(.own .sh)⟩),(11,.dat ⟨(.ptr B3v),v11,(.own .sh)⟩),(114,.dat ⟨(.int .i64),v114,.sh⟩)])
noncomputable def yV (v0:AT4) (v194:List Int) (v195:Int) (p:List Nat:=[1,1,1,1,1,1,1,0]):Option BO0:=zN EE R L 310 At p (mk 215 [(0,.dat ⟨(.ptr t36),v0,(.pin 0 (.own .sh))⟩),(194,.dat ⟨B3v,v194,.sh⟩),(195,.dat ⟨(.int .i64),v195,.sh⟩)])
noncomputable def qN (v1:List UInt8) (v2 v4:AT4) (v5:List Int) (p:List Nat:=[1,1,1,1,0,0]):Option BO0:=zN EE R L 258 Go.Proofs.Tryz.f258 p (mk 28 [(1,.dat ⟨.str,v1,.sh⟩),(2,.dat ⟨(.ptr t36),v2,(.own .sh)⟩),(4,.dat ⟨(.ptr t36),v4,(.own .sh)⟩),(5,.dat ⟨(.ptr t41),v5,(.own .sh)⟩)])
noncomputable def wY (v1:AT4) (v3:Int) (v4:List UInt8) (v5:Int) (p:List Nat:=[1,1,1,0,1,0]):Option jH:=zN EE R L 259 A8 p (mk 56 [(1,.dat ⟨(.ptr t36),v1,(.own .sh)⟩),(3,.dat ⟨(.int .i64),v3,.sh⟩),(4,.dat ⟨.str,v4,.sh⟩),(5,.dat ⟨(.int .i64),v5,.sh⟩)])
noncomputable def uJ (v6 v35:List Int) (v36:Int) (p:List Nat:=[1,1,1,1,1,0,1,0]):Option jH:=zN EE R L 259 A8 p (mk 56 [(6,.dat ⟨t32,v6,(.own .sh)⟩),(35,.dat ⟨t34,v35,.sh⟩),(36,.dat ⟨(.int .i64),v36,.sh⟩)])
noncomputable def qV (v0:Int) (v5:List Int) (v7 v8:Int) (p:List Nat:=[1,1,0,1,0]):Option jH:=zN EE R L 139 Go.Proofs.Tryz.f139 p (mk 22 [(0,.dat ⟨(.int .i64),v0,.sh⟩),(5,.dat ⟨t32,v5,(.own .sh)⟩),(7,.dat ⟨(.int .i64),v7,.sh⟩),(8,.dat ⟨(.int .i64),v8,.sh⟩)])
noncomputable def rX (v0 v1 v2 v3:Int) (v16:List (List Int)) (v17:Int) (p:List Nat:=[1,0,1,0]):Option B4Q:=zN EE R L 354 Go.Proofs.Tryz.f354 p (mk 43 [(0,.dat ⟨(.int .u32),v0,.sh⟩),(1,.dat ⟨(.int .u32),v1,.sh⟩),(2,.dat ⟨(.int .u32),v2,.sh⟩),(3,.dat ⟨(.int .u32),v3,.sh⟩),(16,.dat ⟨B4s,v16,.sh⟩),(17,.dat ⟨(.int .i64),v17,.sh⟩)])
noncomputable def rQ (v7:List UInt8) (v8 v9:List Int) (v25:Int) (p:List Nat:=[1,1,1,0,1,0]):Option jH:=zN EE R L 322 Au p (mk 111 [(7,.dat ⟨.str,v7,.sh⟩),(8,.dat ⟨(.ptr Bi3),v8,(.own .sh)⟩),(9,.dat ⟨(.ptr Bi3),v9,(.own .sh)⟩),(25,.dat ⟨(.int .i64),v25,.sh⟩)])
noncomputable def sF (v8 v9:List Int) (v41:Int) (p:List Nat:=[1,1,1,1,0,1,0]):Option jH:=zN EE R L 322 Au p (mk 111 [(8,.dat ⟨(.ptr Bi3),v8,(.own .sh)⟩),(9,.dat ⟨(.ptr Bi3),v9,(.own .sh)⟩),(41,.dat ⟨(.int .i64),v41,.sh⟩)])
noncomputable def jJ (v8 v9:List Int) (v41 v43:Int) (p:List Nat:=[1,1,1,1,0,1,0,0,1,1,0,0,1,0]):Option jH:=zN EE R L 322 Au p (mk 111 [(8,.dat ⟨(.ptr Bi3),v8,(.own .sh)⟩),(9,.dat ⟨(.ptr Bi3),v9,(.own .sh)⟩),(41,.dat ⟨(.int .i64),v41,.sh⟩),(43,.dat ⟨(.int .i64),v43,.sh⟩)])
noncomputable def tP (v8 v9:List Int) (v16:List UInt8) (v95:Int) (p:List Nat:=[1,1,1,1,1,1,0,1,0]):Option jH:=zN EE R L 322 Au p (mk 111 [(8,.dat ⟨(.ptr Bi3),v8,(.own .sh)⟩),(9,.dat ⟨(.ptr Bi3),v9,(.own .sh)⟩),(16,.dat ⟨.str,v16,.sh⟩),(95,.dat ⟨(.int .i64),v95,.sh⟩)])
noncomputable def qS (v8 v9:List Int) (v11 v41 v43 v46:Int) (p:List Nat:=[1,1,1,1,0,1,0,0,1,1,0,0,1,0,0,1,1,0,0,1,1,0]):Option jH:=zN EE R L 322 Au p (mk 111 [(8,.dat ⟨(.ptr Bi3),v8,(.own .sh)⟩),(9,.dat ⟨(.ptr Bi3),v9,(.own .sh)⟩),(11,.dat ⟨(.int .i64),v11,.sh⟩),(41,.dat ⟨(.int .i64),v41,.sh⟩),(43,.dat ⟨(.int .i64),v43,.sh⟩),(46,.dat ⟨(.int .i64),v46,.sh⟩)])
noncomputable def tW (v0 v1:List UInt8) (v2:Int) (v7:List Int) (v8:Int) (p:List Nat:=[1,1,0,1,0]):Option jH:=zN EE R L 349 Ap p (mk 105 [(0,.dat ⟨.str,v0,.sh⟩),(1,.dat ⟨.str,v1,.sh⟩),(2,.dat ⟨(.int .i64),v2,.sh⟩),(7,.dat ⟨(.ptr t48),v7,(.own .sh)⟩),(8,.dat ⟨(.int .i64),v8,.sh⟩)])
noncomputable def vT (v0 v1:List UInt8) (v2:Int) (v7:List Int) (v9:Int) (p:List Nat:=[1,1,1,0,1,0]):Option jH:=zN EE R L 349 Ap p (mk 105 [(0,.dat ⟨.str,v0,.sh⟩),(1,.dat ⟨.str,v1,.sh⟩),(2,.dat ⟨(.int .i64),v2,.sh⟩),(7,.dat ⟨(.ptr t48),v7,(.own .sh)⟩),(9,.dat ⟨(.int .i64),v9,.sh⟩)])
noncomputable def vO (v1:List UInt8) (v7:List Int) (v10:Int) (p:List Nat:=[1,1,1,1,1,0,1,0]):Option jH:=zN EE R L 349 Ap p (mk 105 [(1,.dat ⟨.str,v1,.sh⟩),(7,.dat ⟨(.ptr t48),v7,(.own .sh)⟩),(10,.dat ⟨(.int .i64),v10,.sh⟩)])
noncomputable def xT (v7 v11:List Int) (v12:Int) (p:List Nat:=[1,1,1,1,1,1,1,0,1,0]):Option jH:=zN EE R L 349 Ap p (mk 105 [(7,.dat ⟨(.ptr t48),v7,(.own .sh)⟩),(11,.dat ⟨(.ptr t48),v11,(.own .sh)⟩),(12,.dat ⟨(.int .i64),v12,.sh⟩)])
noncomputable def tV (v7 v11:List Int) (v12 v13:Int) (p:List Nat:=[1,1,1,1,1,1,1,0,1,0,0,1,0,0,0,1,0]):Option jH:=zN EE R L 349 Ap p (mk 105 [(7,.dat ⟨(.ptr t48),v7,(.own .sh)⟩),(11,.dat ⟨(.ptr t48),v11,(.own .sh)⟩),(12,.dat ⟨(.int .i64),v12,.sh⟩),(13,.dat ⟨(.int .i64),v13,.sh⟩)])
noncomputable def vU (v7 v11 v15:List Int) (v16:Int) (p:List Nat:=[1,1,1,1,1,1,1,1,1,0,1,0]):Option jH:=zN EE R L 349 Ap p (mk 105 [(7,.dat ⟨(.ptr t48),v7,(.own .sh)⟩),(11,.dat ⟨(.ptr t48),v11,(.own .sh)⟩),(15,.dat ⟨t32,v15,(.own .sh)⟩),(16,.dat ⟨(.int .i64),v16,.sh⟩)])
noncomputable def vS (v7 v11:List Int) (v12 v14:Int) (p:List Nat:=[1,1,1,1,1,1,1,0,1,0,0,1,0,0,1,1,0]):Option jH:=zN EE R L 349 Ap p (mk 105 [(7,.dat ⟨(.ptr t48),v7,(.own .sh)⟩),(11,.dat ⟨(.ptr t48),v11,(.own .sh)⟩),(12,.dat ⟨(.int .i64),v12,.sh⟩),(14,.dat ⟨(.int .i64),v14,.sh⟩)])
noncomputable def gN (v1:List UInt8) (v5:List Int) (v10 v11:Int) (p:List Nat:=[1,1,0,1,0]):Option jH:=zN EE R L 321 Go.Proofs.Tryz.f321 p (mk 26 [(1,.dat ⟨.str,v1,.sh⟩),(5,.dat ⟨t32,v5,(.own .sh)⟩),(10,.dat ⟨(.int .i64),v10,.sh⟩),(11,.dat ⟨(.int .i64),v11,.sh⟩)])
noncomputable def qR (v0 v1:List UInt8) (v2:Int) (v3:List UInt8) (v9:List Int) (v10:List UInt8) (v11:Int) (p:List Nat:=[1,1,1,0,1,0]):Option jH:=zN EE R L 313 Go.Proofs.Tryz.f313 p (mk 42 [(0,.dat ⟨.str,v0,.sh⟩),(1,.dat ⟨.str,v1,.sh⟩),(2,.dat ⟨(.int .i64),v2,.sh⟩),(3,.dat ⟨.str,v3,.sh⟩),(9,.dat ⟨t32,v9,(.own .sh)⟩),(10,.dat ⟨.str,v10,.sh⟩),(11,.dat ⟨(.int .i64),v11,.sh⟩)])
noncomputable def uQ (v0:List (List UInt8)) (v1 v4 v5:Int) (p:List Nat:=[1,1,1,0,1,0]):Option d75:=zN EE R L 122 Go.Proofs.Tryz.f122 p (mk 28 [(0,.dat ⟨(.sl .str),v0,.sh⟩),(1,.dat ⟨(.int .i64),v1,.sh⟩),(4,.dat ⟨(.int .i64),v4,.sh⟩),(5,.dat ⟨(.int .i64),v5,.sh⟩)])
noncomputable def mK (v0:List d87) (v1 v4 v5:Int) (p:List Nat:=[1,1,1,0,1,0]):Option d75:=zN EE R L 123 Go.Proofs.Tryz.f123 p (mk 27 [(0,.dat ⟨(.sl t16),v0,.sh⟩),(1,.dat ⟨(.int .i64),v1,.sh⟩),(4,.dat ⟨(.int .i64),v4,.sh⟩),(5,.dat ⟨(.int .i64),v5,.sh⟩)])
noncomputable def oM (v0:List d78) (v1 v4 v5:Int) (p:List Nat:=[1,1,1,0,1,0]):Option d75:=zN EE R L 21 Go.Proofs.Tryz.f21 p (mk 27 [(0,.dat ⟨(.sl t6),v0,.sh⟩),(1,.dat ⟨(.int .i64),v1,.sh⟩),(4,.dat ⟨(.int .i64),v4,.sh⟩),(5,.dat ⟨(.int .i64),v5,.sh⟩)])
noncomputable def sX (v0 v2 v3:List (List UInt8)) (v4:Int) (p:List Nat:=[1,1,0,1,0]):Option B0Q:=zN EE R L 132 Go.Proofs.Tryz.f132 p (mk 22 [(0,.dat ⟨(.sl .str),v0,.sh⟩),(2,.dat ⟨(.sl .str),v2,(.own .sh)⟩),(3,.dat ⟨(.sl .str),v3,(.own .sh)⟩),(4,.dat ⟨(.int .i64),v4,.sh⟩)])
noncomputable def mI (v0 v2 v3:List d87) (v4:Int) (p:List Nat:=[1,1,0,1,0]):Option B4N:=zN EE R L 133 Go.Proofs.Tryz.f133 p (mk 23 [(0,.dat ⟨(.sl t16),v0,.sh⟩),(2,.dat ⟨(.sl t16),v2,(.own .sh)⟩),(3,.dat ⟨(.sl t16),v3,(.own .sh)⟩),(4,.dat ⟨(.int .i64),v4,.sh⟩)])
noncomputable def mD (v0 v2 v3:List d77) (v4:Int) (p:List Nat:=[1,1,0,1,0]):Option d78:=zN EE R L 134 Go.Proofs.Tryz.f134 p (mk 23 [(0,.dat ⟨(.sl t4),v0,.sh⟩),(2,.dat ⟨(.sl t4),v2,(.own .sh)⟩),(3,.dat ⟨(.sl t4),v3,(.own .sh)⟩),(4,.dat ⟨(.int .i64),v4,.sh⟩)])
noncomputable def oW (v0 v2 v3:List d78) (v4:Int) (p:List Nat:=[1,1,0,1,0]):Option B4O:=zN EE R L 24 Go.Proofs.Tryz.f24 p (mk 23 [(0,.dat ⟨(.sl t6),v0,.sh⟩),(2,.dat ⟨(.sl t6),v2,(.own (.pr (.own .sh) .sh))⟩),(3,.dat ⟨(.sl t6),v3,(.own (.pr (.own .sh) .sh))⟩),(4,.dat ⟨(.int .i64),v4,.sh⟩)])
noncomputable def oY (v0 v2 v3:List Int) (v4:Int) (p:List Nat:=[1,1,0,1,0]):Option d76:=zN EE R L 11 Go.Proofs.Tryz.f11 p (mk 22 [(0,.dat ⟨t1,v0,.sh⟩),(2,.dat ⟨t1,v2,(.own .sh)⟩),(3,.dat ⟨t1,v3,(.own .sh)⟩),(4,.dat ⟨(.int .i64),v4,.sh⟩)])
noncomputable def oK (v0:List Int) (v3:Int) (p:List Nat:=[1,0,1,0]):Option d74:=zN EE R L 44 Go.Proofs.Tryz.f44 p (mk 16 [(0,.dat ⟨t1,v0,.sh⟩),(3,.dat ⟨(.int .i64),v3,.sh⟩)])
noncomputable def nR (v0 v1:d88) (v2:Bool) (v3:Int) (p:List Nat:=[1,1,0,1,0]):Option d74:=zN EE R L 152 A9 p (mk 54 [(0,.dat ⟨t17,v0,.sh⟩),(1,.dat ⟨(.ptr t17),v1,(.own .sh)⟩),(2,.dat ⟨.bool,v2,.sh⟩),(3,.dat ⟨(.int .i64),v3,.sh⟩)])
noncomputable def nZ (v0 v1:d88) (v2:Bool) (v3 v4:Int) (p:List Nat:=[1,1,1,0,1,0]):Option d74:=zN EE R L 152 A9 p (mk 54 [(0,.dat ⟨t17,v0,.sh⟩),(1,.dat ⟨(.ptr t17),v1,(.own .sh)⟩),(2,.dat ⟨.bool,v2,.sh⟩),(3,.dat ⟨(.int .i64),v3,.sh⟩),(4,.dat ⟨(.int .i64),v4,.sh⟩)])
noncomputable def oO (v0 v1:d78) (v2:Bool) (v3:Int) (p:List Nat:=[1,0,1,0]):Option d74:=zN EE R L 196 Go.Proofs.Tryz.f196 p (mk 22 [(0,.dat ⟨t6,v0,.sh⟩),(1,.dat ⟨(.ptr t6),v1,(.own .sh)⟩),(2,.dat ⟨.bool,v2,.sh⟩),(3,.dat ⟨(.int .i64),v3,.sh⟩)])
noncomputable def qZ (v0:List d78) (v2:Bool) (v3:Int) (p:List Nat:=[1,1,1,0,1,0]):Option d74:=zN EE R L 126 Go.Proofs.Tryz.f126 p (mk 23 [(0,.dat ⟨(.sl t6),v0,.sh⟩),(2,.dat ⟨.bool,v2,.sh⟩),(3,.dat ⟨(.int .i64),v3,.sh⟩)])
noncomputable def qE (v0:Int) (v3:List Int) (v4:Int) (p:List Nat:=[1,1,0,1,0]):Option jH:=zN EE R L 312 Go.Proofs.Tryz.f312 p (mk 20 [(0,.dat ⟨(.int .i64),v0,.sh⟩),(3,.dat ⟨t32,v3,(.own .sh)⟩),(4,.dat ⟨(.int .i64),v4,.sh⟩)])
noncomputable def gZ (v0:List UInt8) (p:List Nat:=[1,0,0]):Option jH:=zN EE R L 351 Go.Proofs.Tryz.f351 p (mk 10 [(0,.dat ⟨.str,v0,.sh⟩)])
noncomputable def sI (v3:List Int) (v4:Int) (p:List Nat:=[1,1,0,1,0]):Option jH:=zN EE R L 374 AA p (mk 31 [(3,.dat ⟨t32,v3,(.own .sh)⟩),(4,.dat ⟨(.int .i64),v4,.sh⟩)])
noncomputable def tQ (v3:List Int) (v5:Int) (p:List Nat:=[1,1,1,0,1,0]):Option jH:=zN EE R L 374 AA p (mk 31 [(3,.dat ⟨t32,v3,(.own .sh)⟩),(5,.dat ⟨(.int .i64),v5,.sh⟩)])
noncomputable def uK (v0:List UInt8) (v2 v3:List Int) (v4:Int) (p:List Nat:=[1,1,0,1,0]):Option d76:=zN EE R L 373 Go.Proofs.Tryz.f373 p (mk 50 [(0,.dat ⟨.str,v0,.sh⟩),(2,.dat ⟨(.ptr t59),v2,(.own .sh)⟩),(3,.dat ⟨(.ptr t59),v3,(.own .sh)⟩),(4,.dat ⟨(.int .i64),v4,.sh⟩)])
noncomputable def nY (v1 v2:List Int) (v3:Int) (p:List Nat:=[1,0,1,0]):Option d76:=zN EE R L 377 AB p (mk 41 [(1,.dat ⟨(.ptr t59),v1,(.own .sh)⟩),(2,.dat ⟨(.ptr t59),v2,(.own .sh)⟩),(3,.dat ⟨(.int .i64),v3,.sh⟩)])
noncomputable def tT (v1 v2:List Int) (v3 v4:Int) (p:List Nat:=[1,0,1,0,0,1,0,0,0,1,0]):Option d76:=zN EE R L 377 AB p (mk 41 [(1,.dat ⟨(.ptr t59),v1,(.own .sh)⟩),(2,.dat ⟨(.ptr t59),v2,(.own .sh)⟩),(3,.dat ⟨(.int .i64),v3,.sh⟩),(4,.dat ⟨(.int .i64),v4,.sh⟩)])
noncomputable def uL (v2 v3 v4 v5:List Int) (v6:Int) (p:List Nat:=[1,1,0,1,0]):Option d76:=zN EE R L 375 AC p (mk 42 [(2,.dat ⟨(.ptr t59),v2,(.own .sh)⟩),(3,.dat ⟨(.ptr t59),v3,(.own .sh)⟩),(4,.dat ⟨(.ptr t59),v4,(.own .sh)⟩),(5,.dat ⟨(.ptr t59),v5,(.own .sh)⟩),(6,.dat ⟨(.int .i64),v6,.sh⟩)])
noncomputable def uI (v2 v3 v4 v5:List Int) (v6 v7:Int) (p:List Nat:=[1,1,0,1,0,0,1,0,0,1,0]):Option d76:=zN EE R L 375 AC p (mk 42 [(2,.dat ⟨(.ptr t59),v2,(.own .sh)⟩),(3,.dat ⟨(.ptr t59),v3,(.own .sh)⟩),(4,.dat ⟨(.ptr t59),v4,(.own .sh)⟩),(5,.dat ⟨(.ptr t59),v5,(.own .sh)⟩),(6,.dat ⟨(.int .i64),v6,.sh⟩),(7,.dat ⟨(.int .i64),v7,.sh⟩)])
noncomputable def pF (v1 v2 v3:List Int) (v4:Int) (p:List Nat:=[1,1,1,0,1,0]):Option d76:=zN EE R L 376 Go.Proofs.Tryz.f376 p (mk 39 [(1,.dat ⟨(.ptr t59),v1,(.own .sh)⟩),(2,.dat ⟨(.ptr t59),v2,(.own .sh)⟩),(3,.dat ⟨(.ptr t59),v3,(.own .sh)⟩),(4,.dat ⟨(.int .i64),v4,.sh⟩)])
noncomputable def qQ (v0 v1:List UInt8) (v5 v6:List Int) (v7:Int) (p:List Nat:=[1,1,1,0,1,0]):Option jH:=zN EE R L 350 Ax p (mk 108 [(0,.dat ⟨.str,v0,.sh⟩),(1,.dat ⟨.str,v1,.sh⟩),(5,.dat ⟨(.ptr t59),v5,(.own .sh)⟩),(6,.dat ⟨(.ptr t59),v6,(.own .sh)⟩),(7,.dat ⟨(.int .i64),v7,.sh⟩)])
noncomputable def mO (v0 v1:List UInt8) (v5 v6:List Int) (v7:Int) (v8:List UInt8) (p:List Nat:=[1,1,1,0,1,0,0,1,0,0,1,0,0]):Option jH:=zN EE R L 350 Ax p (mk 108 [(0,.dat ⟨.str,v0,.sh⟩),(1,.dat ⟨.str,v1,.sh⟩),(5,.dat ⟨(.ptr t59),v5,(.own .sh)⟩),(6,.dat ⟨(.ptr t59),v6,(.own .sh)⟩),(7,.dat ⟨(.int .i64),v7,.sh⟩),(8,.dat ⟨.str,v8,.sh⟩)])
noncomputable def sG (v0:List UInt8) (v6 v11:List Int) (v12 v13:Int) (p:List Nat:=[1,1,1,1,1,1,1,0,1,0]):Option jH:=zN EE R L 350 Ax p (mk 108 [(0,.dat ⟨.str,v0,.sh⟩),(6,.dat ⟨(.ptr t59),v6,(.own .sh)⟩),(11,.dat ⟨t32,v11,(.own .sh)⟩),(12,.dat ⟨(.int .i64),v12,.sh⟩),(13,.dat ⟨(.int .i64),v13,.sh⟩)])
noncomputable def rS (v0 v1:List UInt8) (v5 v6:List Int) (v7:Int) (v9:List Int) (v10:Int) (p:List Nat:=[1,1,1,0,1,0,0,1,0,0,1,1,1,0,1,0]):Option jH:=zN EE R L 350 Ax p (mk 108 [(0,.dat ⟨.str,v0,.sh⟩),(1,.dat ⟨.str,v1,.sh⟩),(5,.dat ⟨(.ptr t59),v5,(.own .sh)⟩),(6,.dat ⟨(.ptr t59),v6,(.own .sh)⟩),(7,.dat ⟨(.int .i64),v7,.sh⟩),(9,.dat ⟨(.ptr t59),v9,(.own .sh)⟩),(10,.dat ⟨(.int .i64),v10,.sh⟩)])
noncomputable def uA (v0:List (List UInt8)) (v1:FnVal) (v4 v7 v8:Int) (p:List Nat:=[1,0,1,0]):Option d75:=zN EE R L 308 AD p (mk 19 [(0,.dat ⟨(.sl .str),v0,.sh⟩),(1,.dat ⟨.fn,v1,.sh⟩),(4,.dat ⟨(.int .i64),v4,.sh⟩),(7,.dat ⟨(.int .i64),v7,.sh⟩),(8,.dat ⟨(.int .i64),v8,.sh⟩)])
noncomputable def zJ (v0:List (List UInt8)) (v1:FnVal) (v4 v5 v7 v8:Int) (p:List Nat:=[1,0,1,0]):Option d75:=zN EE R L 308 AD p (mk 19 [(0,.dat ⟨(.sl .str),v0,.sh⟩),(1,.dat ⟨.fn,v1,.sh⟩),(4,.dat ⟨(.int .i64),v4,.sh⟩),(5,.dat ⟨(.int .i64),v5,.sh⟩),(7,.dat ⟨(.int .i64),v7,.sh⟩),(8,.dat ⟨(.int .i64),v8,.sh⟩)])
noncomputable def tL (v0:List d87) (v1:FnVal) (v4 v7 v8:Int) (p:List Nat:=[1,0,1,0]):Option d75:=zN EE R L 363 AE p (mk 19 [(0,.dat ⟨(.sl t16),v0,.sh⟩),(1,.dat ⟨.fn,v1,.sh⟩),(4,.dat ⟨(.int .i64),v4,.sh⟩),(7,.dat ⟨(.int .i64),v7,.sh⟩),(8,.dat ⟨(.int .i64),v8,.sh⟩)])
noncomputable def zR (v0:List d87) (v1:FnVal) (v4 v5 v7 v8:Int) (p:List Nat:=[1,0,1,0]):Option d75:=zN EE R L 363 AE p (mk 19 [(0,.dat ⟨(.sl t16),v0,.sh⟩),(1,.dat ⟨.fn,v1,.sh⟩),(4,.dat ⟨(.int .i64),v4,.sh⟩),(5,.dat ⟨(.int .i64),v5,.sh⟩),(7,.dat ⟨(.int .i64),v7,.sh⟩),(8,.dat ⟨(.int .i64),v8,.sh⟩)])
noncomputable def uN (v0:List d78) (v1:FnVal) (v4 v7 v8:Int) (p:List Nat:=[1,0,1,0]):Option d75:=zN EE R L 316 AF p (mk 19 [(0,.dat ⟨(.sl t6),v0,.sh⟩),(1,.dat ⟨.fn,v1,.sh⟩),(4,.dat ⟨(.int .i64),v4,.sh⟩),(7,.dat ⟨(.int .i64),v7,.sh⟩),(8,.dat ⟨(.int .i64),v8,.sh⟩)])
noncomputable def zM (v0:List d78) (v1:FnVal) (v4 v5 v7 v8:Int) (p:List Nat:=[1,0,1,0]):Option d75:=zN EE R L 316 AF p (mk 19 [(0,.dat ⟨(.sl t6),v0,.sh⟩),(1,.dat ⟨.fn,v1,.sh⟩),(4,.dat ⟨(.int .i64),v4,.sh⟩),(5,.dat ⟨(.int .i64),v5,.sh⟩),(7,.dat ⟨(.int .i64),v7,.sh⟩),(8,.dat ⟨(.int .i64),v8,.sh⟩)])
noncomputable def tI (v0:List d77) (v1:FnVal) (v4 v7 v8:Int) (p:List Nat:=[1,0,1,0]):Option d75:=zN EE R L 352 AG p (mk 19 [(0,.dat ⟨(.sl t4),v0,.sh⟩),(1,.dat ⟨.fn,v1,.sh⟩),(4,.dat ⟨(.int .i64),v4,.sh⟩),(7,.dat ⟨(.int .i64),v7,.sh⟩),(8,.dat ⟨(.int .i64),v8,.sh⟩)])
noncomputable def zQ (v0:List d77) (v1:FnVal) (v4 v5 v7 v8:Int) (p:List Nat:=[1,0,1,0]):Option d75:=zN EE R L 352 AG p (mk 19 [(0,.dat ⟨(.sl t4),v0,.sh⟩),(1,.dat ⟨.fn,v1,.sh⟩),(4,.dat ⟨(.int .i64),v4,.sh⟩),(5,.dat ⟨(.int .i64),v5,.sh⟩),(7,.dat ⟨(.int .i64),v7,.sh⟩),(8,.dat ⟨(.int .i64),v8,.sh⟩)])
noncomputable def rY (v3:List Int) (v4:Int) (p:List Nat:=[1,1,0,1,0]):Option jH:=zN EE R L 356 AH p (mk 31 [(3,.dat ⟨t32,v3,(.own .sh)⟩),(4,.dat ⟨(.int .i64),v4,.sh⟩)])
noncomputable def rT (v3:List Int) (v5:Int) (p:List Nat:=[1,1,1,0,1,0]):Option jH:=zN EE R L 356 AH p (mk 31 [(3,.dat ⟨t32,v3,(.own .sh)⟩),(5,.dat ⟨(.int .i64),v5,.sh⟩)])
noncomputable def vV (v2 v3 v9:List Int) (v10 v11:Int) (p:List Nat:=[1,1,0,1,0]):Option d76:=zN EE R L 355 AI p (mk 40 [(2,.dat ⟨(.ptr t61),v2,(.own .sh)⟩),(3,.dat ⟨(.ptr t61),v3,(.own .sh)⟩),(9,.dat ⟨t32,v9,(.own .sh)⟩),(10,.dat ⟨(.int .i64),v10,.sh⟩),(11,.dat ⟨(.int .i64),v11,.sh⟩)])
noncomputable def uM (v2 v3:List Int) (v4 v5:Int) (v9:List Int) (v10 v11 v16:Int) (p:List Nat:=[1,1,0,1,0,0,1,1,0,0,1,1,0]):Option d76:=zN EE R L 355 AI p (mk 40 [(2,.dat ⟨(.ptr t61),v2,(.own .sh)⟩),(3,.dat ⟨(.ptr t61),v3,(.own .sh)⟩),(4,.dat ⟨(.int .i64),v4,.sh⟩),(5,.dat ⟨(.int .u8),v5,.sh⟩),(9,.dat ⟨t32,v9,(.own .sh)⟩),(10,.dat ⟨(.int .i64),v10,.sh⟩),(11,.dat ⟨(.int .i64),v11,.sh⟩),(16,.dat ⟨(.int .i64),v16,.sh⟩)])
noncomputable def sL (v1 v2:List Int) (v5:Int) (p:List Nat:=[1,0,1,0]):Option d76:=zN EE R L 379 AJ p (mk 34 [(1,.dat ⟨(.ptr t61),v1,(.own .sh)⟩),(2,.dat ⟨(.ptr t61),v2,(.own .sh)⟩),(5,.dat ⟨(.int .i64),v5,.sh⟩)])
noncomputable def wK (v1 v2:List Int) (v3 v5 v7:Int) (p:List Nat:=[1,0,1,0,0,1,1,0,0,1,0,1,0]):Option d76:=zN EE R L 379 AJ p (mk 34 [(1,.dat ⟨(.ptr t61),v1,(.own .sh)⟩),(2,.dat ⟨(.ptr t61),v2,(.own .sh)⟩),(3,.dat ⟨(.int .u64),v3,.sh⟩),(5,.dat ⟨(.int .i64),v5,.sh⟩),(7,.dat ⟨(.int .i64),v7,.sh⟩)])
noncomputable def tA (v2 v3 v4:List Int) (v6:Int) (p:List Nat:=[1,0,1,0]):Option d76:=zN EE R L 357 Go.Proofs.Tryz.f357 p (mk 20 [(2,.dat ⟨(.ptr t61),v2,(.own .sh)⟩),(3,.dat ⟨(.ptr t61),v3,(.own .sh)⟩),(4,.dat ⟨(.ptr t61),v4,(.own .sh)⟩),(6,.dat ⟨(.int .i64),v6,.sh⟩)])
noncomputable def wQ (v3 v4 v5 v10:List Int) (v11:Int) (p:List Nat:=[1,1,0,1,0]):Option d76:=zN EE R L 358 AK p (mk 50 [(3,.dat ⟨(.ptr t61),v3,(.own .sh)⟩),(4,.dat ⟨(.ptr t61),v4,(.own .sh)⟩),(5,.dat ⟨(.ptr t61),v5,(.own .sh)⟩),(10,.dat ⟨t61,v10,.sh⟩),(11,.dat ⟨(.int .i64),v11,.sh⟩)])
noncomputable def wS (v3 v4 v5:List Int) (v6 v7:Int) (v10:List Int) (v11:Int) (v15:List Int) (v16:Int) (p:List Nat:=[1,1,0,1,0,0,1,1,0,0,1,1,0]):Option d76:=zN EE R L 358 AK p (mk 50 [(3,.dat ⟨(.ptr t61),v3,(.own .sh)⟩),(4,.dat ⟨(.ptr t61),v4,(.own .sh)⟩),(5,.dat ⟨(.ptr t61),v5,(.own .sh)⟩),(6,.dat ⟨(.int .i64),v6,.sh⟩),(7,.dat ⟨(.int .u64),v7,.sh⟩),(10,.dat ⟨t61,v10,.sh⟩),(11,.dat ⟨(.int .i64),v11,.sh⟩),(15,.dat ⟨t61,v15,.sh⟩),(16,.dat ⟨(.int .i64),v16,.sh⟩)])
noncomputable def wH (v1 v2 v3:List Int) (v4:Int) (p:List Nat:=[1,1,1,0,1,0]):Option d76:=zN EE R L 359 AL p (mk 41 [(1,.dat ⟨(.ptr t61),v1,(.own .sh)⟩),(2,.dat ⟨(.ptr t61),v2,(.own .sh)⟩),(3,.dat ⟨(.ptr t61),v3,(.own .sh)⟩),(4,.dat ⟨(.int .i64),v4,.sh⟩)])
noncomputable def yF (v1 v2 v3:List Int) (v28:Int) (p:List Nat:=[1,1,1,1,0,1,0]):Option d76:=zN EE R L 359 AL p (mk 41 [(1,.dat ⟨(.ptr t61),v1,(.own .sh)⟩),(2,.dat ⟨(.ptr t61),v2,(.own .sh)⟩),(3,.dat ⟨(.ptr t61),v3,(.own .sh)⟩),(28,.dat ⟨(.int .i64),v28,.sh⟩)])
noncomputable def xX (v1:List UInt8) (v2 v5:List Int) (v6 v13 v14:Int) (p:List Nat:=[1,1,1,0,1,0]):Option jH:=zN EE R L 360 AM p (mk 56 [(1,.dat ⟨.str,v1,.sh⟩),(2,.dat ⟨(.ptr t61),v2,(.own .sh)⟩),(5,.dat ⟨t32,v5,(.own .sh)⟩),(6,.dat ⟨(.int .i64),v6,.sh⟩),(13,.dat ⟨(.int .i64),v13,.sh⟩),(14,.dat ⟨(.int .i64),v14,.sh⟩)])
noncomputable def wO (v1:List UInt8) (v2 v5:List Int) (v6 v7 v8 v13 v14 v17:Int) (p:List Nat:=[1,1,1,0,1,0,0,1,1,0,0,1,1,0,1,0]):Option jH:=zN EE R L 360 AM p (mk 56 [(1,.dat ⟨.str,v1,.sh⟩),(2,.dat ⟨(.ptr t61),v2,(.own .sh)⟩),(5,.dat ⟨t32,v5,(.own .sh)⟩),(6,.dat ⟨(.int .i64),v6,.sh⟩),(7,.dat ⟨(.int .i64),v7,.sh⟩),(8,.dat ⟨(.int .i64),v8,.sh⟩),(13,.dat ⟨(.int .i64),v13,.sh⟩),(14,.dat ⟨(.int .i64),v14,.sh⟩),(17,.dat ⟨(.int .i64),v17,.sh⟩)])
noncomputable def eZ (v0 v1:List UInt8) (v5 v6:List Int) (v7:Int) (p:List Nat:=[1,1,1,0,1,0]):Option jH:=zN EE R L 324 Go.Proofs.Tryz.f324 p (mk 36 [(0,.dat ⟨.str,v0,.sh⟩),(1,.dat ⟨.str,v1,.sh⟩),(5,.dat ⟨(.ptr t61),v5,(.own .sh)⟩),(6,.dat ⟨(.ptr t61),v6,(.own .sh)⟩),(7,.dat ⟨(.int .i64),v7,.sh⟩)])
noncomputable def sU (v0 v1:List (List UInt8)) (v4:Bool) (v5:Int) (p:List Nat:=[1,1,0,1,0]):Option d74:=zN EE R L 114 Go.Proofs.Tryz.f114 p (mk 26 [(0,.dat ⟨(.sl .str),v0,.sh⟩),(1,.dat ⟨(.sl .str),v1,.sh⟩),(4,.dat ⟨.bool,v4,.sh⟩),(5,.dat ⟨(.int .i64),v5,.sh⟩)])
noncomputable def mF (v0 v1:List d87) (v4:Bool) (v5:Int) (p:List Nat:=[1,1,0,1,0]):Option d74:=zN EE R L 115 Go.Proofs.Tryz.f115 p (mk 27 [(0,.dat ⟨(.sl t16),v0,.sh⟩),(1,.dat ⟨(.sl t16),v1,.sh⟩),(4,.dat ⟨.bool,v4,.sh⟩),(5,.dat ⟨(.int .i64),v5,.sh⟩)])
noncomputable def mM (v0 v1:List d77) (v4:Bool) (v5:Int) (p:List Nat:=[1,1,0,1,0]):Option d74:=zN EE R L 146 Go.Proofs.Tryz.f146 p (mk 27 [(0,.dat ⟨(.sl t4),v0,.sh⟩),(1,.dat ⟨(.sl t4),v1,.sh⟩),(4,.dat ⟨.bool,v4,.sh⟩),(5,.dat ⟨(.int .i64),v5,.sh⟩)])
noncomputable def oP (v0 v1:List d78) (v4:Bool) (v5:Int) (p:List Nat:=[1,1,0,1,0]):Option d74:=zN EE R L 27 Go.Proofs.Tryz.f27 p (mk 27 [(0,.dat ⟨(.sl t6),v0,.sh⟩),(1,.dat ⟨(.sl t6),v1,.sh⟩),(4,.dat ⟨.bool,v4,.sh⟩),(5,.dat ⟨(.int .i64),v5,.sh⟩)])
noncomputable def oL (v0 v1:List Int) (v4:Bool) (v5:Int) (p:List Nat:=[1,1,0,1,0]):Option d74:=zN EE R L 14 Go.Proofs.Tryz.f14 p (mk 26 [(0,.dat ⟨t1,v0,.sh⟩),(1,.dat ⟨t1,v1,.sh⟩),(4,.dat ⟨.bool,v4,.sh⟩),(5,.dat ⟨(.int .i64),v5,.sh⟩)])
noncomputable def oH (v0 v3:List (List UInt8)) (v4:Int) (p:List Nat:=[1,1,0,1,0]):Option B0Q:=zN EE R L 251 Go.Proofs.Tryz.f251 p (mk 22 [(0,.dat ⟨(.sl .str),v0,.sh⟩),(3,.dat ⟨(.sl .str),v3,(.own .sh)⟩),(4,.dat ⟨(.int .i64),v4,.sh⟩)])
noncomputable def nX (v0 v3:List (List UInt8)) (v4:Int) (p:List Nat:=[1,1,0,1,0]):Option B0Q:=zN EE R L 252 Go.Proofs.Tryz.f252 p (mk 27 [(0,.dat ⟨(.sl .str),v0,.sh⟩),(3,.dat ⟨(.sl .str),v3,(.own .sh)⟩),(4,.dat ⟨(.int .i64),v4,.sh⟩)])
noncomputable def nH (v3:List (List UInt8)) (p:List Nat:=[1,1,0,0]):Option jH:=zN EE R L 182 Go.Proofs.Tryz.f182 p (mk 14 [(3,.dat ⟨(.sl .str),v3,(.own .sh)⟩)])
noncomputable def gC (v3 v9:List (List UInt8)) (v10 v11:Int) (p:List Nat:=[1,1,0,1,0]):Option B3H:=zN EE R L 191 Ay p (mk 53 [(3,.dat ⟨(.sl .str),v3,(.own .sh)⟩),(9,.dat ⟨(.sl .str),v9,.sh⟩),(10,.dat ⟨(.int .i64),v10,.sh⟩),(11,.dat ⟨(.int .i64),v11,.sh⟩)])
noncomputable def nD (v3:List (List UInt8)) (v6:List (List (List UInt8))) (p:List Nat:=[1,1,1,1,0,0]):Option B3H:=zN EE R L 191 Ay p (mk 53 [(3,.dat ⟨(.sl .str),v3,.sh⟩),(6,.dat ⟨t64,v6,(.own .sh)⟩)])
noncomputable def eM (v3:List (List UInt8)) (v6:List (List (List UInt8))) (v7:List (List UInt8)) (v8:Int) (p:List Nat:=[1,1,1,1,0,0,0,1,0,1,0,1,0]):Option B3H:=zN EE R L 191 Ay p (mk 53 [(3,.dat ⟨(.sl .str),v3,.sh⟩),(6,.dat ⟨t64,v6,(.own .sh)⟩),(7,.dat ⟨(.sl .str),v7,(.own .sh)⟩),(8,.dat ⟨(.int .i64),v8,.sh⟩)])
noncomputable def qG (v0 v1:List d94) (v4:Bool) (v5:Int) (p:List Nat:=[1,1,0,1,0]):Option d74:=zN EE R L 50 Go.Proofs.Tryz.f50 p (mk 27 [(0,.dat ⟨(.sl t23),v0,.sh⟩),(1,.dat ⟨(.sl t23),v1,.sh⟩),(4,.dat ⟨.bool,v4,.sh⟩),(5,.dat ⟨(.int .i64),v5,.sh⟩)])
noncomputable def qX (v0 v1:List (List d78)) (v4:Bool) (v5:Int) (p:List Nat:=[1,1,0,1,0]):Option d74:=zN EE R L 51 Go.Proofs.Tryz.f51 p (mk 27 [(0,.dat ⟨t24,v0,.sh⟩),(1,.dat ⟨t24,v1,.sh⟩),(4,.dat ⟨.bool,v4,.sh⟩),(5,.dat ⟨(.int .i64),v5,.sh⟩)])
noncomputable def sO (v0 v1:List d83) (v4:Bool) (v5:Int) (p:List Nat:=[1,1,0,1,0]):Option d74:=zN EE R L 37 Go.Proofs.Tryz.f37 p (mk 27 [(0,.dat ⟨(.sl t12),v0,.sh⟩),(1,.dat ⟨(.sl t12),v1,.sh⟩),(4,.dat ⟨.bool,v4,.sh⟩),(5,.dat ⟨(.int .i64),v5,.sh⟩)])
noncomputable def qY (v0:List (List d78)) (v1 v4 v5:Int) (p:List Nat:=[1,1,1,0,1,0]):Option d75:=zN EE R L 91 Go.Proofs.Tryz.f91 p (mk 27 [(0,.dat ⟨t24,v0,.sh⟩),(1,.dat ⟨(.int .i64),v1,.sh⟩),(4,.dat ⟨(.int .i64),v4,.sh⟩),(5,.dat ⟨(.int .i64),v5,.sh⟩)])
noncomputable def sW (v0:List d83) (v1 v4 v5:Int) (p:List Nat:=[1,1,1,0,1,0]):Option d75:=zN EE R L 92 Go.Proofs.Tryz.f92 p (mk 27 [(0,.dat ⟨(.sl t12),v0,.sh⟩),(1,.dat ⟨(.int .i64),v1,.sh⟩),(4,.dat ⟨(.int .i64),v4,.sh⟩),(5,.dat ⟨(.int .i64),v5,.sh⟩)])
noncomputable def qD (v0 v2 v3:List d94) (v4:Int) (p:List Nat:=[1,1,0,1,0]):Option Bj0:=zN EE R L 95 Go.Proofs.Tryz.f95 p (mk 23 [(0,.dat ⟨(.sl t23),v0,.sh⟩),(2,.dat ⟨(.sl t23),v2,(.own .sh)⟩),(3,.dat ⟨(.sl t23),v3,(.own .sh)⟩),(4,.dat ⟨(.int .i64),v4,.sh⟩)])
noncomputable def pC (v0 v2 v3:List (List d78)) (v4:Int) (p:List Nat:=[1,1,0,1,0]):Option B4X:=zN EE R L 96 Go.Proofs.Tryz.f96 p (mk 23 [(0,.dat ⟨t24,v0,.sh⟩),(2,.dat ⟨t24,v2,(.own (.own .sh))⟩),(3,.dat ⟨t24,v3,(.own (.own (.pr (.own .sh) .sh)))⟩),(4,.dat ⟨(.int .i64),v4,.sh⟩)])
noncomputable def rA (v0 v2 v3:List d83) (v4:Int) (p:List Nat:=[1,1,0,1,0]):Option B4F:=zN EE R L 97 Go.Proofs.Tryz.f97 p (mk 23 [(0,.dat ⟨(.sl t12),v0,.sh⟩),(2,.dat ⟨(.sl t12),v2,(.own (.pr .sh (.pr (.own .sh) .sh)))⟩),(3,.dat ⟨(.sl t12),v3,(.own (.pr .sh (.pr (.own .sh) .sh)))⟩),(4,.dat ⟨(.int .i64),v4,.sh⟩)])
noncomputable def kK (v0:List d94) (v2:Bool) (v3:Int) (p:List Nat:=[1,1,0,1,0]):Option d74:=zN EE R L 164 Go.Proofs.Tryz.f164 p (mk 50 [(0,.dat ⟨(.sl t23),v0,.sh⟩),(2,.dat ⟨.bool,v2,.sh⟩),(3,.dat ⟨(.int .i64),v3,.sh⟩)])
noncomputable def yB (v0 v1:d83) (v2:Bool) (v3:Int) (p:List Nat:=[1,1,0,1,0]):Option d74:=zN EE R L 231 Go.Proofs.Tryz.f231 p (mk 39 [(0,.dat ⟨t12,v0,.sh⟩),(1,.dat ⟨(.ptr t12),v1,(.own .sh)⟩),(2,.dat ⟨.bool,v2,.sh⟩),(3,.dat ⟨(.int .i64),v3,.sh⟩)])
noncomputable def xG (v0:List d83) (v2:Bool) (v3:Int) (p:List Nat:=[1,0,1,0]):Option d74:=zN EE R L 165 Go.Proofs.Tryz.f165 p (mk 19 [(0,.dat ⟨(.sl t12),v0,.sh⟩),(2,.dat ⟨.bool,v2,.sh⟩),(3,.dat ⟨(.int .i64),v3,.sh⟩)])
noncomputable def qA (v0 v1:d95) (v2:Bool) (v3:Int) (p:List Nat:=[1,1,0,1,0]):Option d74:=zN EE R L 93 Go.Proofs.Tryz.f93 p (mk 62 [(0,.dat ⟨t25,v0,.sh⟩),(1,.dat ⟨(.ptr t25),v1,(.own .sh)⟩),(2,.dat ⟨.bool,v2,.sh⟩),(3,.dat ⟨(.int .i64),v3,.sh⟩)])
noncomputable def iO (v1:Int) (v2:d88) (v5:Int) (p:List Nat:=[1,0,1,0]):Option jH:=zN EE R L 215 Go.Proofs.Tryz.f215 p (mk 33 [(1,.dat ⟨(.int .i64),v1,.sh⟩),(2,.dat ⟨(.ptr t17),v2,(.own .sh)⟩),(5,.dat ⟨(.int .i64),v5,.sh⟩)])
noncomputable def nQ (v0 v1:List UInt8) (v5 v6:Int) (p:List Nat:=[1,1,1,0,1,0]):Option d74:=zN EE R L 326 Go.Proofs.Tryz.f326 p (mk 46 [(0,.dat ⟨.str,v0,.sh⟩),(1,.dat ⟨.str,v1,.sh⟩),(5,.dat ⟨(.int .i64),v5,.sh⟩),(6,.dat ⟨(.int .i64),v6,.sh⟩)])
noncomputable def oI (v0:List UInt8) (v4:List Int) (v5:Int) (p:List Nat:=[1,1,0,1,0]):Option B4L:=zN EE R L 327 Go.Proofs.Tryz.f327 p (mk 25 [(0,.dat ⟨.str,v0,.sh⟩),(4,.dat ⟨t1,v4,(.own .sh)⟩),(5,.dat ⟨(.int .i64),v5,.sh⟩)])
noncomputable def mH (v0:List Int) (v1 v5:Int) (p:List Nat:=[1,0,1,0]):Option d74:=zN EE R L 284 Go.Proofs.Tryz.f284 p (mk 18 [(0,.dat ⟨t1,v0,.sh⟩),(1,.dat ⟨(.int .i64),v1,.sh⟩),(5,.dat ⟨(.int .i64),v5,.sh⟩)])
noncomputable def iM (v3:List Int) (v4:Int) (p:List Nat:=[1,1,1,0]):Option d76:=zN EE R L 362 Go.Proofs.Tryz.f362 p (mk 18 [(3,.dat ⟨t1,v3,(.own .sh)⟩),(4,.dat ⟨(.int .i64),v4,.sh⟩)])
noncomputable def mL (v0:Int) (v5:List Int) (v6:Int) (p:List Nat:=[1,1,0,1,0]):Option d74:=zN EE R L 329 Go.Proofs.Tryz.f329 p (mk 21 [(0,.dat ⟨(.int .i64),v0,.sh⟩),(5,.dat ⟨t1,v5,(.own .sh)⟩),(6,.dat ⟨(.int .i64),v6,.sh⟩)])
noncomputable def jP (v1:d79) (v3:List Int) (v4:Int) (p:List Nat:=[1,1,1,0,1,0]):Option d74:=zN EE R L 283 Az p (mk 102 [(1,.dat ⟨(.ptr t8),v1,(.own .sh)⟩),(3,.dat ⟨t1,v3,(.own .sh)⟩),(4,.dat ⟨(.int .i64),v4,.sh⟩)])
noncomputable def lA (v1:d79) (v3:List Int) (v5:Int) (p:List Nat:=[1,1,1,1,0,1,0]):Option d74:=zN EE R L 283 Az p (mk 102 [(1,.dat ⟨(.ptr t8),v1,(.own .sh)⟩),(3,.dat ⟨t1,v3,(.own .sh)⟩),(5,.dat ⟨(.int .i64),v5,.sh⟩)])
noncomputable def jY (v1:d79) (v3:List Int) (v5 v6:Int) (p:List Nat:=[1,1,1,1,0,1,0,0,1,0,0,1,1,0]):Option d74:=zN EE R L 283 Az p (mk 102 [(1,.dat ⟨(.ptr t8),v1,(.own .sh)⟩),(3,.dat ⟨t1,v3,(.own .sh)⟩),(5,.dat ⟨(.int .i64),v5,.sh⟩),(6,.dat ⟨(.int .i64),v6,.sh⟩)])
noncomputable def mJ (v1:d82) (v3:Int) (p:List Nat:=[1,1,0,1,0]):Option d74:=zN EE R L 219 Go.Proofs.Tryz.f219 p (mk 48 [(1,.dat ⟨(.ptr t11),v1,(.own .sh)⟩),(3,.dat ⟨(.int .i64),v3,.sh⟩)])
noncomputable def sQ (v0:List d77) (v3:Int) (p:List Nat:=[1,0,1,0]):Option d74:=zN EE R L 282 Go.Proofs.Tryz.f282 p (mk 34 [(0,.dat ⟨(.sl t4),v0,.sh⟩),(3,.dat ⟨(.int .i64),v3,.sh⟩)])
noncomputable def nO (v1:Int) (v2:d79) (v5:Int) (p:List Nat:=[1,0,1,0]):Option d75:=zN EE R L 233 A0 p (mk 66 [(1,.dat ⟨(.int .i64),v1,.sh⟩),(2,.dat ⟨(.ptr t8),v2,(.own .sh)⟩),(5,.dat ⟨(.int .i64),v5,.sh⟩)])
noncomputable def pO (v1:Int) (v2:d79) (v6:Int) (p:List Nat:=[1,1,0,1,0]):Option d75:=zN EE R L 233 A0 p (mk 66 [(1,.dat ⟨(.int .i64),v1,.sh⟩),(2,.dat ⟨(.ptr t8),v2,(.own .sh)⟩),(6,.dat ⟨(.int .i64),v6,.sh⟩)])
noncomputable def nN (v1:Int) (v2:d79) (v6 v7:Int) (p:List Nat:=[1,1,0,1,0,0,1,0,0,1,0]):Option d75:=zN EE R L 233 A0 p (mk 66 [(1,.dat ⟨(.int .i64),v1,.sh⟩),(2,.dat ⟨(.ptr t8),v2,(.own .sh)⟩),(6,.dat ⟨(.int .i64),v6,.sh⟩),(7,.dat ⟨(.int .i64),v7,.sh⟩)])
noncomputable def jR (v0:List d94) (v1 v2 v7:Int) (p:List Nat:=[1,1,0,0]):Option Bj0:=zN EE R L 232 Go.Proofs.Tryz.f232 p (mk 56 [(0,.dat ⟨(.sl t23),v0,.sh⟩),(1,.dat ⟨(.int .i64),v1,.sh⟩),(2,.dat ⟨(.int .i64),v2,.sh⟩),(7,.dat ⟨(.int .i64),v7,.sh⟩)])
noncomputable def mP (v1:d82) (v3:List d94) (v4:Int) (p:List Nat:=[1,1,0,1,0]):Option Bj0:=zN EE R L 166 Go.Proofs.Tryz.f166 p (mk 31 [(1,.dat ⟨(.ptr t11),v1,(.own .sh)⟩),(3,.dat ⟨(.sl t23),v3,(.own .sh)⟩),(4,.dat ⟨(.int .i64),v4,.sh⟩)])
noncomputable def pA (v1:d83) (v3:List UInt8) (v4:Int) (p:List Nat:=[1,1,0,1,0]):Option jH:=zN EE R L 234 Go.Proofs.Tryz.f234 p (mk 25 [(1,.dat ⟨(.ptr t12),v1,(.own .sh)⟩),(3,.dat ⟨.str,v3,.sh⟩),(4,.dat ⟨(.int .i64),v4,.sh⟩)])
noncomputable def uV (v0 v1:List d83) (v5:Int) (p:List Nat:=[1,1,0,1,0]):Option d74:=zN EE R L 167 Go.Proofs.Tryz.f167 p (mk 28 [(0,.dat ⟨(.sl t12),v0,.sh⟩),(1,.dat ⟨(.sl t12),v1,.sh⟩),(5,.dat ⟨(.int .i64),v5,.sh⟩)])
noncomputable def AT7 (v0:List d94) (v2:Bool) (v5:List d94) (v6 v7:Int) (p:List Nat:=[1,0,1,0]):Option d74:=zN EE R L 170 AN p (mk 41 [(0,.dat ⟨(.sl t23),v0,.sh⟩),(2,.dat ⟨.bool,v2,.sh⟩),(5,.dat ⟨(.sl t23),v5,.sh⟩),(6,.dat ⟨(.int .i64),v6,.sh⟩),(7,.dat ⟨(.int .i64),v7,.sh⟩)])
noncomputable def oU (v0:List d94) (v2:Bool) (v3:Int) (v4:d94) (v5:List d94) (v6 v7:Int) (p:List Nat:=[1,0,1,0]):Option d74:=zN EE R L 170 AN p (mk 41 [(0,.dat ⟨(.sl t23),v0,.sh⟩),(2,.dat ⟨.bool,v2,.sh⟩),(3,.dat ⟨(.int .i64),v3,.sh⟩),(4,.dat ⟨(.ptr t23),v4,(.own .sh)⟩),(5,.dat ⟨(.sl t23),v5,.sh⟩),(6,.dat ⟨(.int .i64),v6,.sh⟩),(7,.dat ⟨(.int .i64),v7,.sh⟩)])
noncomputable def vJ (v0:List (List d78)) (v1:FnVal) (v4 v7 v8:Int) (p:List Nat:=[1,0,1,0]):Option d75:=zN EE R L 297 AO p (mk 19 [(0,.dat ⟨t24,v0,.sh⟩),(1,.dat ⟨.fn,v1,.sh⟩),(4,.dat ⟨(.int .i64),v4,.sh⟩),(7,.dat ⟨(.int .i64),v7,.sh⟩),(8,.dat ⟨(.int .i64),v8,.sh⟩)])
noncomputable def zH (v0:List (List d78)) (v1:FnVal) (v4 v5 v7 v8:Int) (p:List Nat:=[1,0,1,0]):Option d75:=zN EE R L 297 AO p (mk 19 [(0,.dat ⟨t24,v0,.sh⟩),(1,.dat ⟨.fn,v1,.sh⟩),(4,.dat ⟨(.int .i64),v4,.sh⟩),(5,.dat ⟨(.int .i64),v5,.sh⟩),(7,.dat ⟨(.int .i64),v7,.sh⟩),(8,.dat ⟨(.int .i64),v8,.sh⟩)])
noncomputable def wW (v0:List d83) (v1:FnVal) (v4 v7 v8:Int) (p:List Nat:=[1,0,1,0]):Option d75:=zN EE R L 338 AP p (mk 19 [(0,.dat ⟨(.sl t12),v0,.sh⟩),(1,.dat ⟨.fn,v1,.sh⟩),(4,.dat ⟨(.int .i64),v4,.sh⟩),(7,.dat ⟨(.int .i64),v7,.sh⟩),(8,.dat ⟨(.int .i64),v8,.sh⟩)])
noncomputable def zF (v0:List d83) (v1:FnVal) (v4 v5 v7 v8:Int) (p:List Nat:=[1,0,1,0]):Option d75:=zN EE R L 338 AP p (mk 19 [(0,.dat ⟨(.sl t12),v0,.sh⟩),(1,.dat ⟨.fn,v1,.sh⟩),(4,.dat ⟨(.int .i64),v4,.sh⟩),(5,.dat ⟨(.int .i64),v5,.sh⟩),(7,.dat ⟨(.int .i64),v7,.sh⟩),(8,.dat ⟨(.int .i64),v8,.sh⟩)])
noncomputable def nU (v0:List UInt8) (v3:List Int) (v4:Int) (p:List Nat:=[1,1,0,1,0]):Option d76:=zN EE R L 289 Go.Proofs.Tryz.f289 p (mk 20 [(0,.dat ⟨.str,v0,.sh⟩),(3,.dat ⟨t1,v3,(.own .sh)⟩),(4,.dat ⟨(.int .i64),v4,.sh⟩)])
noncomputable def zK (v0:List d94) (v1:Int) (v2:FnVal) (v8 v9 v10:Int) (p:List Nat:=[1,1,1,0,0]):Option B3q:=zN EE R L 240 Go.Proofs.Tryz.f240 p (mk 49 [(0,.dat ⟨(.sl t23),v0,.sh⟩),(1,.dat ⟨(.int .i64),v1,.sh⟩),(2,.dat ⟨.fn,v2,.sh⟩),(8,.dat ⟨(.int .i64),v8,.sh⟩),(9,.dat ⟨(.int .i64),v9,.sh⟩),(10,.dat ⟨(.int .i64),v10,.sh⟩)])
noncomputable def zU (v0 v1:List d94) (v12 v13:Int) (p:List Nat:=[1,1,0,1,0]):Option d74:=zN EE R L 99 Go.Proofs.Tryz.f99 p (mk 26 [(0,.dat ⟨(.sl t23),v0,.sh⟩),(1,.dat ⟨(.sl t23),v1,.sh⟩),(12,.dat ⟨(.int .i64),v12,.sh⟩),(13,.dat ⟨(.int .i64),v13,.sh⟩)])
noncomputable def zC (v1:List d83) (v2:FnVal) (v15:List d83) (v16 v17:Int) (p:List Nat:=[1,1,0,1,0]):Option d74:=zN EE R L 176 Go.Proofs.Tryz.f176 p (mk 32 [(1,.dat ⟨(.sl t12),v1,.sh⟩),(2,.dat ⟨.fn,v2,.sh⟩),(15,.dat ⟨(.sl t12),v15,.sh⟩),(16,.dat ⟨(.int .i64),v16,.sh⟩),(17,.dat ⟨(.int .i64),v17,.sh⟩)])
noncomputable def yO (v0 v1:List Int) (v12 v13:Int) (p:List Nat:=[1,1,0,1,0]):Option d74:=zN EE R L 178 Go.Proofs.Tryz.f178 p (mk 26 [(0,.dat ⟨t1,v0,.sh⟩),(1,.dat ⟨t1,v1,.sh⟩),(12,.dat ⟨(.int .i64),v12,.sh⟩),(13,.dat ⟨(.int .i64),v13,.sh⟩)])
theorem BL5 (x0 x1 x2:Int):@Eq _ (uF (zD EE R L) x0 x1 x2) (cond (decide (x1≤x0)) (some (decide (x0≤x2),())) (some (false,()))):=by kernel_rfl
theorem Ba9 (x0:Int):@Eq _ (AG6 (zD EE R L) x0) ((uF R x0 1 9999).bind fun r0=>some (r0.1,())):=by kernel_rfl
theorem Ao6 (x0:Int) (x1:FnVal):@Eq _ (eX (zD EE R L) x0 x1) ((xB EE R x1 [⟨(.int .i64),(x0:Int)⟩]).bind fun (r0:Bool)=>some (!r0,())):=by kernel_rfl
theorem cL (x0:List Int) (x1:FnVal):@Eq _ (uT (zD EE R L) x0 x1) (rC R L x0 x1 0 (x0.length:Int) 0):=by kernel_rfl
theorem eT (v0:List Int) (v1:FnVal) (v4 v7 v8:Int):@Eq _ (rC R L v0 v1 v4 v7 v8 ([1,0,1,0]++[0])) (cond (decide (v8 < v7)) (cond (zA v8) (cond (Ab v8.toNat v0.length) ((xB EE R v1 [⟨(.int .i64),(v0.getD v8.toNat 0:Int)⟩]).bind fun (r0:Bool)=>cond r0 (some (v8,())) (zV R L v0 v1 v4 v8 v7 (Aa .i64 (v8+1)))) none) none) (some (-1,()))):=by kernel_rfl
theorem rO (v0:List Int) (v1:FnVal) (v4 v5 v7 v8:Int):@Eq _ (zV R L v0 v1 v4 v5 v7 v8 ([1,0,1,0]++[0])) (cond (decide (v8 < v7)) (cond (zA v8) (cond (Ab v8.toNat v0.length) ((xB EE R v1 [⟨(.int .i64),(v0.getD v8.toNat 0:Int)⟩]).bind fun (r0:Bool)=>cond r0 (some (v8,())) (zV R L v0 v1 v4 v8 v7 (Aa .i64 (v8+1)))) none) none) (some (-1,()))):=by kernel_rfl
theorem eA (x0:List Int) (x1:FnVal):@Eq _ (vN (zD EE R L) x0 x1) ((uT R x0 x1).bind fun r0=>some (decide (0≤r0.1),())):=by kernel_rfl
theorem A1K (x0:List Int) (x1:FnVal):@Eq _ (tZ (zD EE R L) x0 x1) ((vN R x0 (FnVal.mk (268:Nat) (FCaps.fn x1 FCaps.nil))).bind fun r0=>some (!r0.1,())):=by kernel_rfl
theorem A3C (x0:Int):@Eq _ (gF (zD EE R L) x0) ((uF R x0 0 7).bind fun r0=>some (r0.1,())):=by kernel_rfl
theorem BN5 (x0:Int):@Eq _ (AY2 (zD EE R L) x0) (fN R L [] (Aa .i64 (7+x0))):=by kernel_rfl
theorem A5v (v3:List Int) (v4:Int):@Eq _ (fN R L v3 v4 ([1,1,1,0]++[0])) (cond (yI (v3.length+([v4]).length)) (cond (eqI v4 0) ((kZ R (v3++[v4])).bind fun r0=>some (r0.1,())) (fN R L (v3++[v4]) (Aa .i64 (Ak (Aa .i64 (v4 - 1)) 2)))) none):=by kernel_rfl
theorem AE2 (x0:List Int) (x1:Int):@Eq _ (rU (zD EE R L) x0 x1) (wC R L x0 x1 (x0.length:Int) 0):=by kernel_rfl
theorem kN (v0:List Int) (v1 v7 v8:Int):@Eq _ (wC R L v0 v1 v7 v8 ([1,0,1,0]++[0])) (cond (decide (v8 < v7)) (cond (zA v8) (cond (Ab v8.toNat v0.length) (cond (eqI v1 (v0.getD v8.toNat 0)) (some (v8,())) (wC R L v0 v1 v7 (Aa .i64 (v8+1)))) none) none) (some (-1,()))):=by kernel_rfl
theorem bD (x0:List Int) (x1:Int):@Eq _ (qU (zD EE R L) x0 x1) ((rU R x0 x1).bind fun r0=>some (decide (0≤r0.1),())):=by kernel_rfl
theorem A5P (x0 x1:Int):@Eq _ (cB (zD EE R L) x0 x1) ((AY2 R x1).bind fun r0=>(qU R r0.1 x0).bind fun r1=>some (r1.1,())):=by kernel_rfl
theorem A8q (x0:d77) (x1:Int):@Eq _ (Ag0 (zD EE R L) x0 x1) ((gF R x0.2.1).bind fun r0=>cond r0.1 ((cB R x1 x0.2.1).bind fun r1=>some (r1.1,())) (some (false,()))):=by kernel_rfl
theorem AU8 (x0:d77) (x1:FnVal):@Eq _ (kH (zD EE R L) x0 x1) ((xB EE R x1 [⟨t4,(x0:d77)⟩]).bind fun (r0:Bool)=>some (!r0,())):=by kernel_rfl
theorem iG (x0:List d77) (x1:FnVal):@Eq _ (wI (zD EE R L) x0 x1) (zL R L x0 x1 (x0.length:Int) 0):=by kernel_rfl
theorem qC (v0:List d77) (v1:FnVal) (v7 v8:Int):@Eq _ (zL R L v0 v1 v7 v8 ([1,0,1,0]++[0])) (cond (decide (v8 < v7)) (cond (zA v8) (cond (Ab v8.toNat v0.length) ((xB EE R v1 [⟨t4,(v0.getD v8.toNat (0,(0,(0,()))):d77)⟩]).bind fun (r0:Bool)=>cond r0 (some (v8,())) (zL R L v0 v1 v7 (Aa .i64 (v8+1)))) none) none) (some (-1,()))):=by kernel_rfl
theorem lW (x0:List d77) (x1:FnVal):@Eq _ (xO (zD EE R L) x0 x1) ((wI R x0 x1).bind fun r0=>some (decide (0≤r0.1),())):=by kernel_rfl
theorem Ag3 (x0:List d77) (x1:FnVal):@Eq _ (mT (zD EE R L) x0 x1) ((xO R x0 (FnVal.mk (334:Nat) (FCaps.fn x1 FCaps.nil))).bind fun r0=>some (!r0.1,())):=by kernel_rfl
theorem gX (x0:List d77):@Eq _ (vF (zD EE R L) x0) (cond (Nat.beq x0.length 0) (BF2 (some ([],())) (cond (yI (([]:List d77).length+x0.length)) (some ([]++x0,())) none)) (cond (yI (([]:List d77).length+x0.length)) (some ([]++x0,())) none)):=by kernel_rfl
theorem Au4 (x0:d79):@Eq _ (kR (zD EE R L) x0) ((vF R x0.2.1).bind fun r0=>(oD R x0.2.2.1).bind fun r1=>cond (yI (r0.1.length+r1.1.length)) (some (r0.1++r1.1,())) none):=by kernel_rfl
theorem Bq1 (x0:Int):@Eq _ (A0h (zD EE R L) x0) ((uF R x0 0 11).bind fun r0=>some (r0.1,())):=by kernel_rfl
theorem A8F (x0:Int):@Eq _ (kO (zD EE R L) x0) ((uF R x0 0 999999).bind fun r0=>some (r0.1,())):=by kernel_rfl
theorem A7H (x0:d77):@Eq _ (AN3 (zD EE R L) x0) ((A0h R x0.1).bind fun r0=>cond r0.1 ((gF R x0.2.1).bind fun r1=>cond r1.1 ((kO R x0.2.2.1).bind fun r2=>some (r2.1,())) (some (false,()))) (some (false,()))):=by kernel_rfl
theorem BI7 (x0:d79):@Eq _ (Aq5 (zD EE R L) x0) (cond (!(eqI (x0.1.length:Int) 12)) (some (false,())) ((tZ R x0.1 (FnVal.mk (205:Nat) FCaps.nil)).bind fun r0=>cond (!r0.1) (some (false,())) (cond (!(eqI (x0.2.2.1.length:Int) 15)) (some (false,())) (mX R L x0 x0.2.2.1 (x0.2.2.1.length:Int) 0)))):=by kernel_rfl
theorem Ay2 (v1:d79) (v25:List (List d77)) (v26 v27:Int):@Eq _ (mX R L v1 v25 v26 v27 ([1,1,0,1,0]++[0])) (cond (decide (v27 < v26)) (cond (zA v27) (cond (Ab v27.toNat v25.length) (cond (decide (2 < ((v25.getD v27.toNat []).length:Int))) (some (false,())) ((mT R (v25.getD v27.toNat []) (FnVal.mk (292:Nat) (FCaps.int .i64 v27 FCaps.nil))).bind fun r0=>cond (!r0.1) (some (false,())) (mX R L v1 v25 v26 (Aa .i64 (v27+1))))) none) none) ((kR R v1).bind fun r0=>jI R L v1 (Ad 12 false) r0.1 (r0.1.length:Int) 0)):=by kernel_rfl
theorem Ax0 (v1:d79) (v5:List Bool) (v43:List d77) (v44 v45:Int):@Eq _ (jI R L v1 v5 v43 v44 v45 ([1,1,1,1,0,1,0]++[0])) (cond (decide (v45 < v44)) (cond (zA v45) (cond (Ab v45.toNat v43.length) ((AN3 R (v43.getD v45.toNat (0,(0,(0,()))))).bind fun r0=>cond (!r0.1) (some (false,())) (cond (zA (v43.getD v45.toNat (0,(0,(0,())))).1) (cond (Ab (v43.getD v45.toNat (0,(0,(0,())))).1.toNat v1.1.length) (cond (!(eqI (v43.getD v45.toNat (0,(0,(0,())))).2.1 (v1.1.getD (v43.getD v45.toNat (0,(0,(0,())))).1.toNat 0))) (some (false,())) (cond (zA (v43.getD v45.toNat (0,(0,(0,())))).1) (cond (Ab (v43.getD v45.toNat (0,(0,(0,())))).1.toNat 12) (cond (v5.getD (v43.getD v45.toNat (0,(0,(0,())))).1.toNat false) (some (false,())) (cond (zA (v43.getD v45.toNat (0,(0,(0,())))).1) (cond (Ab (v43.getD v45.toNat (0,(0,(0,())))).1.toNat 12) (jI R L v1 (v5.set (v43.getD v45.toNat (0,(0,(0,())))).1.toNat true) v43 v44 (Aa .i64 (v45+1))) none) none)) none) none)) none) none)) none) none) (some (true,()))):=by kernel_rfl
theorem AR3 (x0:Int):@Eq _ (kS (zD EE R L) x0) (some (eqI x0 0,())):=by kernel_rfl
theorem Ae9 (x0:d80):@Eq _ (pQ (zD EE R L) x0) (cond (!x0.2.2.1) (cond (zA x0.2.1) (cond (Al x0.1.length x0.1.length) (cond (Al x0.2.1.toNat x0.1.length) ((tZ R (Ag x0.2.1.toNat (Ah x0.1.length x0.1)) (FnVal.mk (290:Nat) FCaps.nil)).bind fun r0=>some (r0.1,(x0,()))) none) none) none) (some (false,(x0,())))):=by kernel_rfl
theorem A31 (x0:List UInt8):@Eq _ (bH (zD EE R L) x0) ((kU R x0 140).bind fun r0=>(wG R r0.1 12 0 7).bind fun r1=>(vQ R r1.2.1 12).bind fun r2=>(wG R r2.2.1 11 0 9999).bind fun r3=>(xC R r3.2.1 0 2).bind fun r4=>oJ R L ([],(([],([],([],()))),())) r4.2.1 (r3.1,((r1.1,(r2.1,(Ad (15:Int).toNat [],()))),())) [] r4.1 0):=by kernel_rfl
theorem AS5 (v2:d82) (v5:d80) (v7:d82) (v8:List d83) (v23 v24:Int):@Eq _ (oJ R L v2 v5 v7 v8 v23 v24 ([1,1,1,1,1,0,1,0]++[0])) (cond (decide (v24 < v23)) ((xC R v5 0 19).bind fun r0=>(xC R r0.2.1 0 32).bind fun r1=>(wG R r1.2.1 r1.1 0 999999).bind fun r2=>cond (yI (v8.length+([(r0.1,(r2.1,()))]).length)) (oJ R L v2 r2.2.1 v7 (v8++[(r0.1,(r2.1,()))]) v23 (Aa .i64 (v24+1))) none) ((pQ R v5).bind fun r0=>cond (!r0.1) (some (([],(([],([],([],()))),())),([],(false,())))) ((A1n R v7).bind fun r1=>cond (!r1.1) (some (([],(([],([],([],()))),())),([],(false,())))) ((nF R v8).bind fun r2=>cond (!r2.1) (some (([],(([],([],([],()))),())),([],(false,())))) (some (v7,(v8,(true,())))))))):=by kernel_rfl
theorem A2F (x0:List UInt8):@Eq _ (dG (zD EE R L) x0) ((kU R x0 7).bind fun r0=>(vQ R r0.1 2).bind fun r1=>(pQ R r1.2.1).bind fun r2=>some (r1.1,(r2.1,()))):=by kernel_rfl
theorem A01 (x0:d89):@Eq _ (fE (zD EE R L) x0) ((jU R x0).bind fun r0=>(A0Y R r0.1).bind fun r1=>cond (!(eqS r1.1 x0.2.1.2.2.2.2.2.2.1)) (some (([],(([],([],([],()))),())),([],(false,())))) (cond (Ab (0:Int).toNat r0.1.length) ((eS R x0.1 1 (Aa .i64 (16 * x0.2.1.2.1)) x0.2.1.1 (r0.1.getD (0:Int).toNat [])).bind fun r2=>(bH R r2.1).bind fun r3=>cond (!r2.2.1) (some (([],(([],([],([],()))),())),([],(false,())))) (cond (!r3.2.2.1) (some (([],(([],([],([],()))),())),([],(false,())))) (qM R L x0 ([],(([],([],([],()))),())) r0.1 (Aa .i64 (16 * x0.2.1.2.1)) r3.1 r3.2.1 (r3.1.2.1.2.2.1.length:Int) 0))) none)):=by kernel_rfl
theorem AH5 (v1:d89) (v2:d82) (v5:List (List UInt8)) (v6:Int) (v9:d82) (v10:List d83) (v59 v60:Int):@Eq _ (qM R L v1 v2 v5 v6 v9 v10 v59 v60 ([1,1,1,1,1,1,1,0,1,0]++[0])) (cond (decide (v60 < v59)) (cond (zA (Aa .i64 (1+v60))) (cond (Ab (Aa .i64 (1+v60)).toNat v5.length) ((eS R v1.1 2 (Aa .i64 ((Aa .i64 (v6+1))+v60)) v1.2.1.1 (v5.getD (Aa .i64 (1+v60)).toNat [])).bind fun r0=>(dG R r0.1).bind fun r1=>cond (!r0.2.1) (some (([],(([],([],([],()))),())),([],(false,())))) (cond (!r1.2.1) (some (([],(([],([],([],()))),())),([],(false,())))) (cond (zA v60) (cond (Ab v60.toNat v9.2.1.2.2.1.length) (qM R L v1 v2 v5 v6 (v9.1,((v9.2.1.1,(v9.2.1.2.1,(v9.2.1.2.2.1.set v60.toNat r1.1,v9.2.1.2.2.2))),v9.2.2)) v10 v59 (Aa .i64 (v60+1))) none) none))) none) none) ((A1n R v9).bind fun r0=>some (v9,(v10,(r0.1,()))))):=by kernel_rfl
theorem A13 (x0:List UInt8):@Eq _ (dQ (zD EE R L) x0) ((gE R x0 140).bind fun r0=>(AV4 R []).bind fun r1=>vC R L ([],(([],([],([],()))),())) r0.1 ([],(r1.1,())) 0):=by kernel_rfl
theorem AO0 (v2:d82) (v5:d97) (v6:d82) (v7:Int):@Eq _ (vC R L v2 v5 v6 v7 ([1,1,1,0,1,0]++[0])) (cond (decide (v7 < 12)) ((zW R v5).bind fun r0=>cond (yI (v6.2.1.1.length+([r0.1]).length)) (vC R L v2 r0.2.1 (v6.1,((v6.2.1.1++[r0.1],v6.2.1.2),v6.2.2)) (Aa .i64 (v7+1))) none) ((xE R v5 12).bind fun r0=>tF R L v2 r0.2.1 v6 r0.1)):=by kernel_rfl
theorem AO6 (v2:d82) (v5:d97) (v6:d82) (v8:Int):@Eq _ (tF R L v2 v5 v6 v8 ([1,1,1,1,0,1,0]++[0])) (cond (decide (0 < v8)) ((zW R v5).bind fun r0=>(zW R r0.2.1).bind fun r1=>(zW R r1.2.1).bind fun r2=>cond (yI (v6.2.1.2.1.length+([(r0.1,(r1.1,(r2.1,())))]).length)) (tF R L v2 r2.2.1 (v6.1,((v6.2.1.1,(v6.2.1.2.1++[(r0.1,(r1.1,(r2.1,())))],v6.2.1.2.2)),v6.2.2)) (Aa .i64 (v8 - 1))) none) (yZ R L v2 v5 v6 0)):=by kernel_rfl
theorem AO4 (v2:d82) (v5:d97) (v6:d82) (v10:Int):@Eq _ (yZ R L v2 v5 v6 v10 ([1,1,1,1,1,0,1,0]++[0])) (cond (decide (v10 < 11)) ((zW R v5).bind fun r0=>cond (yI (v6.1.length+([r0.1]).length)) (yZ R L v2 r0.2.1 (v6.1++[r0.1],v6.2) (Aa .i64 (v10+1))) none) ((xE R v5 2).bind fun r0=>rM R L v2 r0.2.1 v6 [] r0.1)):=by kernel_rfl
theorem AN6 (v2:d82) (v5:d97) (v6:d82) (v11:List d83) (v12:Int):@Eq _ (rM R L v2 v5 v6 v11 v12 ([1,1,1,1,1,1,1,0,1,0]++[0])) (cond (decide (0 < v12)) ((zW R v5).bind fun r0=>(xE R r0.2.1 32).bind fun r1=>uW R L v2 r1.2.1 v6 v11 v12 (r0.1,([],())) r1.1) ((rF R v5).bind fun r0=>cond r0.1 ((AT3 R v6).bind fun r1=>cond r1.1 ((nE R v11).bind fun r2=>some (v6,(v11,(r2.1,())))) (some (v6,(v11,(false,()))))) (some (v6,(v11,(false,())))))):=by kernel_rfl
theorem AO5 (v2:d82) (v5:d97) (v6:d82) (v11:List d83) (v12:Int) (v13:d83) (v14:Int):@Eq _ (uW R L v2 v5 v6 v11 v12 v13 v14 ([1,1,1,1,1,1,1,0,1,0,0,1,0,0,1,0,1,0]++[0])) (cond (decide (0 < v14)) ((zW R v5).bind fun r0=>cond (yI (v13.2.1.length+([r0.1]).length)) (uW R L v2 r0.2.1 v6 v11 v12 (v13.1,(v13.2.1++[r0.1],v13.2.2)) (Aa .i64 (v14 - 1))) none) (cond (yI (v11.length+([v13]).length)) (rM R L v2 v5 v6 (v11++[v13]) (Aa .i64 (v12 - 1))) none)):=by kernel_rfl
theorem A7R (x0:d89):@Eq _ (AI5 (zD EE R L) x0) (pD R L x0 ([],(([],([],([],()))),())) [] 0):=by kernel_rfl
theorem Ai8 (v1:d89) (v2:d82) (v5:List (List UInt8)) (v6:Int):@Eq _ (pD R L v1 v2 v5 v6 ([1,1,0,1,0]++[0])) (cond (decide (v6 < 16)) ((AN1 R v1.2.2.1 (Aa .i64 ((Aa .i64 (16 * v1.2.1.2.1))+v6))).bind fun r0=>cond (yI (v5.length+([r0.1]).length)) (pD R L v1 v2 (v5++[r0.1]) (Aa .i64 (v6+1))) none) ((AI4 R v5).bind fun r0=>cond (!(eqS r0.1 v1.2.1.2.2.2.2.2.2.1)) (some (([],(([],([],([],()))),())),([],(false,())))) (cond (Ab (0:Int).toNat v5.length) ((hP R v1.1 1 (Aa .i64 (16 * v1.2.1.2.1)) v1.2.1.1 (v5.getD (0:Int).toNat [])).bind fun r1=>(dQ R r1.1).bind fun r2=>cond (!r1.2.1) (some (([],(([],([],([],()))),())),([],(false,())))) (cond (!r2.2.2.1) (some (([],(([],([],([],()))),())),([],(false,())))) (lJ R L v1 v2 v5 r2.1 r2.2.1 0))) none))):=by kernel_rfl
theorem An1 (v1:d89) (v2:d82) (v5:List (List UInt8)) (v9:d82) (v10:List d83) (v12:Int):@Eq _ (lJ R L v1 v2 v5 v9 v10 v12 ([1,1,1,1,1,1,1,0,1,0]++[0])) (cond (decide (v12 < 15)) (cond (zA (Aa .i64 (1+v12))) (cond (Ab (Aa .i64 (1+v12)).toNat v5.length) ((hP R v1.1 2 (Aa .i64 ((Aa .i64 ((Aa .i64 (16 * v1.2.1.2.1))+1))+v12)) v1.2.1.1 (v5.getD (Aa .i64 (1+v12)).toNat [])).bind fun r0=>(gW R r0.1).bind fun r1=>cond (!r0.2.1) (some (([],(([],([],([],()))),())),([],(false,())))) (cond (!r1.2.1) (some (([],(([],([],([],()))),())),([],(false,())))) (cond (zA v12) (cond (Ab v12.toNat v9.2.1.2.2.1.length) (lJ R L v1 v2 v5 (v9.1,((v9.2.1.1,(v9.2.1.2.1,(v9.2.1.2.2.1.set v12.toNat r1.1,v9.2.1.2.2.2))),v9.2.2)) v10 (Aa .i64 (v12+1))) none) none))) none) none) ((AT3 R v9).bind fun r0=>some (v9,(v10,(r0.1,()))))):=by kernel_rfl
theorem A5Q (x0:List UInt8) (x1:Int):@Eq _ (kU (zD EE R L) x0 x1) (cond (!(eqI (x0.length:Int) (Aa .i64 (4 * x1)))) (some (([],(0,(true,()))),())) ((AB5 R x0).bind fun r0=>some ((r0.1,(0,(false,()))),()))):=by kernel_rfl
theorem Af3 (x0:d80) (x1 x2:Int):@Eq _ (xC (zD EE R L) x0 x1 x2) (cond x0.2.2.1 (some (0,((x0.1,(x0.2.1,(true,x0.2.2.2))),()))) (cond (eqI x0.2.1 (x0.1.length:Int)) (some (0,((x0.1,(x0.2.1,(true,x0.2.2.2))),()))) (cond (zA x0.2.1) (cond (Ab x0.2.1.toNat x0.1.length) ((uF R (x0.1.getD x0.2.1.toNat 0) x1 x2).bind fun r0=>cond (!r0.1) (some (0,((x0.1,(x0.2.1,(true,x0.2.2.2))),()))) (cond (zA (Aa .i64 ((Aa .i64 (x0.2.1+1)) - 1))) (cond (Ab (Aa .i64 ((Aa .i64 (x0.2.1+1)) - 1)).toNat x0.1.length) (some (x0.1.getD (Aa .i64 ((Aa .i64 (x0.2.1+1)) - 1)).toNat 0,((x0.1,(Aa .i64 (x0.2.1+1),x0.2.2)),()))) none) none)) none) none))):=by kernel_rfl
theorem AP8 (x0:d80) (x1 x2 x3:Int):@Eq _ (wG (zD EE R L) x0 x1 x2 x3) (vD R L x0 x2 x3 [] x1 0):=by kernel_rfl
theorem gI (v0:d80) (v2 v3:Int) (v9:List Int) (v10 v11:Int):@Eq _ (vD R L v0 v2 v3 v9 v10 v11 ([1,1,0,1,0]++[0])) (cond (decide (v11 < v10)) ((xC R v0 v2 v3).bind fun r0=>cond (yI (v9.length+([r0.1]).length)) (vD R L r0.2.1 v2 v3 (v9++[r0.1]) v10 (Aa .i64 (v11+1))) none) (some (v9,(v0,())))):=by kernel_rfl
theorem AS1 (x0:d80) (x1:Int):@Eq _ (vQ (zD EE R L) x0 x1) ((xC R x0 0 x1).bind fun r0=>vK R L r0.2.1 [] r0.1 0):=by kernel_rfl
theorem fK (v0:d80) (v5:List d77) (v8 v9:Int):@Eq _ (vK R L v0 v5 v8 v9 ([1,1,0,1,0]++[0])) (cond (decide (v9 < v8)) ((xC R v0 0 11).bind fun r0=>(xC R r0.2.1 0 7).bind fun r1=>(xC R r1.2.1 0 999999).bind fun r2=>cond (yI (v5.length+([(r0.1,(r1.1,(r2.1,())))]).length)) (vK R L r2.2.1 (v5++[(r0.1,(r1.1,(r2.1,())))]) v8 (Aa .i64 (v9+1))) none) (some (v5,(v0,())))):=by kernel_rfl
theorem BZ0 (x0:d95):@Eq _ (Ah9 (zD EE R L) x0) ((AI0 R x0).bind fun r0=>cond (!r0.1) (some (false,(1,()))) ((fE R x0.1).bind fun r1=>cond x0.2.2.2.2.2.1 (cond (!r1.2.2.1) (some (true,(0,()))) ((fB R r1.1).bind fun r2=>(vH R r2.1 x0.2.2.1).bind fun r3=>cond r3.1 ((gS R r1.2.1 x0.2.2.2.2.1).bind fun r4=>some (r4.1,(0,()))) (some (false,(0,()))))) (some (false,(0,()))))):=by kernel_rfl
theorem Az4 (x0:d95):@Eq _ (cO (zD EE R L) x0) ((AJ8 R x0 1048576).bind fun r0=>cond (decide (r0.1 < 0)) (some (true,())) ((eG R x0).bind fun r1=>(Aj5 R r1.1).bind fun r2=>(eG R x0).bind fun r3=>(Ah9 R r3.1).bind fun r4=>cond (!(eqB r4.1 r2.1)) (some (false,())) (cond (!(eqI r4.2.1 r2.2.1)) (some (false,())) ((eG R x0).bind fun r5=>(AK6 R r3.1 r5.1).bind fun r6=>cond (!r6.1) (some (false,())) (some (true,())))))):=by kernel_rfl
theorem A7p (x0:List UInt8) (x1:Int):@Eq _ (gE (zD EE R L) x0 x1) ((bQ R x0).bind fun r0=>cond (!r0.2.1) (some (([],(1,())),())) (cond (!(eqI (r0.1.length:Int) x1)) (some (([],(1,())),())) (some ((r0.1,(0,())),())))):=by kernel_rfl
theorem AP5 (x0:d97):@Eq _ (zW (zD EE R L) x0) (cond (decide ((x0.1.length:Int)≤x0.2.1)) (some (-1,(x0,()))) (cond (zA (Aa .i64 ((Aa .i64 (x0.2.1+1)) - 1))) (cond (Ab (Aa .i64 ((Aa .i64 (x0.2.1+1)) - 1)).toNat x0.1.length) (some (x0.1.getD (Aa .i64 ((Aa .i64 (x0.2.1+1)) - 1)).toNat 0,((x0.1,(Aa .i64 (x0.2.1+1),x0.2.2)),()))) none) none)):=by kernel_rfl
theorem AJ3 (x0:d97) (x1:Int):@Eq _ (xE (zD EE R L) x0 x1) ((zW R x0).bind fun r0=>(wT R r0.1 0 x1).bind fun r1=>cond (!r1.1) (some (0,((r0.2.1.1,(Aa .i64 ((r0.2.1.1.length:Int)+1),r0.2.1.2.2)),()))) (some (r0.1,(r0.2.1,())))):=by kernel_rfl
theorem AP7 (x0:d97):@Eq _ (rF (zD EE R L) x0) (xF R L x0 x0.2.1):=by kernel_rfl
theorem nM (v0:d97) (v3:Int):@Eq _ (xF R L v0 v3 ([1,0,1,0]++[0])) (cond (decide (v3 < (v0.1.length:Int))) (cond (zA v3) (cond (Ab v3.toNat v0.1.length) (cond (!(eqI (v0.1.getD v3.toNat 0) 0)) (some (false,(v0,()))) (xF R L v0 (Aa .i64 (v3+1)))) none) none) (some (decide (v0.2.1≤(v0.1.length:Int)),(v0,())))):=by kernel_rfl
theorem A1Q (x0:List UInt8):@Eq _ (gW (zD EE R L) x0) ((gE R x0 7).bind fun r0=>(xE R r0.1 2).bind fun r1=>uE R L r1.2.1 [] r1.1):=by kernel_rfl
theorem AG3 (v4:d97) (v5:List d77) (v6:Int):@Eq _ (uE R L v4 v5 v6 ([1,1,1,0,1,0]++[0])) (cond (decide (0 < v6)) ((zW R v4).bind fun r0=>(zW R r0.2.1).bind fun r1=>(zW R r1.2.1).bind fun r2=>cond (yI (v5.length+([(r0.1,(r1.1,(r2.1,())))]).length)) (uE R L r2.2.1 (v5++[(r0.1,(r1.1,(r2.1,())))]) (Aa .i64 (v6 - 1))) none) ((rF R v4).bind fun r0=>cond r0.1 ((bK R v5).bind fun r1=>some (v5,(r1.1,()))) (some (v5,(false,()))))):=by kernel_rfl
theorem A42 (x0:d95):@Eq _ (AS4 (zD EE R L) x0) ((AI5 R x0.1).bind fun r0=>cond (!x0.2.2.2.2.2.1) (some (x0.2.2.2.2.2.1,())) (cond (!r0.2.2.1) (some (x0.2.2.2.2.2.1,())) ((AW3 R r0.1).bind fun r1=>cond (!(eqI (r1.1.length:Int) (x0.2.2.1.length:Int))) (some (false,())) (qF R L x0 r0.2.1 r1.1 0)))):=by kernel_rfl
theorem Aa5 (v1:d95) (v4:List d83) (v6:List d94) (v7:Int):@Eq _ (qF R L v1 v4 v6 v7 ([1,1,1,1,1,0,1,0]++[0])) (cond (decide (v7 < (v6.length:Int))) (cond (zA v7) (cond (Ab v7.toNat v6.length) (cond (zA v7) (cond (Ab v7.toNat v1.2.2.1.length) (cond (!(AQ (eqI (v6.getD v7.toNat (0,(0,()))).1 (v1.2.2.1.getD v7.toNat (0,(0,()))).1) (AQ (eqI (v6.getD v7.toNat (0,(0,()))).2.1 (v1.2.2.1.getD v7.toNat (0,(0,()))).2.1) true))) (some (false,())) (qF R L v1 v4 v6 (Aa .i64 (v7+1)))) none) none) none) none) ((dA R v4 v1.2.2.2.2.1).bind fun r0=>some (r0.1,()))):=by kernel_rfl
theorem BQ9 (x0:d95):@Eq _ (Aj5 (zD EE R L) x0) ((AK7 R x0).bind fun r0=>cond (!r0.1) (some (false,(1,()))) ((AS4 R x0).bind fun r1=>some (r1.1,(0,())))):=by kernel_rfl
theorem Az6 (x0:d79) (x1:Int):@Eq _ (iV (zD EE R L) x0 x1) ((kR R x0).bind fun r0=>rJ R L x1 r0.1 (r0.1.length:Int) 0):=by kernel_rfl
theorem AB9 (v1:Int) (v8:List d77) (v9 v10:Int):@Eq _ (rJ R L v1 v8 v9 v10 ([1,0,1,0]++[0])) (cond (decide (v10 < v9)) (cond (zA v10) (cond (Ab v10.toNat v8.length) (cond (eqI (v8.getD v10.toNat (0,(0,(0,())))).1 v1) (some ((v8.getD v10.toNat (0,(0,(0,())))).2.2.1,())) (rJ R L v1 v8 v9 (Aa .i64 (v10+1)))) none) none) (some (0,()))):=by kernel_rfl
theorem A1g (x0:d82):@Eq _ (fB (zD EE R L) x0) (sH R L x0 [] x0.1 (x0.1.length:Int) 0):=by kernel_rfl
theorem AG4 (v1:d82) (v3:List d94) (v9:List Int) (v10 v11:Int):@Eq _ (sH R L v1 v3 v9 v10 v11 ([1,1,0,1,0]++[0])) (cond (decide (v11 < v10)) (cond (zA v11) (cond (Ab v11.toNat v9.length) (cond (decide (0 < (v9.getD v11.toNat 0))) ((A0W R v3 (v9.getD v11.toNat 0)).bind fun r0=>(iV R v1.2.1 v11).bind fun r1=>(oC R v3 r0.1 [(v9.getD v11.toNat 0,(r1.1,()))]).bind fun r2=>sH R L v1 r2.1 v9 v10 (Aa .i64 (v11+1))) (sH R L v1 v3 v9 v10 (Aa .i64 (v11+1)))) none) none) (some (v3,()))):=by kernel_rfl
theorem A5o (x0:List Int) (x1:Int):@Eq _ (AC3 (zD EE R L) x0 x1) (cond (yI (x0.length+([Aa .u8 x1,Aa .u8 (Aj x1 (2 ^ (Ae (8:Int).toNat (Ac .i64)))),Aa .u8 (Aj x1 (2 ^ (Ae (16:Int).toNat (Ac .i64)))),Aa .u8 (Aj x1 (2 ^ (Ae (24:Int).toNat (Ac .i64))))]).length)) (some (x0++[Aa .u8 x1,Aa .u8 (Aj x1 (2 ^ (Ae (8:Int).toNat (Ac .i64)))),Aa .u8 (Aj x1 (2 ^ (Ae (16:Int).toNat (Ac .i64)))),Aa .u8 (Aj x1 (2 ^ (Ae (24:Int).toNat (Ac .i64))))],())) none):=by kernel_rfl
theorem A6m:@Eq _ (AS2 (zD EE R L)) (some ([1779033703,3144134277,1013904242,2773480762,1359893119,2600822924,528734635,1541459225],())):=by kernel_rfl
theorem A7s:@Eq _ (AM1 (zD EE R L)) ((AS2 R).bind fun r0=>some ((r0.1,([],(0,()))),())):=by kernel_rfl
theorem A7t (x0:List UInt8) (x1:Int):@Eq _ (AK1 (zD EE R L) x0 x1) (cond (zA x1) (cond (Ab x1.toNat x0.length) (cond (zA (Aa .i64 (x1+1))) (cond (Ab (Aa .i64 (x1+1)).toNat x0.length) (cond (zA (Aa .i64 (x1+2))) (cond (Ab (Aa .i64 (x1+2)).toNat x0.length) (cond (zA (Aa .i64 (x1+3))) (cond (Ab (Aa .i64 (x1+3)).toNat x0.length) (some (wB .or .i64 (wB .or .i64 (wB .or .i64 (Aa .i64 ((Aa .i64 (Ai (x0.getD x1.toNat 0):Int)) * (2 ^ (Ae (24:Int).toNat (Ac .i64))))) (Aa .i64 ((Aa .i64 (Ai (x0.getD (Aa .i64 (x1+1)).toNat 0):Int)) * (2 ^ (Ae (16:Int).toNat (Ac .i64)))))) (Aa .i64 ((Aa .i64 (Ai (x0.getD (Aa .i64 (x1+2)).toNat 0):Int)) * (2 ^ (Ae (8:Int).toNat (Ac .i64)))))) (Aa .i64 (Ai (x0.getD (Aa .i64 (x1+3)).toNat 0):Int)),())) none) none) none) none) none) none) none) none):=by kernel_rfl
theorem A4y (x0 x1:Int):@Eq _ (yS (zD EE R L) x0 x1) (cond (decide (x1 < 0)) none (cond (decide ((Aa .i64 (32 - x1)) < 0)) none (some (wB .and .i64 (wB .or .i64 (Aj x0 (2 ^ (Ae x1.toNat (Ac .i64)))) (Aa .i64 (x0 * (2 ^ (Ae (Aa .i64 (32 - x1)).toNat (Ac .i64)))))) 4294967295,())))):=by kernel_rfl
theorem A47:@Eq _ (AR5 (zD EE R L)) (some ([1116352408,1899447441,3049323471,3921009573,961987163,1508970993,2453635748,2870763221,3624381080,310598401,607225278,1426881987,1925078388,2162078206,2614888103,3248222580,3835390401,4022224774,264347078,604807628,770255983,1249150122,1555081692,1996064986,2554220882,2821834349,2952996808,3210313671,3336571891,3584528711,113926993,338241895,666307205,773529912,1294757372,1396182291,1695183700,1986661051,2177026350,2456956037,2730485921,2820302411,3259730800,3345764771,3516065817,3600352804,4094571909,275423344,430227734,506948616,659060556,883997877,958139571,1322822218,1537002063,1747873779,1955562222,2024104815,2227730452,2361852424,2428436474,2756734187,3204031479,3329325298],())):=by kernel_rfl
theorem A43 (x0:List Int) (x1:List UInt8):@Eq _ (AC4 (zD EE R L) x0 x1) (tY R L x1 x0 (Ad 8 0) [0,0,0,0,0,0,0,0,0,0,0,0,0,0,0,0,0,0,0,0,0,0,0,0,0,0,0,0,0,0,0,0,0,0,0,0,0,0,0,0,0,0,0,0,0,0,0,0,0,0,0,0,0,0,0,0,0,0,0,0,0,0,0,0] 0):=by kernel_rfl
theorem Ad3 (v1:List UInt8) (v2 v4 v5:List Int) (v6:Int):@Eq _ (tY R L v1 v2 v4 v5 v6 ([1,1,0,1,0]++[0])) (cond (decide (v6 < 16)) ((AK1 R v1 (Aa .i64 (4 * v6))).bind fun r0=>cond (zA v6) (cond (Ab v6.toNat 64) (tY R L v1 v2 v4 (v5.set v6.toNat r0.1) (Aa .i64 (v6+1))) none) none) (wM R L v2 v4 v5 16)):=by kernel_rfl
theorem Aa7 (v2 v4 v5:List Int) (v7:Int):@Eq _ (wM R L v2 v4 v5 v7 ([1,1,1,0,1,0]++[0])) (cond (decide (v7 < 64)) (cond (zA (Aa .i64 (v7 - 15))) (cond (Ab (Aa .i64 (v7 - 15)).toNat 64) ((yS R (v5.getD (Aa .i64 (v7 - 15)).toNat 0) 7).bind fun r0=>cond (zA (Aa .i64 (v7 - 15))) (cond (Ab (Aa .i64 (v7 - 15)).toNat 64) ((yS R (v5.getD (Aa .i64 (v7 - 15)).toNat 0) 18).bind fun r1=>cond (zA (Aa .i64 (v7 - 15))) (cond (Ab (Aa .i64 (v7 - 15)).toNat 64) (cond (zA (Aa .i64 (v7 - 2))) (cond (Ab (Aa .i64 (v7 - 2)).toNat 64) ((yS R (v5.getD (Aa .i64 (v7 - 2)).toNat 0) 17).bind fun r2=>cond (zA (Aa .i64 (v7 - 2))) (cond (Ab (Aa .i64 (v7 - 2)).toNat 64) ((yS R (v5.getD (Aa .i64 (v7 - 2)).toNat 0) 19).bind fun r3=>cond (zA (Aa .i64 (v7 - 2))) (cond (Ab (Aa .i64 (v7 - 2)).toNat 64) (cond (zA (Aa .i64 (v7 - 16))) (cond (Ab (Aa .i64 (v7 - 16)).toNat 64) (cond (zA (Aa .i64 (v7 - 7))) (cond (Ab (Aa .i64 (v7 - 7)).toNat 64) (cond (zA v7) (cond (Ab v7.toNat 64) (wM R L v2 v4 (v5.set v7.toNat (wB .and .i64 (Aa .i64 ((Aa .i64 ((Aa .i64 ((v5.getD (Aa .i64 (v7 - 16)).toNat 0)+(wB .xor .i64 (wB .xor .i64 r0.1 r1.1) (Aj (v5.getD (Aa .i64 (v7 - 15)).toNat 0) (2 ^ (Ae (3:Int).toNat (Ac .i64)))))))+(v5.getD (Aa .i64 (v7 - 7)).toNat 0)))+(wB .xor .i64 (wB .xor .i64 r2.1 r3.1) (Aj (v5.getD (Aa .i64 (v7 - 2)).toNat 0) (2 ^ (Ae (10:Int).toNat (Ac .i64))))))) 4294967295)) (Aa .i64 (v7+1))) none) none) none) none) none) none) none) none) none) none) none) none) none) none) none) none) none) none) ((AR5 R).bind fun r0=>wV R L v2 v4 v5 r0.1 v2 0)):=by kernel_rfl
theorem Ad4 (v2 v4 v5 v10 v11:List Int) (v12:Int):@Eq _ (wV R L v2 v4 v5 v10 v11 v12 ([1,1,1,1,1,1,0,1,0]++[0])) (cond (decide (v12 < 64)) ((yS R (v11.getD (4:Int).toNat 0) 6).bind fun r0=>(yS R (v11.getD (4:Int).toNat 0) 11).bind fun r1=>(yS R (v11.getD (4:Int).toNat 0) 25).bind fun r2=>cond (zA v12) (cond (Ab v12.toNat 64) (cond (zA v12) (cond (Ab v12.toNat 64) ((yS R (v11.getD (0:Int).toNat 0) 2).bind fun r3=>(yS R (v11.getD (0:Int).toNat 0) 13).bind fun r4=>(yS R (v11.getD (0:Int).toNat 0) 22).bind fun r5=>wV R L v2 v4 v5 v10 [wB .and .i64 (Aa .i64 ((Aa .i64 ((Aa .i64 ((Aa .i64 ((Aa .i64 ((Aa .i64 ((v11.getD (7:Int).toNat 0)+(wB .xor .i64 (wB .xor .i64 r0.1 r1.1) r2.1)))+(wB .xor .i64 (wB .and .i64 (v11.getD (4:Int).toNat 0) (v11.getD (5:Int).toNat 0)) (wB .and .i64 (wB .xor .i64 4294967295 (v11.getD (4:Int).toNat 0)) (v11.getD (6:Int).toNat 0)))))+(v10.getD v12.toNat 0)))+(v5.getD v12.toNat 0)))+(wB .xor .i64 (wB .xor .i64 r3.1 r4.1) r5.1)))+(wB .xor .i64 (wB .xor .i64 (wB .and .i64 (v11.getD (0:Int).toNat 0) (v11.getD (1:Int).toNat 0)) (wB .and .i64 (v11.getD (0:Int).toNat 0) (v11.getD (2:Int).toNat 0))) (wB .and .i64 (v11.getD (1:Int).toNat 0) (v11.getD (2:Int).toNat 0))))) 4294967295,v11.getD (0:Int).toNat 0,v11.getD (1:Int).toNat 0,v11.getD (2:Int).toNat 0,wB .and .i64 (Aa .i64 ((v11.getD (3:Int).toNat 0)+(Aa .i64 ((Aa .i64 ((Aa .i64 ((Aa .i64 ((v11.getD (7:Int).toNat 0)+(wB .xor .i64 (wB .xor .i64 r0.1 r1.1) r2.1)))+(wB .xor .i64 (wB .and .i64 (v11.getD (4:Int).toNat 0) (v11.getD (5:Int).toNat 0)) (wB .and .i64 (wB .xor .i64 4294967295 (v11.getD (4:Int).toNat 0)) (v11.getD (6:Int).toNat 0)))))+(v10.getD v12.toNat 0)))+(v5.getD v12.toNat 0))))) 4294967295,v11.getD (4:Int).toNat 0,v11.getD (5:Int).toNat 0,v11.getD (6:Int).toNat 0] (Aa .i64 (v12+1))) none) none) none) none) (vR R L v2 v4 v11 0)):=by kernel_rfl
theorem Ad1 (v2 v4 v11:List Int) (v18:Int):@Eq _ (vR R L v2 v4 v11 v18 ([1,1,1,1,1,1,1,0,1,0]++[0])) (cond (decide (v18 < 8)) (cond (zA v18) (cond (Ab v18.toNat 8) (cond (zA v18) (cond (Ab v18.toNat 8) (cond (zA v18) (cond (Ab v18.toNat 8) (vR R L (v2.set v18.toNat (wB .and .i64 (Aa .i64 ((v2.getD v18.toNat 0)+(v11.getD v18.toNat 0))) 4294967295)) v4 v11 (Aa .i64 (v18+1))) none) none) none) none) none) none) (some (v2,()))):=by kernel_rfl
theorem A7P (x0:AT4) (x1:List UInt8):@Eq _ (gA (zD EE R L) x0 x1) (cond (yI (x0.2.1.length+x1.length)) (nC R L (x0.1,(x0.2.1++x1,(Aa .i64 (x0.2.2.1+(x1.length:Int)),x0.2.2.2))) (Ad 8 0,([],(0,())))) none):=by kernel_rfl
theorem Aj4 (v2 v4:AT4):@Eq _ (nC R L v2 v4 ([1,1,1,0,0]++[0])) (cond (decide (64≤(v2.2.1.length:Int))) ((AC4 R v2.1 v2.2.1).bind fun r0=>cond (Al v2.2.1.length v2.2.1.length) (cond (Al (64:Int).toNat v2.2.1.length) (nC R L (r0.1,(Ag (64:Int).toNat (Ah v2.2.1.length v2.2.1),v2.2.2)) v4) none) none) (some (v2,()))):=by kernel_rfl
theorem BN7 (x0:AT4):@Eq _ (AW0 (zD EE R L) x0) (mV R L x0 (Aa .i64 (8 * x0.2.2.1)) [128]):=by kernel_rfl
theorem Ay0 (v1:AT4) (v3:Int) (v4:List Int):@Eq _ (mV R L v1 v3 v4 ([1,1,1,0,0]++[0])) (cond (!(eqI (Af (Aa .i64 (v1.2.2.1+(v4.length:Int))) 64) 56)) (cond (yI (v4.length+([(0:Int)]).length)) (mV R L v1 v3 (v4++[0])) none) (uR R L v1 v3 v4 7)):=by kernel_rfl
theorem Au9 (v1:AT4) (v3:Int) (v4:List Int) (v5:Int):@Eq _ (uR R L v1 v3 v4 v5 ([1,1,1,1,0,1,0]++[0])) (cond (decide (0≤v5)) (cond (decide ((Aa .i64 (8 * v5)) < 0)) none (cond (yI (v4.length+([Aa .u8 (Aj v3 (2 ^ (Ae (Aa .i64 (8 * v5)).toNat (Ac .i64))))]).length)) (uR R L v1 v3 (v4++[Aa .u8 (Aj v3 (2 ^ (Ae (Aa .i64 (8 * v5)).toNat (Ac .i64))))]) (Aa .i64 (v5 - 1))) none)) ((gA R v1 (An (fun (n:Int)=>Am n.toNat) v4)).bind fun r0=>uS R L r0.1 [] 0)):=by kernel_rfl
theorem Aw1 (v1:AT4) (v6:List Int) (v7:Int):@Eq _ (uS R L v1 v6 v7 ([1,1,1,1,1,1,1,0,1,0]++[0])) (cond (decide (v7 < 8)) (rR R L v1 v6 v7 3) (some (An (fun (n:Int)=>Am n.toNat) v6,()))):=by kernel_rfl
theorem Aw7 (v1:AT4) (v6:List Int) (v7 v8:Int):@Eq _ (rR R L v1 v6 v7 v8 ([1,1,1,1,1,1,1,0,1,0,0,1,0,0,1,0]++[0])) (cond (decide (0≤v8)) (cond (zA v7) (cond (Ab v7.toNat 8) (cond (decide ((Aa .i64 (8 * v8)) < 0)) none (cond (yI (v6.length+([Aa .u8 (Aj (v1.1.getD v7.toNat 0) (2 ^ (Ae (Aa .i64 (8 * v8)).toNat (Ac .i64))))]).length)) (rR R L v1 (v6++[Aa .u8 (Aj (v1.1.getD v7.toNat 0) (2 ^ (Ae (Aa .i64 (8 * v8)).toNat (Ac .i64))))]) v7 (Aa .i64 (v8 - 1))) none)) none) none) (uS R L v1 v6 (Aa .i64 (v7+1)))):=by kernel_rfl
theorem BS6 (x0:List UInt8):@Eq _ (AT5 (zD EE R L) x0) ((AM1 R).bind fun r0=>(gA R r0.1 x0).bind fun r1=>(AW0 R r1.1).bind fun r2=>some (r2.1,())):=by kernel_rfl
theorem A8a:@Eq _ (Ae7 (zD EE R L)) (some (([1779033703,3144134277,1013904242,2773480762,1359893119,2600822924,528734635,1541459225],([],(0,()))),())):=by kernel_rfl
theorem A4l:@Eq _ (AK3 (zD EE R L)) (some ([1116352408,1899447441,3049323471,3921009573,961987163,1508970993,2453635748,2870763221,3624381080,310598401,607225278,1426881987,1925078388,2162078206,2614888103,3248222580,3835390401,4022224774,264347078,604807628,770255983,1249150122,1555081692,1996064986,2554220882,2821834349,2952996808,3210313671,3336571891,3584528711,113926993,338241895,666307205,773529912,1294757372,1396182291,1695183700,1986661051,2177026350,2456956037,2730485921,2820302411,3259730800,3345764771,3516065817,3600352804,4094571909,275423344,430227734,506948616,659060556,883997877,958139571,1322822218,1537002063,1747873779,1955562222,2024104815,2227730452,2361852424,2428436474,2756734187,3204031479,3329325298],())):=by kernel_rfl
theorem gL (x0 x1:Int):@Eq _ (xM (zD EE R L) x0 x1) (cond (decide ((Aa .u64 (32 - (wB .and .u64 (Aa .u64 x1) 31))) < 0)) none (some (wB .or .u32 (Aa .u32 (x0 * (2 ^ (Ae (wB .and .u64 (Aa .u64 x1) 31).toNat (Ac .u32))))) (Aj x0 (2 ^ (Ae (Aa .u64 (32 - (wB .and .u64 (Aa .u64 x1) 31))).toNat (Ac .u32)))),()))):=by kernel_rfl
theorem BM4 (x0 x1:Int):@Eq _ (wN (zD EE R L) x0 x1) ((xM R x0 (Bv1 .i64 x1)).bind fun r0=>some (r0.1,())):=by kernel_rfl
theorem Aj6 (x0:AT4) (x1:List UInt8) (x2:List Int):@Eq _ (lR (zD EE R L) x0 x1 x2) (xU R L x0 x1 x2 (Ad 64 0) 0):=by kernel_rfl
theorem cT (v0:AT4) (v1:List UInt8) (v2 v6:List Int) (v25:Int):@Eq _ (xU R L v0 v1 v2 v6 v25 ([1,0,1,0]++[0])) (cond (decide (v25 < 16)) (cond (zA (Aa .i64 (4 * v25))) (cond (Ab (Aa .i64 (4 * v25)).toNat v1.length) (cond (zA (Aa .i64 ((Aa .i64 (4 * v25))+1))) (cond (Ab (Aa .i64 ((Aa .i64 (4 * v25))+1)).toNat v1.length) (cond (zA (Aa .i64 ((Aa .i64 (4 * v25))+2))) (cond (Ab (Aa .i64 ((Aa .i64 (4 * v25))+2)).toNat v1.length) (cond (zA (Aa .i64 ((Aa .i64 (4 * v25))+3))) (cond (Ab (Aa .i64 ((Aa .i64 (4 * v25))+3)).toNat v1.length) (cond (zA v25) (cond (Ab v25.toNat 64) (xU R L v0 v1 v2 (v6.set v25.toNat (wB .or .u32 (wB .or .u32 (wB .or .u32 (Aa .u32 ((Aa .u32 (Ai (v1.getD (Aa .i64 (4 * v25)).toNat 0):Int)) * (2 ^ (Ae (24:Int).toNat (Ac .u32))))) (Aa .u32 ((Aa .u32 (Ai (v1.getD (Aa .i64 ((Aa .i64 (4 * v25))+1)).toNat 0):Int)) * (2 ^ (Ae (16:Int).toNat (Ac .u32)))))) (Aa .u32 ((Aa .u32 (Ai (v1.getD (Aa .i64 ((Aa .i64 (4 * v25))+2)).toNat 0):Int)) * (2 ^ (Ae (8:Int).toNat (Ac .u32)))))) (Aa .u32 (Ai (v1.getD (Aa .i64 ((Aa .i64 (4 * v25))+3)).toNat 0):Int)))) (Aa .i64 (v25+1))) none) none) none) none) none) none) none) none) none) none) (yD R L v0 v2 v6 16)):=by kernel_rfl
theorem cY (v0:AT4) (v2 v6:List Int) (v8:Int):@Eq _ (yD R L v0 v2 v6 v8 ([1,1,0,1,0]++[0])) (cond (decide (v8 < 64)) (cond (zA (Aa .i64 (v8 - 15))) (cond (Ab (Aa .i64 (v8 - 15)).toNat 64) (cond (zA (Aa .i64 (v8 - 2))) (cond (Ab (Aa .i64 (v8 - 2)).toNat 64) (cond (zA (Aa .i64 (v8 - 16))) (cond (Ab (Aa .i64 (v8 - 16)).toNat 64) ((wN R (v6.getD (Aa .i64 (v8 - 15)).toNat 0) 7).bind fun r0=>(wN R (v6.getD (Aa .i64 (v8 - 15)).toNat 0) 18).bind fun r1=>cond (zA (Aa .i64 (v8 - 7))) (cond (Ab (Aa .i64 (v8 - 7)).toNat 64) ((wN R (v6.getD (Aa .i64 (v8 - 2)).toNat 0) 17).bind fun r2=>(wN R (v6.getD (Aa .i64 (v8 - 2)).toNat 0) 19).bind fun r3=>cond (zA v8) (cond (Ab v8.toNat 64) (yD R L v0 v2 (v6.set v8.toNat (Aa .u32 ((Aa .u32 ((Aa .u32 ((v6.getD (Aa .i64 (v8 - 16)).toNat 0)+(wB .xor .u32 (wB .xor .u32 r0.1 r1.1) (Aj (v6.getD (Aa .i64 (v8 - 15)).toNat 0) (2 ^ (Ae (3:Int).toNat (Ac .u32)))))))+(v6.getD (Aa .i64 (v8 - 7)).toNat 0)))+(wB .xor .u32 (wB .xor .u32 r2.1 r3.1) (Aj (v6.getD (Aa .i64 (v8 - 2)).toNat 0) (2 ^ (Ae (10:Int).toNat (Ac .u32)))))))) (Aa .i64 (v8+1))) none) none) none) none) none) none) none) none) none) none) (yG R L v0 v2 v6 (Ad 8 0) v0.1 0)):=by kernel_rfl
theorem cV (v0:AT4) (v2 v6 v11 v104:List Int) (v105:Int):@Eq _ (yG R L v0 v2 v6 v11 v104 v105 ([1,1,1,1,0,1,0]++[0])) (cond (decide (v105 < 8)) (cond (zA v105) (cond (Ab v105.toNat 8) (cond (zA v105) (cond (Ab v105.toNat 8) (yG R L v0 v2 v6 (v11.set v105.toNat (Aa .u32 (v104.getD v105.toNat 0))) v104 (Aa .i64 (v105+1))) none) none) none) none) (yR R L v0 v2 v6 v11 0)):=by kernel_rfl
theorem cW (v0:AT4) (v2 v6 v11:List Int) (v114:Int):@Eq _ (yR R L v0 v2 v6 v11 v114 ([1,1,1,1,1,0,1,0]++[0])) (cond (decide (v114 < 64)) ((wN R (v11.getD (4:Int).toNat 0) 6).bind fun r0=>(wN R (v11.getD (4:Int).toNat 0) 11).bind fun r1=>(wN R (v11.getD (4:Int).toNat 0) 25).bind fun r2=>cond (zA v114) (cond (Ab v114.toNat 64) (cond (zA v114) (cond (Ab v114.toNat 64) ((wN R (v11.getD (0:Int).toNat 0) 2).bind fun r3=>(wN R (v11.getD (0:Int).toNat 0) 13).bind fun r4=>(wN R (v11.getD (0:Int).toNat 0) 22).bind fun r5=>yR R L v0 v2 v6 [Aa .u32 ((Aa .u32 ((Aa .u32 ((Aa .u32 ((Aa .u32 ((v11.getD (7:Int).toNat 0)+(wB .xor .u32 (wB .xor .u32 r0.1 r1.1) r2.1)))+(wB .xor .u32 (wB .and .u32 (v11.getD (4:Int).toNat 0) (v11.getD (5:Int).toNat 0)) (wB .and .u32 (wB .xor .u32 ((2 ^ (Ac .u32)) - 1) (v11.getD (4:Int).toNat 0)) (v11.getD (6:Int).toNat 0)))))+(v2.getD v114.toNat 0)))+(v6.getD v114.toNat 0)))+(Aa .u32 ((wB .xor .u32 (wB .xor .u32 r3.1 r4.1) r5.1)+(wB .xor .u32 (wB .xor .u32 (wB .and .u32 (v11.getD (0:Int).toNat 0) (v11.getD (1:Int).toNat 0)) (wB .and .u32 (v11.getD (0:Int).toNat 0) (v11.getD (2:Int).toNat 0))) (wB .and .u32 (v11.getD (1:Int).toNat 0) (v11.getD (2:Int).toNat 0)))))),v11.getD (0:Int).toNat 0,v11.getD (1:Int).toNat 0,v11.getD (2:Int).toNat 0,Aa .u32 ((v11.getD (3:Int).toNat 0)+(Aa .u32 ((Aa .u32 ((Aa .u32 ((Aa .u32 ((v11.getD (7:Int).toNat 0)+(wB .xor .u32 (wB .xor .u32 r0.1 r1.1) r2.1)))+(wB .xor .u32 (wB .and .u32 (v11.getD (4:Int).toNat 0) (v11.getD (5:Int).toNat 0)) (wB .and .u32 (wB .xor .u32 ((2 ^ (Ac .u32)) - 1) (v11.getD (4:Int).toNat 0)) (v11.getD (6:Int).toNat 0)))))+(v2.getD v114.toNat 0)))+(v6.getD v114.toNat 0)))),v11.getD (4:Int).toNat 0,v11.getD (5:Int).toNat 0,v11.getD (6:Int).toNat 0] (Aa .i64 (v114+1))) none) none) none) none) (yV R L v0 v11 0)):=by kernel_rfl
theorem cQ (v0:AT4) (v194:List Int) (v195:Int):@Eq _ (yV R L v0 v194 v195 ([1,1,1,1,1,1,1,0]++[0])) (cond (decide (v195 < 8)) (cond (zA v195) (cond (Ab v195.toNat 8) (cond (zA v195) (cond (Ab v195.toNat 8) (cond (zA v195) (cond (Ab v195.toNat 8) (yV R L (v0.1.set v195.toNat (Aa .i64 (Aa .u32 ((Aa .u32 (v0.1.getD v195.toNat 0))+(v194.getD v195.toNat 0)))),v0.2) v194 (Aa .i64 (v195+1))) none) none) none) none) none) none) (some (v0,()))):=by kernel_rfl
theorem A3o (x0:AT4) (x1:List UInt8):@Eq _ (mZ (zD EE R L) x0 x1) ((AK3 R).bind fun r0=>cond (yI (x0.2.1.length+x1.length)) (qN R L (x0.2.1++x1) (x0.1,(x0.2.1,(Aa .i64 (x0.2.2.1+(x1.length:Int)),x0.2.2.2))) (Ad 8 0,([],(0,()))) r0.1) none):=by kernel_rfl
theorem AQ2 (v1:List UInt8) (v2 v4:AT4) (v5:List Int):@Eq _ (qN R L v1 v2 v4 v5 ([1,1,1,1,0,0]++[0])) (cond (decide (64≤(v1.length:Int))) (cond (Al (64:Int).toNat v1.length) ((lR R v2 (Ag 0 (Ah (64:Int).toNat v1)) v5).bind fun r0=>cond (Al v1.length v1.length) (cond (Al (64:Int).toNat v1.length) (qN R L (Ag (64:Int).toNat (Ah v1.length v1)) r0.1 v4 v5) none) none) none) (some ((v2.1,(v1,v2.2.2)),()))):=by kernel_rfl
theorem A60 (x0:AT4):@Eq _ (AC7 (zD EE R L) x0) ((lC R [0] (Af (Aa .i64 (119 - (x0.2.1.length:Int))) 64)).bind fun r0=>cond (yI (([(128:UInt8)]).length+r0.1.length)) (wY R L x0 (Aa .i64 (8 * x0.2.2.1)) ([128]++r0.1) 7) none):=by kernel_rfl
theorem Ab0 (v1:AT4) (v3:Int) (v4:List UInt8) (v5:Int):@Eq _ (wY R L v1 v3 v4 v5 ([1,1,1,0,1,0]++[0])) (cond (decide (0≤v5)) (cond (decide ((Aa .i64 (8 * v5)) < 0)) none (cond (yI (v4.length+(An (fun (n:Int)=>Am n.toNat) [Aa .u8 (Aj v3 (2 ^ (Ae (Aa .i64 (8 * v5)).toNat (Ac .i64))))]).length)) (wY R L v1 v3 (v4++(An (fun (n:Int)=>Am n.toNat) [Aa .u8 (Aj v3 (2 ^ (Ae (Aa .i64 (8 * v5)).toNat (Ac .i64))))])) (Aa .i64 (v5 - 1))) none)) ((mZ R v1 v4).bind fun r0=>uJ R L [] r0.1.1 0)):=by kernel_rfl
theorem Ab5 (v6 v35:List Int) (v36:Int):@Eq _ (uJ R L v6 v35 v36 ([1,1,1,1,1,0,1,0]++[0])) (cond (decide (v36 < 8)) (cond (zA v36) (cond (Ab v36.toNat 8) (cond (yI (v6.length+([Aa .u8 (Aj (v35.getD v36.toNat 0) (2 ^ (Ae (24:Int).toNat (Ac .i64)))),Aa .u8 (Aj (v35.getD v36.toNat 0) (2 ^ (Ae (16:Int).toNat (Ac .i64)))),Aa .u8 (Aj (v35.getD v36.toNat 0) (2 ^ (Ae (8:Int).toNat (Ac .i64)))),Aa .u8 (v35.getD v36.toNat 0)]).length)) (uJ R L (v6++[Aa .u8 (Aj (v35.getD v36.toNat 0) (2 ^ (Ae (24:Int).toNat (Ac .i64)))),Aa .u8 (Aj (v35.getD v36.toNat 0) (2 ^ (Ae (16:Int).toNat (Ac .i64)))),Aa .u8 (Aj (v35.getD v36.toNat 0) (2 ^ (Ae (8:Int).toNat (Ac .i64)))),Aa .u8 (v35.getD v36.toNat 0)]) v35 (Aa .i64 (v36+1))) none) none) none) (some (An (fun (n:Int)=>Am n.toNat) v6,()))):=by kernel_rfl
theorem BD9 (x0:List UInt8):@Eq _ (AH2 (zD EE R L) x0) ((Ae7 R).bind fun r0=>(mZ R r0.1 x0).bind fun r1=>(AC7 R r1.1).bind fun r2=>some (r2.1,())):=by kernel_rfl
theorem BJ8 (x0 x1:Int):@Eq _ (uH (zD EE R L) x0 x1) (qV R L x0 [] x1 0):=by kernel_rfl
theorem Aw3 (v0:Int) (v5:List Int) (v7 v8:Int):@Eq _ (qV R L v0 v5 v7 v8 ([1,1,0,1,0]++[0])) (cond (decide (v8 < v7)) (cond (decide ((Aa .i64 (8 * v8)) < 0)) none (cond (yI (v5.length+([Aa .u8 (Aj v0 (2 ^ (Ae (Aa .i64 (8 * v8)).toNat (Ac .i64))))]).length)) (qV R L v0 (v5++[Aa .u8 (Aj v0 (2 ^ (Ae (Aa .i64 (8 * v8)).toNat (Ac .i64))))]) v7 (Aa .i64 (v8+1))) none)) (some (An (fun (n:Int)=>Am n.toNat) v5,()))):=by kernel_rfl
theorem A2G (x0:List UInt8):@Eq _ (iT (zD EE R L) x0) (cond (Ab (0:Int).toNat x0.length) (cond (Ab (1:Int).toNat x0.length) (cond (Ab (2:Int).toNat x0.length) (cond (Ab (3:Int).toNat x0.length) (some (wB .or .u32 (wB .or .u32 (wB .or .u32 (Aa .u32 (Ai (x0.getD (0:Int).toNat 0):Int)) (Aa .u32 ((Aa .u32 (Ai (x0.getD (1:Int).toNat 0):Int)) * (2 ^ (Ae (8:Int).toNat (Ac .u32)))))) (Aa .u32 ((Aa .u32 (Ai (x0.getD (2:Int).toNat 0):Int)) * (2 ^ (Ae (16:Int).toNat (Ac .u32)))))) (Aa .u32 ((Aa .u32 (Ai (x0.getD (3:Int).toNat 0):Int)) * (2 ^ (Ae (24:Int).toNat (Ac .u32))))),())) none) none) none) none):=by kernel_rfl
theorem A8g (x0 x1 x2 x3:Int):@Eq _ (AM9 (zD EE R L) x0 x1 x2 x3) (rX R L x0 x1 x2 x3 [[16,12],[8,7]] 0):=by kernel_rfl
theorem Am7 (v0 v1 v2 v3:Int) (v16:List (List Int)) (v17:Int):@Eq _ (rX R L v0 v1 v2 v3 v16 v17 ([1,0,1,0]++[0])) (cond (decide (v17 < 2)) (cond (zA v17) (cond (Ab v17.toNat 2) ((xM R (wB .xor .u32 v3 (Aa .u32 (v0+v1))) ((v16.getD v17.toNat (Ad 2 0)).getD (0:Int).toNat 0)).bind fun r0=>(xM R (wB .xor .u32 v1 (Aa .u32 (v2+r0.1))) ((v16.getD v17.toNat (Ad 2 0)).getD (1:Int).toNat 0)).bind fun r1=>rX R L (Aa .u32 (v0+v1)) r1.1 (Aa .u32 (v2+r0.1)) r0.1 v16 (Aa .i64 (v17+1))) none) none) (some (v0,(v1,(v2,(v3,())))))):=by kernel_rfl
theorem BE3 (x0 x1:List UInt8) (x2:Int):@Eq _ (AF7 (zD EE R L) x0 x1 x2) (cond (yI (([(101:UInt8),120,112,97,110,100,32,51,50,45,98,121,116,101,32,107]).length+x0.length)) ((uH R x2 4).bind fun r0=>cond (yI (([(101:UInt8),120,112,97,110,100,32,51,50,45,98,121,116,101,32,107]++x0).length+r0.1.length)) (cond (yI ((([(101:UInt8),120,112,97,110,100,32,51,50,45,98,121,116,101,32,107]++x0)++r0.1).length+x1.length)) (rQ R L ((([101,120,112,97,110,100,32,51,50,45,98,121,116,101,32,107]++x0)++r0.1)++x1) (Ad 16 0) (Ad 16 0) 0) none) none) none):=by kernel_rfl
theorem Ax3 (v7:List UInt8) (v8 v9:List Int) (v25:Int):@Eq _ (rQ R L v7 v8 v9 v25 ([1,1,1,0,1,0]++[0])) (cond (decide (v25 < 16)) (cond (zA (Aa .i64 (4 * v25))) (cond (Al v7.length v7.length) (cond (Al (Aa .i64 (4 * v25)).toNat v7.length) ((iT R (Ag (Aa .i64 (4 * v25)).toNat (Ah v7.length v7))).bind fun r0=>cond (zA v25) (cond (Ab v25.toNat 16) (cond (zA v25) (cond (Ab v25.toNat 16) (cond (zA v25) (cond (Ab v25.toNat 16) (rQ R L v7 (v8.set v25.toNat r0.1) (v9.set v25.toNat ((v8.set v25.toNat r0.1).getD v25.toNat 0)) (Aa .i64 (v25+1))) none) none) none) none) none) none) none) none) none) (sF R L v8 v9 0)):=by kernel_rfl
theorem At3 (v8 v9:List Int) (v41:Int):@Eq _ (sF R L v8 v9 v41 ([1,1,1,1,0,1,0]++[0])) (cond (decide (v41 < 10)) (jJ R L v8 v9 v41 0) (tP R L v8 v9 [] 0)):=by kernel_rfl
theorem A54 (v8 v9:List Int) (v41 v43:Int):@Eq _ (jJ R L v8 v9 v41 v43 ([1,1,1,1,0,1,0,0,1,1,0,0,1,0]++[0])) (cond (decide (v43 < 2)) (qS R L v8 v9 v43 v41 v43 0) (sF R L v8 v9 (Aa .i64 (v41+1)))):=by kernel_rfl
theorem Ax8 (v8 v9:List Int) (v16:List UInt8) (v95:Int):@Eq _ (tP R L v8 v9 v16 v95 ([1,1,1,1,1,1,0,1,0]++[0])) (cond (decide (v95 < 16)) (cond (zA v95) (cond (Ab v95.toNat 16) (cond (zA v95) (cond (Ab v95.toNat 16) ((uH R (Aa .i64 (Aa .u32 ((v9.getD v95.toNat 0)+(v8.getD v95.toNat 0)))) 4).bind fun r0=>cond (yI (v16.length+r0.1.length)) (tP R L v8 v9 (v16++r0.1) (Aa .i64 (v95+1))) none) none) none) none) none) (some (v16,()))):=by kernel_rfl
theorem Au8 (v8 v9:List Int) (v11 v41 v43 v46:Int):@Eq _ (qS R L v8 v9 v11 v41 v43 v46 ([1,1,1,1,0,1,0,0,1,1,0,0,1,0,0,1,1,0,0,1,1,0]++[0])) (cond (decide (v46 < 4)) (cond (zA v46) (cond (Ab v46.toNat 16) (cond (zA (Aa .i64 (4+(Af (Aa .i64 (v46+v11)) 4)))) (cond (Ab (Aa .i64 (4+(Af (Aa .i64 (v46+v11)) 4))).toNat 16) (cond (zA (Aa .i64 (8+(Af (Aa .i64 (v46+(Aa .i64 (2 * v11)))) 4)))) (cond (Ab (Aa .i64 (8+(Af (Aa .i64 (v46+(Aa .i64 (2 * v11)))) 4))).toNat 16) (cond (zA (Aa .i64 (12+(Af (Aa .i64 (v46+(Aa .i64 (3 * v11)))) 4)))) (cond (Ab (Aa .i64 (12+(Af (Aa .i64 (v46+(Aa .i64 (3 * v11)))) 4))).toNat 16) ((AM9 R (v9.getD v46.toNat 0) (v9.getD (Aa .i64 (4+(Af (Aa .i64 (v46+v11)) 4))).toNat 0) (v9.getD (Aa .i64 (8+(Af (Aa .i64 (v46+(Aa .i64 (2 * v11)))) 4))).toNat 0) (v9.getD (Aa .i64 (12+(Af (Aa .i64 (v46+(Aa .i64 (3 * v11)))) 4))).toNat 0)).bind fun r0=>cond (zA v46) (cond (Ab v46.toNat 16) (cond (zA (Aa .i64 (4+(Af (Aa .i64 (v46+v11)) 4)))) (cond (Ab (Aa .i64 (4+(Af (Aa .i64 (v46+v11)) 4))).toNat 16) (cond (zA (Aa .i64 (8+(Af (Aa .i64 (v46+(Aa .i64 (2 * v11)))) 4)))) (cond (Ab (Aa .i64 (8+(Af (Aa .i64 (v46+(Aa .i64 (2 * v11)))) 4))).toNat 16) (cond (zA (Aa .i64 (12+(Af (Aa .i64 (v46+(Aa .i64 (3 * v11)))) 4)))) (cond (Ab (Aa .i64 (12+(Af (Aa .i64 (v46+(Aa .i64 (3 * v11)))) 4))).toNat 16) (qS R L v8 ((((v9.set v46.toNat r0.1).set (Aa .i64 (4+(Af (Aa .i64 (v46+v11)) 4))).toNat r0.2.1).set (Aa .i64 (8+(Af (Aa .i64 (v46+(Aa .i64 (2 * v11)))) 4))).toNat r0.2.2.1).set (Aa .i64 (12+(Af (Aa .i64 (v46+(Aa .i64 (3 * v11)))) 4))).toNat r0.2.2.2.1) v11 v41 v43 (Aa .i64 (v46+1))) none) none) none) none) none) none) none) none) none) none) none) none) none) none) none) none) (jJ R L v8 v9 v41 (Aa .i64 (v43+1)))):=by kernel_rfl
theorem A8I (x0:List UInt8) (x1:Int):@Eq _ (kP (zD EE R L) x0 x1) (cond (zA x1) (cond (Ab x1.toNat x0.length) (cond (zA (Aa .i64 (x1+1))) (cond (Ab (Aa .i64 (x1+1)).toNat x0.length) (cond (zA (Aa .i64 (x1+2))) (cond (Ab (Aa .i64 (x1+2)).toNat x0.length) (cond (zA (Aa .i64 (x1+3))) (cond (Ab (Aa .i64 (x1+3)).toNat x0.length) (some (wB .or .i64 (wB .or .i64 (wB .or .i64 (Aa .i64 (Ai (x0.getD x1.toNat 0):Int)) (Aa .i64 ((Aa .i64 (Ai (x0.getD (Aa .i64 (x1+1)).toNat 0):Int)) * (2 ^ (Ae (8:Int).toNat (Ac .i64)))))) (Aa .i64 ((Aa .i64 (Ai (x0.getD (Aa .i64 (x1+2)).toNat 0):Int)) * (2 ^ (Ae (16:Int).toNat (Ac .i64)))))) (Aa .i64 ((Aa .i64 (Ai (x0.getD (Aa .i64 (x1+3)).toNat 0):Int)) * (2 ^ (Ae (24:Int).toNat (Ac .i64))))),())) none) none) none) none) none) none) none) none):=by kernel_rfl
theorem A7e (x0 x1:Int):@Eq _ (pJ (zD EE R L) x0 x1) (cond (decide (x1 < 0)) none (cond (decide ((Aa .i64 (32 - x1)) < 0)) none (some (wB .and .i64 (wB .or .i64 (Aa .i64 (x0 * (2 ^ (Ae x1.toNat (Ac .i64))))) (Aj x0 (2 ^ (Ae (Aa .i64 (32 - x1)).toNat (Ac .i64))))) 4294967295,())))):=by kernel_rfl
theorem A12 (x0 x1 x2 x3:Int):@Eq _ (dH (zD EE R L) x0 x1 x2 x3) ((pJ R (wB .xor .i64 x3 (wB .and .i64 (Aa .i64 (x0+x1)) 4294967295)) 16).bind fun r0=>(pJ R (wB .xor .i64 x1 (wB .and .i64 (Aa .i64 (x2+r0.1)) 4294967295)) 12).bind fun r1=>(pJ R (wB .xor .i64 r0.1 (wB .and .i64 (Aa .i64 ((wB .and .i64 (Aa .i64 (x0+x1)) 4294967295)+r1.1)) 4294967295)) 8).bind fun r2=>(pJ R (wB .xor .i64 r1.1 (wB .and .i64 (Aa .i64 ((wB .and .i64 (Aa .i64 (x2+r0.1)) 4294967295)+r2.1)) 4294967295)) 7).bind fun r3=>some ([wB .and .i64 (Aa .i64 ((wB .and .i64 (Aa .i64 (x0+x1)) 4294967295)+r1.1)) 4294967295,r3.1,wB .and .i64 (Aa .i64 ((wB .and .i64 (Aa .i64 (x2+r0.1)) 4294967295)+r2.1)) 4294967295,r2.1],())):=by kernel_rfl
theorem A6f (x0:List Int) (x1 x2 x3 x4:Int):@Eq _ (cE (zD EE R L) x0 x1 x2 x3 x4) (cond (zA x1) (cond (Ab x1.toNat 16) (cond (zA x2) (cond (Ab x2.toNat 16) (cond (zA x3) (cond (Ab x3.toNat 16) (cond (zA x4) (cond (Ab x4.toNat 16) ((dH R (x0.getD x1.toNat 0) (x0.getD x2.toNat 0) (x0.getD x3.toNat 0) (x0.getD x4.toNat 0)).bind fun r0=>cond (zA x1) (cond (Ab x1.toNat 16) (cond (zA x2) (cond (Ab x2.toNat 16) (cond (zA x3) (cond (Ab x3.toNat 16) (cond (zA x4) (cond (Ab x4.toNat 16) (some ((((x0.set x1.toNat (r0.1.getD (0:Int).toNat 0)).set x2.toNat (r0.1.getD (1:Int).toNat 0)).set x3.toNat (r0.1.getD (2:Int).toNat 0)).set x4.toNat (r0.1.getD (3:Int).toNat 0),())) none) none) none) none) none) none) none) none) none) none) none) none) none) none) none) none):=by kernel_rfl
theorem A64 (x0 x1:List UInt8) (x2:Int):@Eq _ (mE (zD EE R L) x0 x1 x2) (tW R L x0 x1 x2 [0,0,0,0,0,0,0,0,0,0,0,0,0,0,0,0] 0):=by kernel_rfl
theorem Ac3 (v0 v1:List UInt8) (v2:Int) (v7:List Int) (v8:Int):@Eq _ (tW R L v0 v1 v2 v7 v8 ([1,1,0,1,0]++[0])) (cond (decide (v8 < 4)) ((kP R [101,120,112,97,110,100,32,51,50,45,98,121,116,101,32,107] (Aa .i64 (4 * v8))).bind fun r0=>cond (zA v8) (cond (Ab v8.toNat 16) (tW R L v0 v1 v2 (v7.set v8.toNat r0.1) (Aa .i64 (v8+1))) none) none) (vT R L v0 v1 v2 v7 0)):=by kernel_rfl
theorem Ab6 (v0 v1:List UInt8) (v2:Int) (v7:List Int) (v9:Int):@Eq _ (vT R L v0 v1 v2 v7 v9 ([1,1,1,0,1,0]++[0])) (cond (decide (v9 < 8)) ((kP R v0 (Aa .i64 (4 * v9))).bind fun r0=>cond (zA (Aa .i64 (4+v9))) (cond (Ab (Aa .i64 (4+v9)).toNat 16) (vT R L v0 v1 v2 (v7.set (Aa .i64 (4+v9)).toNat r0.1) (Aa .i64 (v9+1))) none) none) (vO R L v1 (v7.set (12:Int).toNat v2) 0)):=by kernel_rfl
theorem Ac0 (v1:List UInt8) (v7:List Int) (v10:Int):@Eq _ (vO R L v1 v7 v10 ([1,1,1,1,1,0,1,0]++[0])) (cond (decide (v10 < 3)) ((kP R v1 (Aa .i64 (4 * v10))).bind fun r0=>cond (zA (Aa .i64 (13+v10))) (cond (Ab (Aa .i64 (13+v10)).toNat 16) (vO R L v1 (v7.set (Aa .i64 (13+v10)).toNat r0.1) (Aa .i64 (v10+1))) none) none) (xT R L v7 v7 0)):=by kernel_rfl
theorem Ac4 (v7 v11:List Int) (v12:Int):@Eq _ (xT R L v7 v11 v12 ([1,1,1,1,1,1,1,0,1,0]++[0])) (cond (decide (v12 < 10)) (tV R L v7 v11 v12 0) (vU R L v7 v11 [] 0)):=by kernel_rfl
theorem Ad6 (v7 v11:List Int) (v12 v13:Int):@Eq _ (tV R L v7 v11 v12 v13 ([1,1,1,1,1,1,1,0,1,0,0,1,0,0,0,1,0]++[0])) (cond (decide (v13 < 4)) ((cE R v11 v13 (Aa .i64 (4+v13)) (Aa .i64 (8+v13)) (Aa .i64 (12+v13))).bind fun r0=>tV R L v7 r0.1 v12 (Aa .i64 (v13+1))) (vS R L v7 v11 v12 0)):=by kernel_rfl
theorem Ad0 (v7 v11 v15:List Int) (v16:Int):@Eq _ (vU R L v7 v11 v15 v16 ([1,1,1,1,1,1,1,1,1,0,1,0]++[0])) (cond (decide (v16 < 16)) (cond (zA v16) (cond (Ab v16.toNat 16) (cond (zA v16) (cond (Ab v16.toNat 16) ((AC3 R v15 (wB .and .i64 (Aa .i64 ((v11.getD v16.toNat 0)+(v7.getD v16.toNat 0))) 4294967295)).bind fun r0=>vU R L v7 v11 r0.1 (Aa .i64 (v16+1))) none) none) none) none) (some (An (fun (n:Int)=>Am n.toNat) v15,()))):=by kernel_rfl
theorem Ac7 (v7 v11:List Int) (v12 v14:Int):@Eq _ (vS R L v7 v11 v12 v14 ([1,1,1,1,1,1,1,0,1,0,0,1,0,0,1,1,0]++[0])) (cond (decide (v14 < 4)) ((cE R v11 v14 (Aa .i64 (4+(Af (Aa .i64 (v14+1)) 4))) (Aa .i64 (8+(Af (Aa .i64 (v14+2)) 4))) (Aa .i64 (12+(Af (Aa .i64 (v14+3)) 4)))).bind fun r0=>vS R L v7 r0.1 v12 (Aa .i64 (v14+1))) (xT R L v7 v11 (Aa .i64 (v12+1)))):=by kernel_rfl
theorem B06 (x0 x1:List UInt8):@Eq _ (A7a (zD EE R L) x0 x1) (gN R L x1 (An (fun (b:UInt8)=>(Ai b:Int)) x0) ((An (fun (b:UInt8)=>(Ai b:Int)) x0).length:Int) 0):=by kernel_rfl
theorem A6O (v1:List UInt8) (v5:List Int) (v10 v11:Int):@Eq _ (gN R L v1 v5 v10 v11 ([1,1,0,1,0]++[0])) (cond (decide (v11 < v10)) (cond (zA v11) (cond (Ab v11.toNat v5.length) (cond (zA v11) (cond (Ab v11.toNat v1.length) (cond (zA v11) (cond (Ab v11.toNat v5.length) (gN R L v1 (v5.set v11.toNat (wB .xor .u8 (v5.getD v11.toNat 0) (Ai (v1.getD v11.toNat 0):Int))) v10 (Aa .i64 (v11+1))) none) none) none) none) none) none) (some (An (fun (n:Int)=>Am n.toNat) v5,()))):=by kernel_rfl
theorem BE0 (x0 x1:List UInt8) (x2:Int) (x3:List UInt8):@Eq _ (AH1 (zD EE R L) x0 x1 x2 x3) (qR R L x0 x1 x2 x3 [] [] 0):=by kernel_rfl
theorem Ax1 (v0 v1:List UInt8) (v2:Int) (v3:List UInt8) (v9:List Int) (v10:List UInt8) (v11:Int):@Eq _ (qR R L v0 v1 v2 v3 v9 v10 v11 ([1,1,1,0,1,0]++[0])) (cond (decide (v11 < (v3.length:Int))) (cond (eqI (Af v11 64) 0) ((mE R v0 v1 (Aa .i64 (v2+(Aa .i64 (Ak v11 64))))).bind fun r0=>cond (zA v11) (cond (Ab v11.toNat v3.length) (cond (zA (Af v11 64)) (cond (Ab (Af v11 64).toNat r0.1.length) (cond (yI (v9.length+([wB .xor .u8 (Ai (v3.getD v11.toNat 0):Int) (Ai (r0.1.getD (Af v11 64).toNat 0):Int)]).length)) (qR R L v0 v1 v2 v3 (v9++[wB .xor .u8 (Ai (v3.getD v11.toNat 0):Int) (Ai (r0.1.getD (Af v11 64).toNat 0):Int)]) r0.1 (Aa .i64 (v11+1))) none) none) none) none) none) (cond (zA v11) (cond (Ab v11.toNat v3.length) (cond (zA (Af v11 64)) (cond (Ab (Af v11 64).toNat v10.length) (cond (yI (v9.length+([wB .xor .u8 (Ai (v3.getD v11.toNat 0):Int) (Ai (v10.getD (Af v11 64).toNat 0):Int)]).length)) (qR R L v0 v1 v2 v3 (v9++[wB .xor .u8 (Ai (v3.getD v11.toNat 0):Int) (Ai (v10.getD (Af v11 64).toNat 0):Int)]) v10 (Aa .i64 (v11+1))) none) none) none) none) none)) (some (An (fun (n:Int)=>Am n.toNat) v9,()))):=by kernel_rfl
theorem A15 (x0:d86) (x1:Int):@Eq _ (dE (zD EE R L) x0 x1) (cond (decide ((Aa .i64 (x1 - (x0.2.2.2.2.1.length:Int))) < 0)) (some (-1,())) (cond (decide ((Aa .i64 ((Aa .i64 (x1 - (x0.2.2.2.2.1.length:Int))) - (x0.2.2.2.2.2.1.length:Int))) < 0)) (some (-1,())) (cond (decide ((Aa .i64 ((Aa .i64 ((Aa .i64 (x1 - (x0.2.2.2.2.1.length:Int))) - (x0.2.2.2.2.2.1.length:Int))) - (x0.2.2.2.2.2.2.1.length:Int))) < 0)) (some (-1,())) (some (Aa .i64 ((Aa .i64 ((Aa .i64 (x1 - (x0.2.2.2.2.1.length:Int))) - (x0.2.2.2.2.2.1.length:Int))) - (x0.2.2.2.2.2.2.1.length:Int)),()))))):=by kernel_rfl
theorem A3h (x0:List (List UInt8)) (x1:Int):@Eq _ (bO (zD EE R L) x0 x1) (cond (decide ((Aa .i64 (x1 - (x0.length:Int))) < 0)) (some (-1,())) (uQ R L x0 (Aa .i64 (x1 - (x0.length:Int))) 0 0)):=by kernel_rfl
theorem AU6 (v0:List (List UInt8)) (v1 v4 v5:Int):@Eq _ (uQ R L v0 v1 v4 v5 ([1,1,1,0,1,0]++[0])) (cond (decide (v5 < (v0.length:Int))) (cond (zA v5) (cond (Ab v5.toNat v0.length) (cond (decide ((Aa .i64 (v1 - ((v0.getD v5.toNat []).length:Int))) < 0)) (some (-1,())) (uQ R L v0 (Aa .i64 (v1 - ((v0.getD v5.toNat []).length:Int))) v4 (Aa .i64 (v5+1)))) none) none) (some (v1,()))):=by kernel_rfl
theorem Bl0 (x0:d87) (x1:Int):@Eq _ (A0L (zD EE R L) x0 x1) (cond (decide ((Aa .i64 (x1 - (x0.2.1.length:Int))) < 0)) (some (-1,())) (some (Aa .i64 (x1 - (x0.2.1.length:Int)),()))):=by kernel_rfl
theorem Bf8 (x0:List d87) (x1:Int):@Eq _ (Am2 (zD EE R L) x0 x1) (cond (decide ((Aa .i64 (x1 - (x0.length:Int))) < 0)) (some (-1,())) (mK R L x0 (Aa .i64 (x1 - (x0.length:Int))) 0 0)):=by kernel_rfl
theorem A1L (v0:List d87) (v1 v4 v5:Int):@Eq _ (mK R L v0 v1 v4 v5 ([1,1,1,0,1,0]++[0])) (cond (decide (v5 < (v0.length:Int))) (cond (zA v5) (cond (Ab v5.toNat v0.length) ((A0L R (v0.getD v5.toNat (0,([],()))) v1).bind fun r0=>cond (decide (r0.1 < 0)) (some (-1,())) (mK R L v0 r0.1 v4 (Aa .i64 (v5+1)))) none) none) (some (v1,()))):=by kernel_rfl
theorem A6P (x0:d88) (x1:Int):@Eq _ (dU (zD EE R L) x0 x1) ((bO R x0.1 x1).bind fun r0=>cond (decide (r0.1 < 0)) (some (-1,())) ((Am2 R x0.2.1 r0.1).bind fun r1=>cond (decide (r1.1 < 0)) (some (-1,())) (some (r1.1,())))):=by kernel_rfl
theorem A7O (x0:d89) (x1:Int):@Eq _ (AJ9 (zD EE R L) x0 x1) (cond (decide ((Aa .i64 (x1 - (x0.1.length:Int))) < 0)) (some (-1,())) ((dE R x0.2.1 (Aa .i64 (x1 - (x0.1.length:Int)))).bind fun r0=>cond (decide (r0.1 < 0)) (some (-1,())) ((dU R x0.2.2.1 r0.1).bind fun r1=>cond (decide (r1.1 < 0)) (some (-1,())) (some (r1.1,()))))):=by kernel_rfl
theorem Bg0 (x0:List d77) (x1:Int):@Eq _ (Ai2 (zD EE R L) x0 x1) (cond (decide ((Aa .i64 (x1 - (x0.length:Int))) < 0)) (some (-1,())) (some (Aa .i64 (x1 - (x0.length:Int)),()))):=by kernel_rfl
theorem BX9 (x0:d78) (x1:Int):@Eq _ (Al4 (zD EE R L) x0 x1) ((Ai2 R x0.1 x1).bind fun r0=>cond (decide (r0.1 < 0)) (some (-1,())) (some (r0.1,()))):=by kernel_rfl
theorem BD4 (x0:List d78) (x1:Int):@Eq _ (AW8 (zD EE R L) x0 x1) (cond (decide ((Aa .i64 (x1 - (x0.length:Int))) < 0)) (some (-1,())) (oM R L x0 (Aa .i64 (x1 - (x0.length:Int))) 0 0)):=by kernel_rfl
theorem Av6 (v0:List d78) (v1 v4 v5:Int):@Eq _ (oM R L v0 v1 v4 v5 ([1,1,1,0,1,0]++[0])) (cond (decide (v5 < (v0.length:Int))) (cond (zA v5) (cond (Ab v5.toNat v0.length) ((Al4 R (v0.getD v5.toNat ([],())) v1).bind fun r0=>cond (decide (r0.1 < 0)) (some (-1,())) (oM R L v0 r0.1 v4 (Aa .i64 (v5+1)))) none) none) (some (v1,()))):=by kernel_rfl
theorem A11 (x0:d86):@Eq _ (dL (zD EE R L) x0) (some ((x0.1,(x0.2.1,(x0.2.2.1,(x0.2.2.2.1,(x0.2.2.2.2.1,(x0.2.2.2.2.2.1,(x0.2.2.2.2.2.2.1,()))))))),())):=by kernel_rfl
theorem A34 (x0:List (List UInt8)):@Eq _ (bF (zD EE R L) x0) (cond (leI (x0.length:Int) (x0.length:Int)) (cond (yI (x0.length:Int).toNat) (sX R L x0 [] (Ad (x0.length:Int).toNat []) 0) none) none):=by kernel_rfl
theorem AR9 (v0 v2 v3:List (List UInt8)) (v4:Int):@Eq _ (sX R L v0 v2 v3 v4 ([1,1,0,1,0]++[0])) (cond (decide (v4 < (v0.length:Int))) (cond (zA v4) (cond (Ab v4.toNat v0.length) (cond (zA v4) (cond (Ab v4.toNat v3.length) (sX R L v0 v2 (v3.set v4.toNat (v0.getD v4.toNat [])) (Aa .i64 (v4+1))) none) none) none) none) (some (v3,()))):=by kernel_rfl
theorem Br6 (x0:d87):@Eq _ (A0I (zD EE R L) x0) (some ((x0.1,(x0.2.1,())),())):=by kernel_rfl
theorem Be7 (x0:List d87):@Eq _ (Ah0 (zD EE R L) x0) (cond (leI (x0.length:Int) (x0.length:Int)) (cond (yI (x0.length:Int).toNat) (mI R L x0 [] (Ad (x0.length:Int).toNat (0,([],()))) 0) none) none):=by kernel_rfl
theorem A1l (v0 v2 v3:List d87) (v4:Int):@Eq _ (mI R L v0 v2 v3 v4 ([1,1,0,1,0]++[0])) (cond (decide (v4 < (v0.length:Int))) (cond (zA v4) (cond (Ab v4.toNat v0.length) ((A0I R (v0.getD v4.toNat (0,([],())))).bind fun r0=>cond (zA v4) (cond (Ab v4.toNat v3.length) (mI R L v0 v2 (v3.set v4.toNat r0.1) (Aa .i64 (v4+1))) none) none) none) none) (some (v3,()))):=by kernel_rfl
theorem A6w (x0:d88):@Eq _ (dY (zD EE R L) x0) ((bF R x0.1).bind fun r0=>(Ah0 R x0.2.1).bind fun r1=>some ((r0.1,(r1.1,())),())):=by kernel_rfl
theorem A8r (x0:d89):@Eq _ (AK5 (zD EE R L) x0) ((dL R x0.2.1).bind fun r0=>(dY R x0.2.2.1).bind fun r1=>some ((x0.1,(r0.1,(r1.1,(x0.2.2.2.1,(x0.2.2.2.2.1,()))))),())):=by kernel_rfl
theorem Bl4 (x0:d77):@Eq _ (A0M (zD EE R L) x0) (some ((x0.1,(x0.2.1,(x0.2.2.1,()))),())):=by kernel_rfl
theorem BW4 (x0:List d77):@Eq _ (Al9 (zD EE R L) x0) (cond (leI (x0.length:Int) (x0.length:Int)) (cond (yI (x0.length:Int).toNat) (mD R L x0 [] (Ad (x0.length:Int).toNat (0,(0,(0,())))) 0) none) none):=by kernel_rfl
theorem A1P (v0 v2 v3:List d77) (v4:Int):@Eq _ (mD R L v0 v2 v3 v4 ([1,1,0,1,0]++[0])) (cond (decide (v4 < (v0.length:Int))) (cond (zA v4) (cond (Ab v4.toNat v0.length) ((A0M R (v0.getD v4.toNat (0,(0,(0,()))))).bind fun r0=>cond (zA v4) (cond (Ab v4.toNat v3.length) (mD R L v0 v2 (v3.set v4.toNat r0.1) (Aa .i64 (v4+1))) none) none) none) none) (some (v3,()))):=by kernel_rfl
theorem Bb9 (x0:d78):@Eq _ (Ah3 (zD EE R L) x0) ((Al9 R x0.1).bind fun r0=>some ((r0.1,()),())):=by kernel_rfl
theorem BJ4 (x0:List d78):@Eq _ (AY7 (zD EE R L) x0) (cond (leI (x0.length:Int) (x0.length:Int)) (cond (yI (x0.length:Int).toNat) (oW R L x0 [] (Ad (x0.length:Int).toNat ([],())) 0) none) none):=by kernel_rfl
theorem Ax6 (v0 v2 v3:List d78) (v4:Int):@Eq _ (oW R L v0 v2 v3 v4 ([1,1,0,1,0]++[0])) (cond (decide (v4 < (v0.length:Int))) (cond (zA v4) (cond (Ab v4.toNat v0.length) ((Ah3 R (v0.getD v4.toNat ([],()))).bind fun r0=>cond (zA v4) (cond (Ab v4.toNat v3.length) (oW R L v0 v2 (v3.set v4.toNat r0.1) (Aa .i64 (v4+1))) none) none) none) none) (some (v3,()))):=by kernel_rfl
theorem BI1 (x0:List Int):@Eq _ (AW6 (zD EE R L) x0) (cond (leI (x0.length:Int) (x0.length:Int)) (cond (yI (x0.length:Int).toNat) (oY R L x0 [] (Ad (x0.length:Int).toNat 0) 0) none) none):=by kernel_rfl
theorem Ay4 (v0 v2 v3:List Int) (v4:Int):@Eq _ (oY R L v0 v2 v3 v4 ([1,1,0,1,0]++[0])) (cond (decide (v4 < (v0.length:Int))) (cond (zA v4) (cond (Ab v4.toNat v0.length) (cond (zA v4) (cond (Ab v4.toNat v3.length) (oY R L v0 v2 (v3.set v4.toNat (v0.getD v4.toNat 0)) (Aa .i64 (v4+1))) none) none) none) none) (some (v3,()))):=by kernel_rfl
theorem Bc4 (x0 x1 x2:Int):@Eq _ (wT (zD EE R L) x0 x1 x2) (cond (decide (x1≤x0)) (some (decide (x0≤x2),())) (some (false,()))):=by kernel_rfl
theorem A38 (x0:List Int):@Eq _ (bS (zD EE R L) x0) (oK R L x0 0):=by kernel_rfl
theorem AQ4 (v0:List Int) (v3:Int):@Eq _ (oK R L v0 v3 ([1,0,1,0]++[0])) (cond (decide (v3 < (v0.length:Int))) (cond (zA v3) (cond (Ab v3.toNat v0.length) ((wT R (v0.getD v3.toNat 0) 0 7).bind fun r0=>cond (!r0.1) (some (false,())) (oK R L v0 (Aa .i64 (v3+1)))) none) none) (some (true,()))):=by kernel_rfl
theorem A2R (x0:d86):@Eq _ (dD (zD EE R L) x0) ((wT R x0.1 0 1000000).bind fun r0=>cond r0.1 ((wT R x0.2.1 0 1).bind fun r1=>cond r1.1 ((wT R x0.2.2.2.1 0 1000000).bind fun r2=>cond r2.1 ((wT R x0.2.2.1 x0.1 (A3H (Aa .i64 (x0.1+4)) 1000000)).bind fun r3=>cond r3.1 (cond (eqI (x0.2.2.2.2.1.length:Int) 32) (cond (eqI (x0.2.2.2.2.2.1.length:Int) 32) (cond (eqI (x0.2.2.2.2.2.2.1.length:Int) 32) (cond (decide (x0.1 < x0.2.2.1)) (some (true,())) (some (eqS x0.2.2.2.2.1 x0.2.2.2.2.2.1,()))) (some (false,()))) (some (false,()))) (some (false,()))) (some (false,()))) (some (false,()))) (some (false,()))) (some (false,()))):=by kernel_rfl
theorem Bb6 (x0:Int):@Eq _ (An5 (zD EE R L) x0) ((wT R x0 0 39).bind fun r0=>some (r0.1,())):=by kernel_rfl
theorem A5B (x0:d88):@Eq _ (dV (zD EE R L) x0) (cond (!(eqI (x0.1.length:Int) 40)) (some (false,())) (cond (decide (60 < (x0.2.1.length:Int))) (some (false,())) (nR R L x0 x0 false 0))):=by kernel_rfl
theorem Aa3 (v0 v1:d88) (v2:Bool) (v3:Int):@Eq _ (nR R L v0 v1 v2 v3 ([1,1,0,1,0]++[0])) (cond (decide (v3 < (v1.1.length:Int))) (cond (zA v3) (cond (Ab v3.toNat v1.1.length) (cond (decide (700 < ((v1.1.getD v3.toNat []).length:Int))) (some (false,())) (nR R L v0 v1 v2 (Aa .i64 (v3+1)))) none) none) (nZ R L v0 v1 v2 v3 0)):=by kernel_rfl
theorem Ad5 (v0 v1:d88) (v2:Bool) (v3 v4:Int):@Eq _ (nZ R L v0 v1 v2 v3 v4 ([1,1,1,0,1,0]++[0])) (cond (decide (v4 < (v1.2.1.length:Int))) (cond (zA v4) (cond (Ab v4.toNat v1.2.1.length) ((An5 R (v1.2.1.getD v4.toNat (0,([],()))).1).bind fun r0=>cond (!r0.1) (some (false,())) (cond (zA v4) (cond (Ab v4.toNat v1.2.1.length) (cond (decide (700 < ((v1.2.1.getD v4.toNat (0,([],()))).2.1.length:Int))) (some (false,())) (nZ R L v0 v1 v2 v3 (Aa .i64 (v4+1)))) none) none)) none) none) (some (true,()))):=by kernel_rfl
theorem A9B (x0:d89):@Eq _ (AM4 (zD EE R L) x0) (cond (eqI (x0.1.length:Int) 32) ((dD R x0.2.1).bind fun r0=>cond r0.1 ((dV R x0.2.2.1).bind fun r1=>cond r1.1 (cond (eqI (x0.2.2.1.2.1.length:Int) 0) (cond x0.2.2.2.1 (some (!x0.2.2.2.2.1,())) (some (!false,()))) (some (false,()))) (some (false,()))) (some (false,()))) (some (false,()))):=by kernel_rfl
theorem Bp0 (x0:d77):@Eq _ (A0b (zD EE R L) x0) ((wT R x0.1 1 6).bind fun r0=>cond (!r0.1) (some (false,())) ((wT R x0.2.1 1 9999).bind fun r1=>cond (!r1.1) (some (false,())) (cond (eqI x0.1 1) (some (eqI x0.2.2.1 0,())) (cond (eqI x0.1 3) (some (eqI x0.2.2.1 0,())) (cond (eqI x0.1 6) ((wT R x0.2.2.1 1 4).bind fun r2=>some (r2.1,())) ((wT R x0.2.2.1 0 999999).bind fun r2=>some (r2.1,()))))))):=by kernel_rfl
theorem BN6 (x0:d78):@Eq _ (AX0 (zD EE R L) x0) (oO R L x0 x0 false 0):=by kernel_rfl
theorem Au3 (v0 v1:d78) (v2:Bool) (v3:Int):@Eq _ (oO R L v0 v1 v2 v3 ([1,0,1,0]++[0])) (cond (decide (v3 < (v1.1.length:Int))) (cond (zA v3) (cond (Ab v3.toNat v1.1.length) ((A0b R (v1.1.getD v3.toNat (0,(0,(0,()))))).bind fun r0=>cond (!r0.1) (some (false,())) (oO R L v0 v1 v2 (Aa .i64 (v3+1)))) none) none) ((wT R (v1.1.length:Int) 1 4).bind fun r0=>some (r0.1,()))):=by kernel_rfl
theorem A71 (x0:List d78):@Eq _ (AI7 (zD EE R L) x0) (cond (decide (4096 < (x0.length:Int))) (some (false,())) ((wT R (x0.length:Int) 1 2).bind fun r0=>cond (!r0.1) (some (false,())) (qZ R L x0 false 0))):=by kernel_rfl
theorem Al0 (v0:List d78) (v2:Bool) (v3:Int):@Eq _ (qZ R L v0 v2 v3 ([1,1,1,0,1,0]++[0])) (cond (decide (v3 < (v0.length:Int))) (cond (zA v3) (cond (Ab v3.toNat v0.length) ((AX0 R (v0.getD v3.toNat ([],()))).bind fun r0=>cond (!r0.1) (some (false,())) (qZ R L v0 v2 (Aa .i64 (v3+1)))) none) none) (some (true,()))):=by kernel_rfl
theorem A6x (x0:Int):@Eq _ (gK (zD EE R L) x0) (qE R L x0 [] 0):=by kernel_rfl
theorem Ab9 (v0:Int) (v3:List Int) (v4:Int):@Eq _ (qE R L v0 v3 v4 ([1,1,0,1,0]++[0])) (cond (decide (v4 < 8)) (cond (decide ((Aa .i64 (8 * v4)) < 0)) none (cond (yI (v3.length+([Aa .u8 (Aj v0 (2 ^ (Ae (Aa .i64 (8 * v4)).toNat (Ac .i64))))]).length)) (qE R L v0 (v3++[Aa .u8 (Aj v0 (2 ^ (Ae (Aa .i64 (8 * v4)).toNat (Ac .i64))))]) (Aa .i64 (v4+1))) none)) (some (An (fun (n:Int)=>Am n.toNat) v3,()))):=by kernel_rfl
theorem A6o (x0 x1 x2:Int):@Eq _ (AD4 (zD EE R L) x0 x1 x2) ((gK R x2).bind fun r0=>cond (yI ((An (fun (n:Int)=>Am n.toNat) [Aa .u8 x0,Aa .u8 x1,Aa .u8 (Aj x1 (2 ^ (Ae (8:Int).toNat (Ac .i64)))),0]).length+r0.1.length)) (some ((An (fun (n:Int)=>Am n.toNat) [Aa .u8 x0,Aa .u8 x1,Aa .u8 (Aj x1 (2 ^ (Ae (8:Int).toNat (Ac .i64)))),0])++r0.1,())) none):=by kernel_rfl
theorem BI6 (x0:List UInt8):@Eq _ (AH3 (zD EE R L) x0) (gZ R L x0):=by kernel_rfl
theorem A62 (v0:List UInt8):@Eq _ (gZ R L v0 ([1,0,0]++[0])) (cond (!(eqI (Af (v0.length:Int) 16) 0)) (cond (yI (v0.length+([(0:UInt8)]).length)) (gZ R L (v0++[0])) none) (some (v0,()))):=by kernel_rfl
theorem A6V (x0:List UInt8):@Eq _ (AB3 (zD EE R L) x0) (cond (Al (16:Int).toNat x0.length) (sI R L (An (fun (b:UInt8)=>(Ai b:Int)) (Ag 0 (Ah (16:Int).toNat x0))) 3) none):=by kernel_rfl
theorem Ac1 (v3:List Int) (v4:Int):@Eq _ (sI R L v3 v4 ([1,1,0,1,0]++[0])) (cond (decide (v4 < 16)) (cond (zA v4) (cond (Ab v4.toNat v3.length) (cond (zA v4) (cond (Ab v4.toNat v3.length) (sI R L (v3.set v4.toNat (wB .and .u8 (v3.getD v4.toNat 0) 15)) (Aa .i64 (v4+4))) none) none) none) none) (tQ R L v3 4)):=by kernel_rfl
theorem Ac2 (v3:List Int) (v5:Int):@Eq _ (tQ R L v3 v5 ([1,1,1,0,1,0]++[0])) (cond (decide (v5 < 16)) (cond (zA v5) (cond (Ab v5.toNat v3.length) (cond (zA v5) (cond (Ab v5.toNat v3.length) (tQ R L (v3.set v5.toNat (wB .and .u8 (v3.getD v5.toNat 0) 252)) (Aa .i64 (v5+4))) none) none) none) none) (some (An (fun (n:Int)=>Am n.toNat) v3,()))):=by kernel_rfl
theorem A6R (x0:List UInt8):@Eq _ (gO (zD EE R L) x0) (uK R L x0 (Ad 5 0) [0,0,0,0,0] 0):=by kernel_rfl
theorem Ab8 (v0:List UInt8) (v2 v3:List Int) (v4:Int):@Eq _ (uK R L v0 v2 v3 v4 ([1,1,0,1,0]++[0])) (cond (decide (v4 < 17)) (cond (zA v4) (cond (Ab v4.toNat v0.length) (cond (zA (Aa .i64 (Ak (Aa .i64 (8 * v4)) 26))) (cond (Ab (Aa .i64 (Ak (Aa .i64 (8 * v4)) 26)).toNat 5) (cond (decide ((Af (Aa .i64 (8 * v4)) 26) < 0)) none (cond (zA (Aa .i64 (Ak (Aa .i64 (8 * v4)) 26))) (cond (Ab (Aa .i64 (Ak (Aa .i64 (8 * v4)) 26)).toNat 5) (cond (decide (18 < (Af (Aa .i64 (8 * v4)) 26))) (cond (decide ((Aa .i64 (Ak (Aa .i64 (8 * v4)) 26)) < 4)) (cond (zA (Aa .i64 ((Aa .i64 (Ak (Aa .i64 (8 * v4)) 26))+1))) (cond (Ab (Aa .i64 ((Aa .i64 (Ak (Aa .i64 (8 * v4)) 26))+1)).toNat 5) (cond (decide ((Aa .i64 (26 - (Af (Aa .i64 (8 * v4)) 26))) < 0)) none (cond (zA (Aa .i64 ((Aa .i64 (Ak (Aa .i64 (8 * v4)) 26))+1))) (cond (Ab (Aa .i64 ((Aa .i64 (Ak (Aa .i64 (8 * v4)) 26))+1)).toNat 5) (uK R L v0 v2 ((v3.set (Aa .i64 (Ak (Aa .i64 (8 * v4)) 26)).toNat (Aa .i64 ((v3.getD (Aa .i64 (Ak (Aa .i64 (8 * v4)) 26)).toNat 0)+(wB .and .i64 (Aa .i64 ((Aa .i64 (Ai (v0.getD v4.toNat 0):Int)) * (2 ^ (Ae (Af (Aa .i64 (8 * v4)) 26).toNat (Ac .i64))))) 67108863)))).set (Aa .i64 ((Aa .i64 (Ak (Aa .i64 (8 * v4)) 26))+1)).toNat (Aa .i64 (((v3.set (Aa .i64 (Ak (Aa .i64 (8 * v4)) 26)).toNat (Aa .i64 ((v3.getD (Aa .i64 (Ak (Aa .i64 (8 * v4)) 26)).toNat 0)+(wB .and .i64 (Aa .i64 ((Aa .i64 (Ai (v0.getD v4.toNat 0):Int)) * (2 ^ (Ae (Af (Aa .i64 (8 * v4)) 26).toNat (Ac .i64))))) 67108863)))).getD (Aa .i64 ((Aa .i64 (Ak (Aa .i64 (8 * v4)) 26))+1)).toNat 0)+(Aj (Aa .i64 (Ai (v0.getD v4.toNat 0):Int)) (2 ^ (Ae (Aa .i64 (26 - (Af (Aa .i64 (8 * v4)) 26))).toNat (Ac .i64))))))) (Aa .i64 (v4+1))) none) none)) none) none) (uK R L v0 v2 (v3.set (Aa .i64 (Ak (Aa .i64 (8 * v4)) 26)).toNat (Aa .i64 ((v3.getD (Aa .i64 (Ak (Aa .i64 (8 * v4)) 26)).toNat 0)+(wB .and .i64 (Aa .i64 ((Aa .i64 (Ai (v0.getD v4.toNat 0):Int)) * (2 ^ (Ae (Af (Aa .i64 (8 * v4)) 26).toNat (Ac .i64))))) 67108863)))) (Aa .i64 (v4+1)))) (uK R L v0 v2 (v3.set (Aa .i64 (Ak (Aa .i64 (8 * v4)) 26)).toNat (Aa .i64 ((v3.getD (Aa .i64 (Ak (Aa .i64 (8 * v4)) 26)).toNat 0)+(wB .and .i64 (Aa .i64 ((Aa .i64 (Ai (v0.getD v4.toNat 0):Int)) * (2 ^ (Ae (Af (Aa .i64 (8 * v4)) 26).toNat (Ac .i64))))) 67108863)))) (Aa .i64 (v4+1)))) none) none)) none) none) none) none) (some (v3,()))):=by kernel_rfl
theorem A4u (x0:List Int):@Eq _ (kG (zD EE R L) x0) (nY R L x0 (Ad 5 0) 0):=by kernel_rfl
theorem A2I (v1 v2:List Int) (v3:Int):@Eq _ (nY R L v1 v2 v3 ([1,0,1,0]++[0])) (cond (decide (v3 < 3)) (tT R L v1 v2 v3 0) (some (v1,()))):=by kernel_rfl
theorem AZ7 (v1 v2:List Int) (v3 v4:Int):@Eq _ (tT R L v1 v2 v3 v4 ([1,0,1,0,0,1,0,0,0,1,0]++[0])) (cond (decide (v4 < 4)) (cond (zA (Aa .i64 (v4+1))) (cond (Ab (Aa .i64 (v4+1)).toNat 5) (cond (zA v4) (cond (Ab v4.toNat 5) (cond (zA (Aa .i64 (v4+1))) (cond (Ab (Aa .i64 (v4+1)).toNat 5) (cond (zA v4) (cond (Ab v4.toNat 5) (cond (zA v4) (cond (Ab v4.toNat 5) (tT R L ((v1.set (Aa .i64 (v4+1)).toNat (Aa .i64 ((v1.getD (Aa .i64 (v4+1)).toNat 0)+(Aj (v1.getD v4.toNat 0) (2 ^ (Ae (26:Int).toNat (Ac .i64))))))).set v4.toNat (wB .and .i64 ((v1.set (Aa .i64 (v4+1)).toNat (Aa .i64 ((v1.getD (Aa .i64 (v4+1)).toNat 0)+(Aj (v1.getD v4.toNat 0) (2 ^ (Ae (26:Int).toNat (Ac .i64))))))).getD v4.toNat 0) 67108863)) v2 v3 (Aa .i64 (v4+1))) none) none) none) none) none) none) none) none) none) none) (nY R L ((v1.set (0:Int).toNat (Aa .i64 ((v1.getD (0:Int).toNat 0)+(Aa .i64 (5 * (Aj (v1.getD (4:Int).toNat 0) (2 ^ (Ae (26:Int).toNat (Ac .i64))))))))).set (4:Int).toNat (wB .and .i64 ((v1.set (0:Int).toNat (Aa .i64 ((v1.getD (0:Int).toNat 0)+(Aa .i64 (5 * (Aj (v1.getD (4:Int).toNat 0) (2 ^ (Ae (26:Int).toNat (Ac .i64))))))))).getD (4:Int).toNat 0) 67108863)) v2 (Aa .i64 (v3+1)))):=by kernel_rfl
theorem A5D (x0 x1:List Int):@Eq _ (gH (zD EE R L) x0 x1) (uL R L x0 x1 (Ad 5 0) [0,0,0,0,0] 0):=by kernel_rfl
theorem Aa1 (v2 v3 v4 v5:List Int) (v6:Int):@Eq _ (uL R L v2 v3 v4 v5 v6 ([1,1,0,1,0]++[0])) (cond (decide (v6 < 5)) (uI R L v2 v3 v4 v5 v6 0) ((kG R v5).bind fun r0=>some (r0.1,()))):=by kernel_rfl
theorem Aa0 (v2 v3 v4 v5:List Int) (v6 v7:Int):@Eq _ (uI R L v2 v3 v4 v5 v6 v7 ([1,1,0,1,0,0,1,0,0,1,0]++[0])) (cond (decide (v7 < 5)) (cond (zA v6) (cond (Ab v6.toNat 5) (cond (zA v7) (cond (Ab v7.toNat 5) (cond (decide (4 < (Aa .i64 (v6+v7)))) (cond (zA (Af (Aa .i64 (v6+v7)) 5)) (cond (Ab (Af (Aa .i64 (v6+v7)) 5).toNat 5) (cond (zA (Af (Aa .i64 (v6+v7)) 5)) (cond (Ab (Af (Aa .i64 (v6+v7)) 5).toNat 5) (uI R L v2 v3 v4 (v5.set (Af (Aa .i64 (v6+v7)) 5).toNat (Aa .i64 ((v5.getD (Af (Aa .i64 (v6+v7)) 5).toNat 0)+(Aa .i64 ((Aa .i64 ((v2.getD v6.toNat 0) * (v3.getD v7.toNat 0))) * 5))))) v6 (Aa .i64 (v7+1))) none) none) none) none) (cond (zA (Af (Aa .i64 (v6+v7)) 5)) (cond (Ab (Af (Aa .i64 (v6+v7)) 5).toNat 5) (cond (zA (Af (Aa .i64 (v6+v7)) 5)) (cond (Ab (Af (Aa .i64 (v6+v7)) 5).toNat 5) (uI R L v2 v3 v4 (v5.set (Af (Aa .i64 (v6+v7)) 5).toNat (Aa .i64 ((v5.getD (Af (Aa .i64 (v6+v7)) 5).toNat 0)+(Aa .i64 ((v2.getD v6.toNat 0) * (v3.getD v7.toNat 0)))))) v6 (Aa .i64 (v7+1))) none) none) none) none)) none) none) none) none) (uL R L v2 v3 v4 v5 (Aa .i64 (v6+1)))):=by kernel_rfl
theorem A7g (x0:List Int):@Eq _ (AL6 (zD EE R L) x0) (pF R L x0 (Ad 5 0) (x0.set (0:Int).toNat (Aa .i64 ((x0.getD (0:Int).toNat 0)+5))) 0):=by kernel_rfl
theorem Ah1 (v1 v2 v3:List Int) (v4:Int):@Eq _ (pF R L v1 v2 v3 v4 ([1,1,1,0,1,0]++[0])) (cond (decide (v4 < 4)) (cond (zA (Aa .i64 (v4+1))) (cond (Ab (Aa .i64 (v4+1)).toNat 5) (cond (zA v4) (cond (Ab v4.toNat 5) (cond (zA (Aa .i64 (v4+1))) (cond (Ab (Aa .i64 (v4+1)).toNat 5) (cond (zA v4) (cond (Ab v4.toNat 5) (cond (zA v4) (cond (Ab v4.toNat 5) (pF R L v1 v2 ((v3.set (Aa .i64 (v4+1)).toNat (Aa .i64 ((v3.getD (Aa .i64 (v4+1)).toNat 0)+(Aj (v3.getD v4.toNat 0) (2 ^ (Ae (26:Int).toNat (Ac .i64))))))).set v4.toNat (wB .and .i64 ((v3.set (Aa .i64 (v4+1)).toNat (Aa .i64 ((v3.getD (Aa .i64 (v4+1)).toNat 0)+(Aj (v3.getD v4.toNat 0) (2 ^ (Ae (26:Int).toNat (Ac .i64))))))).getD v4.toNat 0) 67108863)) (Aa .i64 (v4+1))) none) none) none) none) none) none) none) none) none) none) (cond (eqI (Aj (v3.getD (4:Int).toNat 0) (2 ^ (Ae (26:Int).toNat (Ac .i64)))) 0) (some (v1,())) (some (v3.set (4:Int).toNat (wB .and .i64 (v3.getD (4:Int).toNat 0) 67108863),())))):=by kernel_rfl
theorem BD0 (x0 x1:List UInt8):@Eq _ (bW (zD EE R L) x0 x1) ((AB3 R x0).bind fun r0=>cond (yI (r0.1.length+([(0:UInt8)]).length)) ((gO R (r0.1++[0])).bind fun r1=>qQ R L x0 x1 r1.1 [0,0,0,0,0] 0) none):=by kernel_rfl
theorem Av7 (v0 v1:List UInt8) (v5 v6:List Int) (v7:Int):@Eq _ (qQ R L v0 v1 v5 v6 v7 ([1,1,1,0,1,0]++[0])) (cond (decide (v7 < (v1.length:Int))) (cond (zA (A3H (v1.length:Int) (Aa .i64 (v7+16)))) (cond (zA v7) (cond (Al (A3H (v1.length:Int) (Aa .i64 (v7+16))).toNat v1.length) (cond (Al v7.toNat (A3H (v1.length:Int) (Aa .i64 (v7+16))).toNat) (cond (yI ((Ag v7.toNat (Ah (A3H (v1.length:Int) (Aa .i64 (v7+16))).toNat v1)).length+([(1:UInt8)]).length)) (mO R L v0 v1 v5 v6 v7 ((Ag v7.toNat (Ah (A3H (v1.length:Int) (Aa .i64 (v7+16))).toNat v1))++[1])) none) none) none) none) none) ((kG R v6).bind fun r0=>(AL6 R r0.1).bind fun r1=>sG R L v0 r1.1 [] 0 0)):=by kernel_rfl
theorem Ax4 (v0 v1:List UInt8) (v5 v6:List Int) (v7:Int) (v8:List UInt8):@Eq _ (mO R L v0 v1 v5 v6 v7 v8 ([1,1,1,0,1,0,0,1,0,0,1,0,0]++[0])) (cond (decide ((v8.length:Int) < 17)) (cond (yI (v8.length+([(0:UInt8)]).length)) (mO R L v0 v1 v5 v6 v7 (v8++[0])) none) ((gO R v8).bind fun r0=>rS R L v0 v1 v5 v6 v7 r0.1 0)):=by kernel_rfl
theorem Av3 (v0:List UInt8) (v6 v11:List Int) (v12 v13:Int):@Eq _ (sG R L v0 v6 v11 v12 v13 ([1,1,1,1,1,1,1,0,1,0]++[0])) (cond (decide (v13 < 16)) (cond (zA (Aa .i64 (Ak (Aa .i64 (8 * v13)) 26))) (cond (Ab (Aa .i64 (Ak (Aa .i64 (8 * v13)) 26)).toNat 5) (cond (decide ((Af (Aa .i64 (8 * v13)) 26) < 0)) none (cond (decide (18 < (Af (Aa .i64 (8 * v13)) 26))) (cond (zA (Aa .i64 ((Aa .i64 (Ak (Aa .i64 (8 * v13)) 26))+1))) (cond (Ab (Aa .i64 ((Aa .i64 (Ak (Aa .i64 (8 * v13)) 26))+1)).toNat 5) (cond (decide ((Aa .i64 (26 - (Af (Aa .i64 (8 * v13)) 26))) < 0)) none (cond (zA (Aa .i64 (16+v13))) (cond (Ab (Aa .i64 (16+v13)).toNat v0.length) (cond (yI (v11.length+([Aa .u8 (Aa .i64 (v12+(Aa .i64 ((wB .and .i64 (Aa .i64 ((Aj (v6.getD (Aa .i64 (Ak (Aa .i64 (8 * v13)) 26)).toNat 0) (2 ^ (Ae (Af (Aa .i64 (8 * v13)) 26).toNat (Ac .i64))))+(Aa .i64 ((v6.getD (Aa .i64 ((Aa .i64 (Ak (Aa .i64 (8 * v13)) 26))+1)).toNat 0) * (2 ^ (Ae (Aa .i64 (26 - (Af (Aa .i64 (8 * v13)) 26))).toNat (Ac .i64))))))) 255)+(Aa .i64 (Ai (v0.getD (Aa .i64 (16+v13)).toNat 0):Int))))))]).length)) (sG R L v0 v6 (v11++[Aa .u8 (Aa .i64 (v12+(Aa .i64 ((wB .and .i64 (Aa .i64 ((Aj (v6.getD (Aa .i64 (Ak (Aa .i64 (8 * v13)) 26)).toNat 0) (2 ^ (Ae (Af (Aa .i64 (8 * v13)) 26).toNat (Ac .i64))))+(Aa .i64 ((v6.getD (Aa .i64 ((Aa .i64 (Ak (Aa .i64 (8 * v13)) 26))+1)).toNat 0) * (2 ^ (Ae (Aa .i64 (26 - (Af (Aa .i64 (8 * v13)) 26))).toNat (Ac .i64))))))) 255)+(Aa .i64 (Ai (v0.getD (Aa .i64 (16+v13)).toNat 0):Int))))))]) (Aj (Aa .i64 (v12+(Aa .i64 ((wB .and .i64 (Aa .i64 ((Aj (v6.getD (Aa .i64 (Ak (Aa .i64 (8 * v13)) 26)).toNat 0) (2 ^ (Ae (Af (Aa .i64 (8 * v13)) 26).toNat (Ac .i64))))+(Aa .i64 ((v6.getD (Aa .i64 ((Aa .i64 (Ak (Aa .i64 (8 * v13)) 26))+1)).toNat 0) * (2 ^ (Ae (Aa .i64 (26 - (Af (Aa .i64 (8 * v13)) 26))).toNat (Ac .i64))))))) 255)+(Aa .i64 (Ai (v0.getD (Aa .i64 (16+v13)).toNat 0):Int)))))) (2 ^ (Ae (8:Int).toNat (Ac .i64)))) (Aa .i64 (v13+1))) none) none) none)) none) none) (cond (zA (Aa .i64 (16+v13))) (cond (Ab (Aa .i64 (16+v13)).toNat v0.length) (cond (yI (v11.length+([Aa .u8 (Aa .i64 (v12+(Aa .i64 ((wB .and .i64 (Aj (v6.getD (Aa .i64 (Ak (Aa .i64 (8 * v13)) 26)).toNat 0) (2 ^ (Ae (Af (Aa .i64 (8 * v13)) 26).toNat (Ac .i64)))) 255)+(Aa .i64 (Ai (v0.getD (Aa .i64 (16+v13)).toNat 0):Int))))))]).length)) (sG R L v0 v6 (v11++[Aa .u8 (Aa .i64 (v12+(Aa .i64 ((wB .and .i64 (Aj (v6.getD (Aa .i64 (Ak (Aa .i64 (8 * v13)) 26)).toNat 0) (2 ^ (Ae (Af (Aa .i64 (8 * v13)) 26).toNat (Ac .i64)))) 255)+(Aa .i64 (Ai (v0.getD (Aa .i64 (16+v13)).toNat 0):Int))))))]) (Aj (Aa .i64 (v12+(Aa .i64 ((wB .and .i64 (Aj (v6.getD (Aa .i64 (Ak (Aa .i64 (8 * v13)) 26)).toNat 0) (2 ^ (Ae (Af (Aa .i64 (8 * v13)) 26).toNat (Ac .i64)))) 255)+(Aa .i64 (Ai (v0.getD (Aa .i64 (16+v13)).toNat 0):Int)))))) (2 ^ (Ae (8:Int).toNat (Ac .i64)))) (Aa .i64 (v13+1))) none) none) none))) none) none) (some (An (fun (n:Int)=>Am n.toNat) v11,()))):=by kernel_rfl
theorem Av5 (v0 v1:List UInt8) (v5 v6:List Int) (v7:Int) (v9:List Int) (v10:Int):@Eq _ (rS R L v0 v1 v5 v6 v7 v9 v10 ([1,1,1,0,1,0,0,1,0,0,1,1,1,0,1,0]++[0])) (cond (decide (v10 < 5)) (cond (zA v10) (cond (Ab v10.toNat 5) (cond (zA v10) (cond (Ab v10.toNat 5) (cond (zA v10) (cond (Ab v10.toNat 5) (rS R L v0 v1 v5 (v6.set v10.toNat (Aa .i64 ((v6.getD v10.toNat 0)+(v9.getD v10.toNat 0)))) v7 v9 (Aa .i64 (v10+1))) none) none) none) none) none) none) ((gH R v6 v5).bind fun r0=>qQ R L v0 v1 v5 r0.1 (Aa .i64 (v7+16)))):=by kernel_rfl
theorem BE9 (x0 x1 x2 x3:List UInt8):@Eq _ (AV0 (zD EE R L) x0 x1 x2 x3) ((mE R x0 x1 0).bind fun r0=>cond (Al (32:Int).toNat r0.1.length) ((AH3 R x2).bind fun r1=>(AH3 R x3).bind fun r2=>cond (yI (r1.1.length+r2.1.length)) ((gK R (x2.length:Int)).bind fun r3=>cond (yI ((r1.1++r2.1).length+r3.1.length)) ((gK R (x3.length:Int)).bind fun r4=>cond (yI (((r1.1++r2.1)++r3.1).length+r4.1.length)) ((bW R (Ag 0 (Ah (32:Int).toNat r0.1)) (((r1.1++r2.1)++r3.1)++r4.1)).bind fun r5=>some (r5.1,())) none) none) none) none):=by kernel_rfl
theorem A6S (x0:List UInt8):@Eq _ (gG (zD EE R L) x0) (some (eqI (x0.length:Int) 32,())):=by kernel_rfl
theorem cR (x0:d86):@Eq _ (qO (zD EE R L) x0) (some (Aa .i64 (x0.2.2.1 - x0.1),())):=by kernel_rfl
theorem A2H (x0:d86):@Eq _ (dI (zD EE R L) x0) ((uF R x0.1 0 1000000).bind fun r0=>cond r0.1 ((uF R x0.2.1 0 1).bind fun r1=>cond r1.1 ((uF R x0.2.2.1 x0.1 (A3H (Aa .i64 (x0.1+4)) 1000000)).bind fun r2=>cond r2.1 ((uF R x0.2.2.2.1 0 1000000).bind fun r3=>cond r3.1 ((gG R x0.2.2.2.2.1).bind fun r4=>cond r4.1 ((gG R x0.2.2.2.2.2.1).bind fun r5=>cond r5.1 ((gG R x0.2.2.2.2.2.2.1).bind fun r6=>cond r6.1 ((qO R x0).bind fun r7=>cond (decide (0 < r7.1)) (some (true,())) (some (eqS x0.2.2.2.2.1 x0.2.2.2.2.2.1,()))) (some (false,()))) (some (false,()))) (some (false,()))) (some (false,()))) (some (false,()))) (some (false,()))) (some (false,()))):=by kernel_rfl
theorem AZ3 (x0:List UInt8) (x1:FnVal):@Eq _ (iF (zD EE R L) x0 x1) ((xB EE R x1 [⟨.str,(x0:List UInt8)⟩]).bind fun (r0:Bool)=>some (!r0,())):=by kernel_rfl
theorem hM (x0:List (List UInt8)) (x1:FnVal):@Eq _ (wU (zD EE R L) x0 x1) (uA R L x0 x1 0 (x0.length:Int) 0):=by kernel_rfl
theorem iD (v0:List (List UInt8)) (v1:FnVal) (v4 v7 v8:Int):@Eq _ (uA R L v0 v1 v4 v7 v8 ([1,0,1,0]++[0])) (cond (decide (v8 < v7)) (cond (zA v8) (cond (Ab v8.toNat v0.length) ((xB EE R v1 [⟨.str,(v0.getD v8.toNat []:List UInt8)⟩]).bind fun (r0:Bool)=>cond r0 (some (v8,())) (zJ R L v0 v1 v4 v8 v7 (Aa .i64 (v8+1)))) none) none) (some (-1,()))):=by kernel_rfl
theorem uC (v0:List (List UInt8)) (v1:FnVal) (v4 v5 v7 v8:Int):@Eq _ (zJ R L v0 v1 v4 v5 v7 v8 ([1,0,1,0]++[0])) (cond (decide (v8 < v7)) (cond (zA v8) (cond (Ab v8.toNat v0.length) ((xB EE R v1 [⟨.str,(v0.getD v8.toNat []:List UInt8)⟩]).bind fun (r0:Bool)=>cond r0 (some (v8,())) (zJ R L v0 v1 v4 v8 v7 (Aa .i64 (v8+1)))) none) none) (some (-1,()))):=by kernel_rfl
theorem jW (x0:List (List UInt8)) (x1:FnVal):@Eq _ (wA (zD EE R L) x0 x1) ((wU R x0 x1).bind fun r0=>some (decide (0≤r0.1),())):=by kernel_rfl
theorem Ah8 (x0:List (List UInt8)) (x1:FnVal):@Eq _ (lP (zD EE R L) x0 x1) ((wA R x0 (FnVal.mk (254:Nat) (FCaps.fn x1 FCaps.nil))).bind fun r0=>some (!r0.1,())):=by kernel_rfl
theorem A4n (x0:List UInt8):@Eq _ (fH (zD EE R L) x0) (some (decide ((x0.length:Int)≤700),())):=by kernel_rfl
theorem Ah2 (x0:d87) (x1:FnVal):@Eq _ (fR (zD EE R L) x0 x1) ((xB EE R x1 [⟨t16,(x0:d87)⟩]).bind fun (r0:Bool)=>some (!r0,())):=by kernel_rfl
theorem eQ (x0:List d87) (x1:FnVal):@Eq _ (vW (zD EE R L) x0 x1) (tL R L x0 x1 0 (x0.length:Int) 0):=by kernel_rfl
theorem fO (v0:List d87) (v1:FnVal) (v4 v7 v8:Int):@Eq _ (tL R L v0 v1 v4 v7 v8 ([1,0,1,0]++[0])) (cond (decide (v8 < v7)) (cond (zA v8) (cond (Ab v8.toNat v0.length) ((xB EE R v1 [⟨t16,(v0.getD v8.toNat (0,([],())):d87)⟩]).bind fun (r0:Bool)=>cond r0 (some (v8,())) (zR R L v0 v1 v4 v8 v7 (Aa .i64 (v8+1)))) none) none) (some (-1,()))):=by kernel_rfl
theorem tX (v0:List d87) (v1:FnVal) (v4 v5 v7 v8:Int):@Eq _ (zR R L v0 v1 v4 v5 v7 v8 ([1,0,1,0]++[0])) (cond (decide (v8 < v7)) (cond (zA v8) (cond (Ab v8.toNat v0.length) ((xB EE R v1 [⟨t16,(v0.getD v8.toNat (0,([],())):d87)⟩]).bind fun (r0:Bool)=>cond r0 (some (v8,())) (zR R L v0 v1 v4 v8 v7 (Aa .i64 (v8+1)))) none) none) (some (-1,()))):=by kernel_rfl
theorem gR (x0:List d87) (x1:FnVal):@Eq _ (wZ (zD EE R L) x0 x1) ((vW R x0 x1).bind fun r0=>some (decide (0≤r0.1),())):=by kernel_rfl
theorem A0A (x0:List d87) (x1:FnVal):@Eq _ (iW (zD EE R L) x0 x1) ((wZ R x0 (FnVal.mk (331:Nat) (FCaps.fn x1 FCaps.nil))).bind fun r0=>some (!r0.1,())):=by kernel_rfl
theorem A5R (x0:Int):@Eq _ (AC8 (zD EE R L) x0) ((uF R x0 0 39).bind fun r0=>some (r0.1,())):=by kernel_rfl
theorem A16 (x0:d87):@Eq _ (dK (zD EE R L) x0) ((AC8 R x0.1).bind fun r0=>cond r0.1 ((fH R x0.2.1).bind fun r1=>some (r1.1,())) (some (false,()))):=by kernel_rfl
theorem A5T (x0:d88):@Eq _ (AB6 (zD EE R L) x0) (cond (eqI (x0.1.length:Int) 40) ((lP R x0.1 (FnVal.mk (285:Nat) FCaps.nil)).bind fun r0=>cond r0.1 (cond (decide ((x0.2.1.length:Int)≤60)) ((iW R x0.2.1 (FnVal.mk (287:Nat) FCaps.nil)).bind fun r1=>some (r1.1,())) (some (false,()))) (some (false,()))) (some (false,()))):=by kernel_rfl
theorem BD8 (x0:d88):@Eq _ (AF3 (zD EE R L) x0) ((AB6 R x0).bind fun r0=>cond r0.1 (some (eqI (x0.2.1.length:Int) 0,())) (some (false,()))):=by kernel_rfl
theorem A8c (x0:d89):@Eq _ (AK4 (zD EE R L) x0) (cond (eqI (x0.1.length:Int) 32) ((dI R x0.2.1).bind fun r0=>cond r0.1 ((AF3 R x0.2.2.1).bind fun r1=>cond r1.1 (cond x0.2.2.2.1 (some (!x0.2.2.2.2.1,())) (some (!false,()))) (some (false,()))) (some (false,()))) (some (false,()))):=by kernel_rfl
theorem Af8 (x0:d78) (x1:FnVal):@Eq _ (gB (zD EE R L) x0 x1) ((xB EE R x1 [⟨t6,(x0:d78)⟩]).bind fun (r0:Bool)=>some (!r0,())):=by kernel_rfl
theorem fQ (x0:List d78) (x1:FnVal):@Eq _ (vI (zD EE R L) x0 x1) (uN R L x0 x1 0 (x0.length:Int) 0):=by kernel_rfl
theorem hU (v0:List d78) (v1:FnVal) (v4 v7 v8:Int):@Eq _ (uN R L v0 v1 v4 v7 v8 ([1,0,1,0]++[0])) (cond (decide (v8 < v7)) (cond (zA v8) (cond (Ab v8.toNat v0.length) ((xB EE R v1 [⟨t6,(v0.getD v8.toNat ([],()):d78)⟩]).bind fun (r0:Bool)=>cond r0 (some (v8,())) (zM R L v0 v1 v4 v8 v7 (Aa .i64 (v8+1)))) none) none) (some (-1,()))):=by kernel_rfl
theorem uU (v0:List d78) (v1:FnVal) (v4 v5 v7 v8:Int):@Eq _ (zM R L v0 v1 v4 v5 v7 v8 ([1,0,1,0]++[0])) (cond (decide (v8 < v7)) (cond (zA v8) (cond (Ab v8.toNat v0.length) ((xB EE R v1 [⟨t6,(v0.getD v8.toNat ([],()):d78)⟩]).bind fun (r0:Bool)=>cond r0 (some (v8,())) (zM R L v0 v1 v4 v8 v7 (Aa .i64 (v8+1)))) none) none) (some (-1,()))):=by kernel_rfl
theorem iK (x0:List d78) (x1:FnVal):@Eq _ (wR (zD EE R L) x0 x1) ((vI R x0 x1).bind fun r0=>some (decide (0≤r0.1),())):=by kernel_rfl
theorem Ar4 (x0:List d78) (x1:FnVal):@Eq _ (jL (zD EE R L) x0 x1) ((wR R x0 (FnVal.mk (270:Nat) (FCaps.fn x1 FCaps.nil))).bind fun r0=>some (!r0.1,())):=by kernel_rfl
theorem Am8 (x0:d77) (x1:FnVal):@Eq _ (fX (zD EE R L) x0 x1) ((xB EE R x1 [⟨t4,(x0:d77)⟩]).bind fun (r0:Bool)=>some (!r0,())):=by kernel_rfl
theorem eH (x0:List d77) (x1:FnVal):@Eq _ (vZ (zD EE R L) x0 x1) (tI R L x0 x1 0 (x0.length:Int) 0):=by kernel_rfl
theorem fM (v0:List d77) (v1:FnVal) (v4 v7 v8:Int):@Eq _ (tI R L v0 v1 v4 v7 v8 ([1,0,1,0]++[0])) (cond (decide (v8 < v7)) (cond (zA v8) (cond (Ab v8.toNat v0.length) ((xB EE R v1 [⟨t4,(v0.getD v8.toNat (0,(0,(0,()))):d77)⟩]).bind fun (r0:Bool)=>cond r0 (some (v8,())) (zQ R L v0 v1 v4 v8 v7 (Aa .i64 (v8+1)))) none) none) (some (-1,()))):=by kernel_rfl
theorem tU (v0:List d77) (v1:FnVal) (v4 v5 v7 v8:Int):@Eq _ (zQ R L v0 v1 v4 v5 v7 v8 ([1,0,1,0]++[0])) (cond (decide (v8 < v7)) (cond (zA v8) (cond (Ab v8.toNat v0.length) ((xB EE R v1 [⟨t4,(v0.getD v8.toNat (0,(0,(0,()))):d77)⟩]).bind fun (r0:Bool)=>cond r0 (some (v8,())) (zQ R L v0 v1 v4 v8 v7 (Aa .i64 (v8+1)))) none) none) (some (-1,()))):=by kernel_rfl
theorem gP (x0:List d77) (x1:FnVal):@Eq _ (vA (zD EE R L) x0 x1) ((vZ R x0 x1).bind fun r0=>some (decide (0≤r0.1),())):=by kernel_rfl
theorem Ay9 (x0:List d77) (x1:FnVal):@Eq _ (iX (zD EE R L) x0 x1) ((vA R x0 (FnVal.mk (318:Nat) (FCaps.fn x1 FCaps.nil))).bind fun r0=>some (!r0.1,())):=by kernel_rfl
theorem BF8 (x0:Int):@Eq _ (AX3 (zD EE R L) x0) (cond (eqI x0 1) (some (true,())) (some (eqI x0 3,()))):=by kernel_rfl
theorem Bj5 (x0:d77):@Eq _ (A0a (zD EE R L) x0) ((uF R x0.1 1 6).bind fun r0=>cond (!r0.1) (some (false,())) ((AG6 R x0.2.1).bind fun r1=>cond (!r1.1) (some (false,())) ((AX3 R x0.1).bind fun r2=>cond r2.1 (some (eqI x0.2.2.1 0,())) (cond (eqI x0.1 6) ((uF R x0.2.2.1 1 4).bind fun r3=>some (r3.1,())) ((kO R x0.2.2.1).bind fun r3=>some (r3.1,())))))):=by kernel_rfl
theorem Bf5 (x0:d78):@Eq _ (Am9 (zD EE R L) x0) ((uF R (x0.1.length:Int) 1 4).bind fun r0=>cond r0.1 ((iX R x0.1 (FnVal.mk (272:Nat) FCaps.nil)).bind fun r1=>some (r1.1,())) (some (false,()))):=by kernel_rfl
theorem A8t (x0:List d78):@Eq _ (AH9 (zD EE R L) x0) ((uF R (x0.length:Int) 1 2).bind fun r0=>cond r0.1 ((jL R x0 (FnVal.mk (207:Nat) FCaps.nil)).bind fun r1=>some (r1.1,())) (some (false,()))):=by kernel_rfl
theorem A7E (x0 x1 x2:Int):@Eq _ (AM3 (zD EE R L) x0 x1 x2) ((uH R x0 1).bind fun r0=>(uH R x1 2).bind fun r1=>cond (yI (r0.1.length+r1.1.length)) ((uH R 0 1).bind fun r2=>cond (yI ((r0.1++r1.1).length+r2.1.length)) ((uH R x2 8).bind fun r3=>cond (yI (((r0.1++r1.1)++r2.1).length+r3.1.length)) (some (((r0.1++r1.1)++r2.1)++r3.1,())) none) none) none):=by kernel_rfl
theorem BN2 (x0:List UInt8):@Eq _ (AF4 (zD EE R L) x0) ((lC R [0] (Af (Aa .i64 (16 - (Af (x0.length:Int) 16))) 16)).bind fun r0=>cond (yI (x0.length+r0.1.length)) (some (x0++r0.1,())) none):=by kernel_rfl
theorem A7r (x0:List UInt8):@Eq _ (AK2 (zD EE R L) x0) (cond (Al (16:Int).toNat x0.length) (rY R L (An (fun (b:UInt8)=>(Ai b:Int)) (Ag 0 (Ah (16:Int).toNat x0))) 3) none):=by kernel_rfl
theorem Ao3 (v3:List Int) (v4:Int):@Eq _ (rY R L v3 v4 ([1,1,0,1,0]++[0])) (cond (decide (v4 < 16)) (cond (zA v4) (cond (Ab v4.toNat v3.length) (cond (zA v4) (cond (Ab v4.toNat v3.length) (rY R L (v3.set v4.toNat (wB .and .u8 (v3.getD v4.toNat 0) 15)) (Aa .i64 (v4+4))) none) none) none) none) (rT R L v3 4)):=by kernel_rfl
theorem Al5 (v3:List Int) (v5:Int):@Eq _ (rT R L v3 v5 ([1,1,1,0,1,0]++[0])) (cond (decide (v5 < 16)) (cond (zA v5) (cond (Ab v5.toNat v3.length) (cond (zA v5) (cond (Ab v5.toNat v3.length) (rT R L (v3.set v5.toNat (wB .and .u8 (v3.getD v5.toNat 0) 252)) (Aa .i64 (v5+4))) none) none) none) none) (some (An (fun (n:Int)=>Am n.toNat) v3,()))):=by kernel_rfl
theorem A8C (x0:List UInt8):@Eq _ (eU (zD EE R L) x0) (vV R L (Ad 5 0) (Ad 5 0) (An (fun (b:UInt8)=>(Ai b:Int)) x0) ((An (fun (b:UInt8)=>(Ai b:Int)) x0).length:Int) 0):=by kernel_rfl
theorem Ao1 (v2 v3 v9:List Int) (v10 v11:Int):@Eq _ (vV R L v2 v3 v9 v10 v11 ([1,1,0,1,0]++[0])) (cond (decide (v11 < v10)) (cond (zA v11) (cond (Ab v11.toNat v9.length) (uM R L v2 v3 v11 (v9.getD v11.toNat 0) v9 v10 v11 0) none) none) (some (v3,()))):=by kernel_rfl
theorem Ah5 (v2 v3:List Int) (v4 v5:Int) (v9:List Int) (v10 v11 v16:Int):@Eq _ (uM R L v2 v3 v4 v5 v9 v10 v11 v16 ([1,1,0,1,0,0,1,1,0,0,1,1,0]++[0])) (cond (decide (v16 < 8)) (cond (decide (v16 < 0)) none (cond (eqI (wB .and .u8 (Aj v5 (2 ^ (Ae v16.toNat (Ac .u8)))) 1) 1) (cond (zA (Aa .i64 (Ak (Aa .i64 ((Aa .i64 (8 * v4))+v16)) 26))) (cond (Ab (Aa .i64 (Ak (Aa .i64 ((Aa .i64 (8 * v4))+v16)) 26)).toNat 5) (cond (decide ((Af (Aa .i64 ((Aa .i64 (8 * v4))+v16)) 26) < 0)) none (cond (zA (Aa .i64 (Ak (Aa .i64 ((Aa .i64 (8 * v4))+v16)) 26))) (cond (Ab (Aa .i64 (Ak (Aa .i64 ((Aa .i64 (8 * v4))+v16)) 26)).toNat 5) (uM R L v2 (v3.set (Aa .i64 (Ak (Aa .i64 ((Aa .i64 (8 * v4))+v16)) 26)).toNat (wB .or .u64 (v3.getD (Aa .i64 (Ak (Aa .i64 ((Aa .i64 (8 * v4))+v16)) 26)).toNat 0) (Aa .u64 (1 * (2 ^ (Ae (Af (Aa .i64 ((Aa .i64 (8 * v4))+v16)) 26).toNat (Ac .u64))))))) v4 v5 v9 v10 v11 (Aa .i64 (v16+1))) none) none)) none) none) (uM R L v2 v3 v4 v5 v9 v10 v11 (Aa .i64 (v16+1))))) (vV R L v2 v3 v9 v10 (Aa .i64 (v11+1)))):=by kernel_rfl
theorem Aq1 (x0:List Int):@Eq _ (vB (zD EE R L) x0) (sL R L x0 (Ad 5 0) 0):=by kernel_rfl
theorem Af6 (v1 v2:List Int) (v5:Int):@Eq _ (sL R L v1 v2 v5 ([1,0,1,0]++[0])) (cond (decide (v5 < 3)) (wK R L v1 v2 0 v5 0) (some (v1,()))):=by kernel_rfl
theorem aO (v1 v2:List Int) (v3 v5 v7:Int):@Eq _ (wK R L v1 v2 v3 v5 v7 ([1,0,1,0,0,1,1,0,0,1,0,1,0]++[0])) (cond (decide (v7 < 5)) (cond (zA v7) (cond (Ab v7.toNat 5) (cond (zA v7) (cond (Ab v7.toNat 5) (cond (zA v7) (cond (Ab v7.toNat 5) (cond (zA v7) (cond (Ab v7.toNat 5) (cond (zA v7) (cond (Ab v7.toNat 5) (wK R L ((v1.set v7.toNat (Aa .u64 ((v1.getD v7.toNat 0)+v3))).set v7.toNat (wB .and .u64 ((v1.set v7.toNat (Aa .u64 ((v1.getD v7.toNat 0)+v3))).getD v7.toNat 0) 67108863)) v2 (Aj ((v1.set v7.toNat (Aa .u64 ((v1.getD v7.toNat 0)+v3))).getD v7.toNat 0) (2 ^ (Ae (26:Int).toNat (Ac .u64)))) v5 (Aa .i64 (v7+1))) none) none) none) none) none) none) none) none) none) none) (sL R L (v1.set (0:Int).toNat (Aa .u64 ((v1.getD (0:Int).toNat 0)+(Aa .u64 (5 * v3))))) v2 (Aa .i64 (v5+1)))):=by kernel_rfl
theorem A2J (x0 x1:List Int):@Eq _ (dC (zD EE R L) x0 x1) (tA R L x0 x1 (Ad 5 0) 0):=by kernel_rfl
theorem AO2 (v2 v3 v4:List Int) (v6:Int):@Eq _ (tA R L v2 v3 v4 v6 ([1,0,1,0]++[0])) (cond (decide (v6 < 5)) (cond (zA v6) (cond (Ab v6.toNat 5) (cond (zA v6) (cond (Ab v6.toNat 5) (cond (zA v6) (cond (Ab v6.toNat 5) (tA R L (v2.set v6.toNat (Aa .u64 ((v2.getD v6.toNat 0)+(v3.getD v6.toNat 0)))) v3 v4 (Aa .i64 (v6+1))) none) none) none) none) none) none) ((vB R v2).bind fun r0=>some (r0.1,()))):=by kernel_rfl
theorem A1R (x0 x1:List Int):@Eq _ (fG (zD EE R L) x0 x1) (wQ R L x1 (Ad 5 0) (Ad 5 0) x0 0):=by kernel_rfl
theorem AG5 (v3 v4 v5 v10:List Int) (v11:Int):@Eq _ (wQ R L v3 v4 v5 v10 v11 ([1,1,0,1,0]++[0])) (cond (decide (v11 < 5)) (cond (zA v11) (cond (Ab v11.toNat 5) (wS R L v3 v4 v5 v11 (v10.getD v11.toNat 0) v10 v11 v3 0) none) none) ((vB R v5).bind fun r0=>some (r0.1,()))):=by kernel_rfl
theorem AG1 (v3 v4 v5:List Int) (v6 v7:Int) (v10:List Int) (v11:Int) (v15:List Int) (v16:Int):@Eq _ (wS R L v3 v4 v5 v6 v7 v10 v11 v15 v16 ([1,1,0,1,0,0,1,1,0,0,1,1,0]++[0])) (cond (decide (v16 < 5)) (cond (zA v16) (cond (Ab v16.toNat 5) (cond (decide ((Aa .i64 (v6+v16)) < 5)) (cond (zA (Aa .i64 (v6+v16))) (cond (Ab (Aa .i64 (v6+v16)).toNat 5) (cond (zA (Aa .i64 (v6+v16))) (cond (Ab (Aa .i64 (v6+v16)).toNat 5) (wS R L v3 v4 (v5.set (Aa .i64 (v6+v16)).toNat (Aa .u64 ((v5.getD (Aa .i64 (v6+v16)).toNat 0)+(Aa .u64 (v7 * (v15.getD v16.toNat 0)))))) v6 v7 v10 v11 v15 (Aa .i64 (v16+1))) none) none) none) none) (cond (zA (Aa .i64 ((Aa .i64 (v6+v16)) - 5))) (cond (Ab (Aa .i64 ((Aa .i64 (v6+v16)) - 5)).toNat 5) (cond (zA (Aa .i64 ((Aa .i64 (v6+v16)) - 5))) (cond (Ab (Aa .i64 ((Aa .i64 (v6+v16)) - 5)).toNat 5) (wS R L v3 v4 (v5.set (Aa .i64 ((Aa .i64 (v6+v16)) - 5)).toNat (Aa .u64 ((v5.getD (Aa .i64 ((Aa .i64 (v6+v16)) - 5)).toNat 0)+(Aa .u64 ((Aa .u64 (5 * v7)) * (v15.getD v16.toNat 0)))))) v6 v7 v10 v11 v15 (Aa .i64 (v16+1))) none) none) none) none)) none) none) (wQ R L v3 v4 v5 v10 (Aa .i64 (v11+1)))):=by kernel_rfl
theorem Ap8 (x0:List Int):@Eq _ (jQ (zD EE R L) x0) ((vB R x0).bind fun r0=>wH R L r0.1 (Ad 5 0) [67108859,67108863,67108863,67108863,67108863] 4):=by kernel_rfl
theorem AA8 (v1 v2 v3:List Int) (v4:Int):@Eq _ (wH R L v1 v2 v3 v4 ([1,1,1,0,1,0]++[0])) (cond (decide (0≤v4)) (cond (zA v4) (cond (Ab v4.toNat 5) (cond (zA v4) (cond (Ab v4.toNat 5) (cond (!(eqI (v1.getD v4.toNat 0) (v3.getD v4.toNat 0))) (cond (zA v4) (cond (Ab v4.toNat 5) (cond (zA v4) (cond (Ab v4.toNat 5) (cond (decide ((v1.getD v4.toNat 0) < (v3.getD v4.toNat 0))) (some (v1,())) (yF R L v1 v2 v3 0)) none) none) none) none) (wH R L v1 v2 v3 (Aa .i64 (v4 - 1)))) none) none) none) none) (yF R L v1 v2 v3 0)):=by kernel_rfl
theorem aX (v1 v2 v3:List Int) (v28:Int):@Eq _ (yF R L v1 v2 v3 v28 ([1,1,1,1,0,1,0]++[0])) (cond (decide (v28 < 5)) (cond (zA v28) (cond (Ab v28.toNat 5) (cond (zA v28) (cond (Ab v28.toNat 5) (cond (zA v28) (cond (Ab v28.toNat 5) (yF R L (v1.set v28.toNat (Aa .u64 ((v1.getD v28.toNat 0) - (v3.getD v28.toNat 0)))) v2 v3 (Aa .i64 (v28+1))) none) none) none) none) none) none) (some (v1,()))):=by kernel_rfl
theorem A0w (x0:List Int) (x1:List UInt8):@Eq _ (fD (zD EE R L) x0 x1) (xX R L x1 x0 (Ad (16:Int).toNat 0) 0 ((Ad (16:Int).toNat (0:Int)).length:Int) 0):=by kernel_rfl
theorem AF6 (v1:List UInt8) (v2 v5:List Int) (v6 v13 v14:Int):@Eq _ (xX R L v1 v2 v5 v6 v13 v14 ([1,1,1,0,1,0]++[0])) (cond (decide (v14 < v13)) (wO R L v1 v2 v5 v6 v14 0 v13 v14 0) (some (An (fun (n:Int)=>Am n.toNat) v5,()))):=by kernel_rfl
theorem AG0 (v1:List UInt8) (v2 v5:List Int) (v6 v7 v8 v13 v14 v17:Int):@Eq _ (wO R L v1 v2 v5 v6 v7 v8 v13 v14 v17 ([1,1,1,0,1,0,0,1,1,0,0,1,1,0,1,0]++[0])) (cond (decide (v17 < 8)) (cond (zA (Aa .i64 (Ak (Aa .i64 ((Aa .i64 (8 * v7))+v17)) 26))) (cond (Ab (Aa .i64 (Ak (Aa .i64 ((Aa .i64 (8 * v7))+v17)) 26)).toNat 5) (cond (decide ((Af (Aa .i64 ((Aa .i64 (8 * v7))+v17)) 26) < 0)) none (cond (decide (v17 < 0)) none (wO R L v1 v2 v5 v6 v7 (wB .or .i64 v8 (Aa .i64 ((Aa .i64 (wB .and .u64 (Aj (v2.getD (Aa .i64 (Ak (Aa .i64 ((Aa .i64 (8 * v7))+v17)) 26)).toNat 0) (2 ^ (Ae (Af (Aa .i64 ((Aa .i64 (8 * v7))+v17)) 26).toNat (Ac .u64)))) 1)) * (2 ^ (Ae v17.toNat (Ac .i64)))))) v13 v14 (Aa .i64 (v17+1))))) none) none) (cond (zA v7) (cond (Ab v7.toNat v1.length) (cond (zA v7) (cond (Ab v7.toNat v5.length) (xX R L v1 v2 (v5.set v7.toNat (Aa .u8 (Aa .i64 (v6+(Aa .i64 (v8+(Aa .i64 (Ai (v1.getD v7.toNat 0):Int)))))))) (Aj (Aa .i64 (v6+(Aa .i64 (v8+(Aa .i64 (Ai (v1.getD v7.toNat 0):Int)))))) (2 ^ (Ae (8:Int).toNat (Ac .i64)))) v13 (Aa .i64 (v14+1))) none) none) none) none)):=by kernel_rfl
theorem B1H (x0 x1:List UInt8):@Eq _ (A1t (zD EE R L) x0 x1) ((AK2 R x0).bind fun r0=>(eU R r0.1).bind fun r1=>eZ R L x0 x1 (Ad 5 0) r1.1 0):=by kernel_rfl
theorem A5y (v0 v1:List UInt8) (v5 v6:List Int) (v7:Int):@Eq _ (eZ R L v0 v1 v5 v6 v7 ([1,1,1,0,1,0]++[0])) (cond (decide (v7 < (v1.length:Int))) (cond (zA (A3H (Aa .i64 (v7+16)) (v1.length:Int))) (cond (zA v7) (cond (Al (A3H (Aa .i64 (v7+16)) (v1.length:Int)).toNat v1.length) (cond (Al v7.toNat (A3H (Aa .i64 (v7+16)) (v1.length:Int)).toNat) (cond (yI ((Ag v7.toNat (Ah (A3H (Aa .i64 (v7+16)) (v1.length:Int)).toNat v1)).length+([(1:UInt8)]).length)) ((eU R ((Ag v7.toNat (Ah (A3H (Aa .i64 (v7+16)) (v1.length:Int)).toNat v1))++[1])).bind fun r0=>(dC R v5 r0.1).bind fun r1=>(fG R r1.1 v6).bind fun r2=>eZ R L v0 v1 r2.1 v6 (Aa .i64 (v7+16))) none) none) none) none) none) ((jQ R v5).bind fun r0=>cond (Al v0.length v0.length) (cond (Al (16:Int).toNat v0.length) ((fD R r0.1 (Ag (16:Int).toNat (Ah v0.length v0))).bind fun r1=>some (r1.1,())) none) none)):=by kernel_rfl
theorem BG4 (x0 x1 x2 x3:List UInt8):@Eq _ (AX6 (zD EE R L) x0 x1 x2 x3) ((AF7 R x0 x1 0).bind fun r0=>cond (Al (32:Int).toNat r0.1.length) ((AF4 R x2).bind fun r1=>(AF4 R x3).bind fun r2=>cond (yI (r1.1.length+r2.1.length)) ((uH R (x2.length:Int) 8).bind fun r3=>cond (yI ((r1.1++r2.1).length+r3.1.length)) ((uH R (x3.length:Int) 8).bind fun r4=>cond (yI (((r1.1++r2.1)++r3.1).length+r4.1.length)) ((A1t R (Ag 0 (Ah (32:Int).toNat r0.1)) (((r1.1++r2.1)++r3.1)++r4.1)).bind fun r5=>some (r5.1,())) none) none) none) none):=by kernel_rfl
theorem A17 (x0 x1:d86):@Eq _ (dM (zD EE R L) x0 x1) (cond (!(eqI x0.1 x1.1)) (some (false,())) (cond (!(eqI x0.2.1 x1.2.1)) (some (false,())) (cond (!(eqI x0.2.2.1 x1.2.2.1)) (some (false,())) (cond (!(eqI x0.2.2.2.1 x1.2.2.2.1)) (some (false,())) (cond (!(eqS x0.2.2.2.2.1 x1.2.2.2.2.1)) (some (false,())) (cond (!(eqS x0.2.2.2.2.2.1 x1.2.2.2.2.2.1)) (some (false,())) (cond (!(eqS x0.2.2.2.2.2.2.1 x1.2.2.2.2.2.2.1)) (some (false,())) (some (true,()))))))))):=by kernel_rfl
theorem A4X (x0 x1:List (List UInt8)):@Eq _ (bA (zD EE R L) x0 x1) (cond (!(eqI (x0.length:Int) (x1.length:Int))) (some (false,())) (sU R L x0 x1 false 0)):=by kernel_rfl
theorem AR1 (v0 v1:List (List UInt8)) (v4:Bool) (v5:Int):@Eq _ (sU R L v0 v1 v4 v5 ([1,1,0,1,0]++[0])) (cond (decide (v5 < (v0.length:Int))) (cond (zA v5) (cond (Ab v5.toNat v0.length) (cond (zA v5) (cond (Ab v5.toNat v1.length) (cond (!(eqS (v0.getD v5.toNat []) (v1.getD v5.toNat []))) (some (false,())) (sU R L v0 v1 v4 (Aa .i64 (v5+1)))) none) none) none) none) (some (true,()))):=by kernel_rfl
theorem Bt1 (x0 x1:d87):@Eq _ (A0F (zD EE R L) x0 x1) (cond (!(eqI x0.1 x1.1)) (some (false,())) (cond (!(eqS x0.2.1 x1.2.1)) (some (false,())) (some (true,())))):=by kernel_rfl
theorem Bh4 (x0 x1:List d87):@Eq _ (Am1 (zD EE R L) x0 x1) (cond (!(eqI (x0.length:Int) (x1.length:Int))) (some (false,())) (mF R L x0 x1 false 0)):=by kernel_rfl
theorem A1r (v0 v1:List d87) (v4:Bool) (v5:Int):@Eq _ (mF R L v0 v1 v4 v5 ([1,1,0,1,0]++[0])) (cond (decide (v5 < (v0.length:Int))) (cond (zA v5) (cond (Ab v5.toNat v0.length) (cond (zA v5) (cond (Ab v5.toNat v1.length) ((A0F R (v0.getD v5.toNat (0,([],()))) (v1.getD v5.toNat (0,([],())))).bind fun r0=>cond (!r0.1) (some (false,())) (mF R L v0 v1 v4 (Aa .i64 (v5+1)))) none) none) none) none) (some (true,()))):=by kernel_rfl
theorem A5m (x0 x1:d88):@Eq _ (dR (zD EE R L) x0 x1) ((bA R x0.1 x1.1).bind fun r0=>cond (!r0.1) (some (false,())) ((Am1 R x0.2.1 x1.2.1).bind fun r1=>cond (!r1.1) (some (false,())) (some (true,())))):=by kernel_rfl
theorem A8H (x0 x1:d89):@Eq _ (AI2 (zD EE R L) x0 x1) (cond (!(eqS x0.1 x1.1)) (some (false,())) ((dM R x0.2.1 x1.2.1).bind fun r0=>cond (!r0.1) (some (false,())) ((dR R x0.2.2.1 x1.2.2.1).bind fun r1=>cond (!r1.1) (some (false,())) (cond (!(eqB x0.2.2.2.1 x1.2.2.2.1)) (some (false,())) (cond (!(eqB x0.2.2.2.2.1 x1.2.2.2.2.1)) (some (false,())) (some (true,()))))))):=by kernel_rfl
theorem Br4 (x0 x1:d77):@Eq _ (A0U (zD EE R L) x0 x1) (cond (!(eqI x0.1 x1.1)) (some (false,())) (cond (!(eqI x0.2.1 x1.2.1)) (some (false,())) (cond (!(eqI x0.2.2.1 x1.2.2.1)) (some (false,())) (some (true,()))))):=by kernel_rfl
theorem BV3 (x0 x1:List d77):@Eq _ (An9 (zD EE R L) x0 x1) (cond (!(eqI (x0.length:Int) (x1.length:Int))) (some (false,())) (mM R L x0 x1 false 0)):=by kernel_rfl
theorem A1q (v0 v1:List d77) (v4:Bool) (v5:Int):@Eq _ (mM R L v0 v1 v4 v5 ([1,1,0,1,0]++[0])) (cond (decide (v5 < (v0.length:Int))) (cond (zA v5) (cond (Ab v5.toNat v0.length) (cond (zA v5) (cond (Ab v5.toNat v1.length) ((A0U R (v0.getD v5.toNat (0,(0,(0,())))) (v1.getD v5.toNat (0,(0,(0,()))))).bind fun r0=>cond (!r0.1) (some (false,())) (mM R L v0 v1 v4 (Aa .i64 (v5+1)))) none) none) none) none) (some (true,()))):=by kernel_rfl
theorem Be3 (x0 x1:d78):@Eq _ (Ak5 (zD EE R L) x0 x1) ((An9 R x0.1 x1.1).bind fun r0=>cond (!r0.1) (some (false,())) (some (true,()))):=by kernel_rfl
theorem BN1 (x0 x1:List d78):@Eq _ (AY3 (zD EE R L) x0 x1) (cond (!(eqI (x0.length:Int) (x1.length:Int))) (some (false,())) (oP R L x0 x1 false 0)):=by kernel_rfl
theorem Ay1 (v0 v1:List d78) (v4:Bool) (v5:Int):@Eq _ (oP R L v0 v1 v4 v5 ([1,1,0,1,0]++[0])) (cond (decide (v5 < (v0.length:Int))) (cond (zA v5) (cond (Ab v5.toNat v0.length) (cond (zA v5) (cond (Ab v5.toNat v1.length) ((Ak5 R (v0.getD v5.toNat ([],())) (v1.getD v5.toNat ([],()))).bind fun r0=>cond (!r0.1) (some (false,())) (oP R L v0 v1 v4 (Aa .i64 (v5+1)))) none) none) none) none) (some (true,()))):=by kernel_rfl
theorem BK9 (x0 x1:List Int):@Eq _ (AX5 (zD EE R L) x0 x1) (cond (!(eqI (x0.length:Int) (x1.length:Int))) (some (false,())) (oL R L x0 x1 false 0)):=by kernel_rfl
theorem Av2 (v0 v1:List Int) (v4:Bool) (v5:Int):@Eq _ (oL R L v0 v1 v4 v5 ([1,1,0,1,0]++[0])) (cond (decide (v5 < (v0.length:Int))) (cond (zA v5) (cond (Ab v5.toNat v0.length) (cond (zA v5) (cond (Ab v5.toNat v1.length) (cond (!(eqI (v0.getD v5.toNat 0) (v1.getD v5.toNat 0))) (some (false,())) (oL R L v0 v1 v4 (Aa .i64 (v5+1)))) none) none) none) none) (some (true,()))):=by kernel_rfl
theorem BG6 (x0:List Int):@Eq _ (AV4 (zD EE R L) x0) (cond (yI (([]:List Int).length+x0.length)) (some (([]++x0,([],(Ad (15:Int).toNat [],()))),())) none):=by kernel_rfl
theorem A8W (x0:Int) (x1:List UInt8):@Eq _ (AL9 (zD EE R L) x0 x1) (cond (yI ((An (fun (n:Int)=>Am n.toNat) [(0:Int),Aa .u8 x0]).length+x1.length)) ((AT5 R ((An (fun (n:Int)=>Am n.toNat) [(0:Int),Aa .u8 x0])++x1)).bind fun r0=>some (r0.1,())) none):=by kernel_rfl
theorem A4a (x0:List (List UInt8)):@Eq _ (bN (zD EE R L) x0) (oH R L x0 [] 0):=by kernel_rfl
theorem AQ3 (v0 v3:List (List UInt8)) (v4:Int):@Eq _ (oH R L v0 v3 v4 ([1,1,0,1,0]++[0])) (cond (decide (v4 < (v0.length:Int))) (cond (zA v4) (cond (Ab v4.toNat v0.length) ((AL9 R v4 (v0.getD v4.toNat [])).bind fun r0=>cond (yI (v3.length+([r0.1]).length)) (oH R L v0 (v3++[r0.1]) (Aa .i64 (v4+1))) none) none) none) (some (v3,()))):=by kernel_rfl
theorem A7x (x0 x1:List UInt8):@Eq _ (AL7 (zD EE R L) x0 x1) (cond (yI (([(1:UInt8)]).length+x0.length)) (cond (yI (([(1:UInt8)]++x0).length+x1.length)) ((AT5 R (([1]++x0)++x1)).bind fun r0=>some (r0.1,())) none) none):=by kernel_rfl
theorem A6T (x0:List (List UInt8)):@Eq _ (AD7 (zD EE R L) x0) (nX R L x0 [] 0):=by kernel_rfl
theorem AZ9 (v0 v3:List (List UInt8)) (v4:Int):@Eq _ (nX R L v0 v3 v4 ([1,1,0,1,0]++[0])) (cond (decide ((Aa .i64 (v4+1)) < (v0.length:Int))) (cond (zA v4) (cond (Ab v4.toNat v0.length) (cond (zA (Aa .i64 (v4+1))) (cond (Ab (Aa .i64 (v4+1)).toNat v0.length) ((AL7 R (v0.getD v4.toNat []) (v0.getD (Aa .i64 (v4+1)).toNat [])).bind fun r0=>cond (yI (v3.length+([r0.1]).length)) (nX R L v0 (v3++[r0.1]) (Aa .i64 (v4+2))) none) none) none) none) none) (some (v3,()))):=by kernel_rfl
theorem A85 (x0:List (List UInt8)):@Eq _ (AI4 (zD EE R L) x0) ((bN R x0).bind fun r0=>nH R L r0.1):=by kernel_rfl
theorem An3 (v3:List (List UInt8)):@Eq _ (nH R L v3 ([1,1,0,0]++[0])) (cond (decide (1 < (v3.length:Int))) ((AD7 R v3).bind fun r0=>nH R L r0.1) (cond (Ab (0:Int).toNat v3.length) (some (v3.getD (0:Int).toNat [],())) none)):=by kernel_rfl
theorem A2M (x0:Int) (x1:List UInt8):@Eq _ (dP (zD EE R L) x0 x1) (cond (yI ((An (fun (n:Int)=>Am n.toNat) [(0:Int),Aa .u8 x0]).length+x1.length)) ((AH2 R ((An (fun (n:Int)=>Am n.toNat) [(0:Int),Aa .u8 x0])++x1)).bind fun r0=>some (r0.1,())) none):=by kernel_rfl
theorem Bs4 (x0 x1:List UInt8):@Eq _ (A0O (zD EE R L) x0 x1) (cond (yI (([(1:UInt8)]).length+x0.length)) (cond (yI (([(1:UInt8)]++x0).length+x1.length)) ((AH2 R (([1]++x0)++x1)).bind fun r0=>some (r0.1,())) none) none):=by kernel_rfl
theorem Bs3 (x0:List (List UInt8)):@Eq _ (A0T (zD EE R L) x0) (gC R L [] x0 (x0.length:Int) 0):=by kernel_rfl
theorem A3S (v3 v9:List (List UInt8)) (v10 v11:Int):@Eq _ (gC R L v3 v9 v10 v11 ([1,1,0,1,0]++[0])) (cond (decide (v11 < v10)) (cond (zA v11) (cond (Ab v11.toNat v9.length) ((dP R v11 (v9.getD v11.toNat [])).bind fun r0=>cond (yI (v3.length+([r0.1]).length)) (gC R L (v3++[r0.1]) v9 v10 (Aa .i64 (v11+1))) none) none) none) (nD R L v3 [v3])):=by kernel_rfl
theorem A3O (v3:List (List UInt8)) (v6:List (List (List UInt8))):@Eq _ (nD R L v3 v6 ([1,1,1,1,0,0]++[0])) (cond (decide (1 < (v3.length:Int))) (eM R L v3 v6 [] 0) (some (v6,()))):=by kernel_rfl
theorem A2b (v3:List (List UInt8)) (v6:List (List (List UInt8))) (v7:List (List UInt8)) (v8:Int):@Eq _ (eM R L v3 v6 v7 v8 ([1,1,1,1,0,0,0,1,0,1,0,1,0]++[0])) (cond (decide (v8 < (v3.length:Int))) (cond (zA v8) (cond (Ab v8.toNat v3.length) (cond (zA (Aa .i64 (v8+1))) (cond (Ab (Aa .i64 (v8+1)).toNat v3.length) ((A0O R (v3.getD v8.toNat []) (v3.getD (Aa .i64 (v8+1)).toNat [])).bind fun r0=>cond (yI (v7.length+([r0.1]).length)) (eM R L v3 v6 (v7++[r0.1]) (Aa .i64 (v8+2))) none) none) none) none) none) (cond (yI (v6.length+([v7]).length)) (nD R L v7 (v6++[v7])) none)):=by kernel_rfl
theorem Bp2 (x0:List (List UInt8)):@Eq _ (A0Y (zD EE R L) x0) ((A0T R x0).bind fun r0=>cond (Ab (4:Int).toNat r0.1.length) (cond (Ab (0:Int).toNat (r0.1.getD (4:Int).toNat []).length) (some ((r0.1.getD (4:Int).toNat []).getD (0:Int).toNat [],())) none) none):=by kernel_rfl
theorem A75 (x0 x1:d94):@Eq _ (AM8 (zD EE R L) x0 x1) (cond (!(eqI x0.1 x1.1)) (some (false,())) (cond (!(eqI x0.2.1 x1.2.1)) (some (false,())) (some (true,())))):=by kernel_rfl
theorem A5l (x0 x1:List d94):@Eq _ (AC9 (zD EE R L) x0 x1) (cond (!(eqI (x0.length:Int) (x1.length:Int))) (some (false,())) (qG R L x0 x1 false 0)):=by kernel_rfl
theorem Ac9 (v0 v1:List d94) (v4:Bool) (v5:Int):@Eq _ (qG R L v0 v1 v4 v5 ([1,1,0,1,0]++[0])) (cond (decide (v5 < (v0.length:Int))) (cond (zA v5) (cond (Ab v5.toNat v0.length) (cond (zA v5) (cond (Ab v5.toNat v1.length) ((AM8 R (v0.getD v5.toNat (0,(0,()))) (v1.getD v5.toNat (0,(0,())))).bind fun r0=>cond (!r0.1) (some (false,())) (qG R L v0 v1 v4 (Aa .i64 (v5+1)))) none) none) none) none) (some (true,()))):=by kernel_rfl
theorem A7n (x0 x1:List (List d78)):@Eq _ (AN2 (zD EE R L) x0 x1) (cond (!(eqI (x0.length:Int) (x1.length:Int))) (some (false,())) (qX R L x0 x1 false 0)):=by kernel_rfl
theorem Am0 (v0 v1:List (List d78)) (v4:Bool) (v5:Int):@Eq _ (qX R L v0 v1 v4 v5 ([1,1,0,1,0]++[0])) (cond (decide (v5 < (v0.length:Int))) (cond (zA v5) (cond (Ab v5.toNat v0.length) (cond (zA v5) (cond (Ab v5.toNat v1.length) ((AY3 R (v0.getD v5.toNat []) (v1.getD v5.toNat [])).bind fun r0=>cond (!r0.1) (some (false,())) (qX R L v0 v1 v4 (Aa .i64 (v5+1)))) none) none) none) none) (some (true,()))):=by kernel_rfl
theorem A6d (x0 x1:d83):@Eq _ (AD8 (zD EE R L) x0 x1) (cond (!(eqI x0.1 x1.1)) (some (false,())) ((AX5 R x0.2.1 x1.2.1).bind fun r0=>cond (!r0.1) (some (false,())) (some (true,())))):=by kernel_rfl
theorem A3s (x0 x1:List d83):@Eq _ (bJ (zD EE R L) x0 x1) (cond (!(eqI (x0.length:Int) (x1.length:Int))) (some (false,())) (sO R L x0 x1 false 0)):=by kernel_rfl
theorem AS9 (v0 v1:List d83) (v4:Bool) (v5:Int):@Eq _ (sO R L v0 v1 v4 v5 ([1,1,0,1,0]++[0])) (cond (decide (v5 < (v0.length:Int))) (cond (zA v5) (cond (Ab v5.toNat v0.length) (cond (zA v5) (cond (Ab v5.toNat v1.length) ((AD8 R (v0.getD v5.toNat (0,([],()))) (v1.getD v5.toNat (0,([],())))).bind fun r0=>cond (!r0.1) (some (false,())) (sO R L v0 v1 v4 (Aa .i64 (v5+1)))) none) none) none) none) (some (true,()))):=by kernel_rfl
theorem A77 (x0 x1:d95):@Eq _ (AK6 (zD EE R L) x0 x1) ((AI2 R x0.1 x1.1).bind fun r0=>cond (!r0.1) (some (false,())) ((dR R x0.2.1 x1.2.1).bind fun r1=>cond (!r1.1) (some (false,())) ((AC9 R x0.2.2.1 x1.2.2.1).bind fun r2=>cond (!r2.1) (some (false,())) ((AN2 R x0.2.2.2.1 x1.2.2.2.1).bind fun r3=>cond (!r3.1) (some (false,())) ((bJ R x0.2.2.2.2.1 x1.2.2.2.2.1).bind fun r4=>cond (!r4.1) (some (false,())) (cond (!(eqB x0.2.2.2.2.2.1 x1.2.2.2.2.2.1)) (some (false,())) (some (true,())))))))):=by kernel_rfl
theorem A5Z (x0:List d94) (x1:Int):@Eq _ (AD9 (zD EE R L) x0 x1) (cond (decide ((Aa .i64 (x1 - (x0.length:Int))) < 0)) (some (-1,())) (some (Aa .i64 (x1 - (x0.length:Int)),()))):=by kernel_rfl
theorem A7Z (x0:List (List d78)) (x1:Int):@Eq _ (AK8 (zD EE R L) x0 x1) (cond (decide ((Aa .i64 (x1 - (x0.length:Int))) < 0)) (some (-1,())) (qY R L x0 (Aa .i64 (x1 - (x0.length:Int))) 0 0)):=by kernel_rfl
theorem Al3 (v0:List (List d78)) (v1 v4 v5:Int):@Eq _ (qY R L v0 v1 v4 v5 ([1,1,1,0,1,0]++[0])) (cond (decide (v5 < (v0.length:Int))) (cond (zA v5) (cond (Ab v5.toNat v0.length) ((AW8 R (v0.getD v5.toNat []) v1).bind fun r0=>cond (decide (r0.1 < 0)) (some (-1,())) (qY R L v0 r0.1 v4 (Aa .i64 (v5+1)))) none) none) (some (v1,()))):=by kernel_rfl
theorem BM3 (x0:List Int) (x1:Int):@Eq _ (AX4 (zD EE R L) x0 x1) (cond (decide ((Aa .i64 (x1 - (x0.length:Int))) < 0)) (some (-1,())) (some (Aa .i64 (x1 - (x0.length:Int)),()))):=by kernel_rfl
theorem A6y (x0:d83) (x1:Int):@Eq _ (AC1 (zD EE R L) x0 x1) ((AX4 R x0.2.1 x1).bind fun r0=>cond (decide (r0.1 < 0)) (some (-1,())) (some (r0.1,()))):=by kernel_rfl
theorem A4Y (x0:List d83) (x1:Int):@Eq _ (bC (zD EE R L) x0 x1) (cond (decide ((Aa .i64 (x1 - (x0.length:Int))) < 0)) (some (-1,())) (sW R L x0 (Aa .i64 (x1 - (x0.length:Int))) 0 0)):=by kernel_rfl
theorem AT6 (v0:List d83) (v1 v4 v5:Int):@Eq _ (sW R L v0 v1 v4 v5 ([1,1,1,0,1,0]++[0])) (cond (decide (v5 < (v0.length:Int))) (cond (zA v5) (cond (Ab v5.toNat v0.length) ((AC1 R (v0.getD v5.toNat (0,([],()))) v1).bind fun r0=>cond (decide (r0.1 < 0)) (some (-1,())) (sW R L v0 r0.1 v4 (Aa .i64 (v5+1)))) none) none) (some (v1,()))):=by kernel_rfl
theorem A8L (x0:d95) (x1:Int):@Eq _ (AJ8 (zD EE R L) x0 x1) ((AJ9 R x0.1 x1).bind fun r0=>cond (decide (r0.1 < 0)) (some (-1,())) ((dU R x0.2.1 r0.1).bind fun r1=>cond (decide (r1.1 < 0)) (some (-1,())) ((AD9 R x0.2.2.1 r1.1).bind fun r2=>cond (decide (r2.1 < 0)) (some (-1,())) ((AK8 R x0.2.2.2.1 r2.1).bind fun r3=>cond (decide (r3.1 < 0)) (some (-1,())) ((bC R x0.2.2.2.2.1 r3.1).bind fun r4=>cond (decide (r4.1 < 0)) (some (-1,())) (some (r4.1,()))))))):=by kernel_rfl
theorem A8D (x0:d94):@Eq _ (AJ0 (zD EE R L) x0) (some ((x0.1,(x0.2.1,())),())):=by kernel_rfl
theorem A5O (x0:List d94):@Eq _ (AD5 (zD EE R L) x0) (cond (leI (x0.length:Int) (x0.length:Int)) (cond (yI (x0.length:Int).toNat) (qD R L x0 [] (Ad (x0.length:Int).toNat (0,(0,()))) 0) none) none):=by kernel_rfl
theorem Ab3 (v0 v2 v3:List d94) (v4:Int):@Eq _ (qD R L v0 v2 v3 v4 ([1,1,0,1,0]++[0])) (cond (decide (v4 < (v0.length:Int))) (cond (zA v4) (cond (Ab v4.toNat v0.length) ((AJ0 R (v0.getD v4.toNat (0,(0,())))).bind fun r0=>cond (zA v4) (cond (Ab v4.toNat v3.length) (qD R L v0 v2 (v3.set v4.toNat r0.1) (Aa .i64 (v4+1))) none) none) none) none) (some (v3,()))):=by kernel_rfl
theorem A70 (x0:List (List d78)):@Eq _ (AM6 (zD EE R L) x0) (cond (leI (x0.length:Int) (x0.length:Int)) (cond (yI (x0.length:Int).toNat) (pC R L x0 [] (Ad (x0.length:Int).toNat []) 0) none) none):=by kernel_rfl
theorem An7 (v0 v2 v3:List (List d78)) (v4:Int):@Eq _ (pC R L v0 v2 v3 v4 ([1,1,0,1,0]++[0])) (cond (decide (v4 < (v0.length:Int))) (cond (zA v4) (cond (Ab v4.toNat v0.length) ((AY7 R (v0.getD v4.toNat [])).bind fun r0=>cond (zA v4) (cond (Ab v4.toNat v3.length) (pC R L v0 v2 (v3.set v4.toNat r0.1) (Aa .i64 (v4+1))) none) none) none) none) (some (v3,()))):=by kernel_rfl
theorem A4v (x0:d83):@Eq _ (AD0 (zD EE R L) x0) ((AW6 R x0.2.1).bind fun r0=>some ((x0.1,(r0.1,())),())):=by kernel_rfl
theorem A4i (x0:List d83):@Eq _ (bU (zD EE R L) x0) (cond (leI (x0.length:Int) (x0.length:Int)) (cond (yI (x0.length:Int).toNat) (rA R L x0 [] (Ad (x0.length:Int).toNat (0,([],()))) 0) none) none):=by kernel_rfl
theorem AT1 (v0 v2 v3:List d83) (v4:Int):@Eq _ (rA R L v0 v2 v3 v4 ([1,1,0,1,0]++[0])) (cond (decide (v4 < (v0.length:Int))) (cond (zA v4) (cond (Ab v4.toNat v0.length) ((AD0 R (v0.getD v4.toNat (0,([],())))).bind fun r0=>cond (zA v4) (cond (Ab v4.toNat v3.length) (rA R L v0 v2 (v3.set v4.toNat r0.1) (Aa .i64 (v4+1))) none) none) none) none) (some (v3,()))):=by kernel_rfl
theorem A7q (x0:d95):@Eq _ (eG (zD EE R L) x0) ((AK5 R x0.1).bind fun r0=>(dY R x0.2.1).bind fun r1=>(AD5 R x0.2.2.1).bind fun r2=>(AM6 R x0.2.2.2.1).bind fun r3=>(bU R x0.2.2.2.2.1).bind fun r4=>some ((r0.1,(r1.1,(r2.1,(r3.1,(r4.1,(x0.2.2.2.2.2.1,())))))),())):=by kernel_rfl
theorem BX4 (x0:List d94):@Eq _ (Am4 (zD EE R L) x0) (cond (decide (4096 < (x0.length:Int))) (some (false,())) (kK R L x0 false 0)):=by kernel_rfl
theorem A1w (v0:List d94) (v2:Bool) (v3:Int):@Eq _ (kK R L v0 v2 v3 ([1,1,0,1,0]++[0])) (cond (decide (v3 < (v0.length:Int))) (cond (zA v3) (cond (Ab v3.toNat v0.length) ((wT R (v0.getD v3.toNat (0,(0,()))).1 1 9999).bind fun r0=>cond (!r0.1) (some (false,())) (cond (zA v3) (cond (Ab v3.toNat v0.length) ((wT R (v0.getD v3.toNat (0,(0,()))).2.1 0 999999).bind fun r1=>cond (!r1.1) (some (false,())) (cond (decide (0 < v3)) (cond (zA (Aa .i64 (v3 - 1))) (cond (Ab (Aa .i64 (v3 - 1)).toNat v0.length) (cond (zA v3) (cond (Ab v3.toNat v0.length) (cond (decide ((v0.getD v3.toNat (0,(0,()))).1≤(v0.getD (Aa .i64 (v3 - 1)).toNat (0,(0,()))).1)) (some (false,())) (kK R L v0 v2 (Aa .i64 (v3+1)))) none) none) none) none) (kK R L v0 v2 (Aa .i64 (v3+1))))) none) none)) none) none) (some (decide ((v0.length:Int)≤11),()))):=by kernel_rfl
theorem AU5 (x0:d83):@Eq _ (nP (zD EE R L) x0) ((wT R x0.1 0 19).bind fun r0=>cond (!r0.1) (some (false,())) (cond (decide (32 < (x0.2.1.length:Int))) (some (false,())) (cond (!(eqI x0.1 0)) (cond (decide (0 < (x0.2.1.length:Int))) (some (false,())) (yB R L x0 x0 false 0)) (yB R L x0 x0 false 0)))):=by kernel_rfl
theorem jV (v0 v1:d83) (v2:Bool) (v3:Int):@Eq _ (yB R L v0 v1 v2 v3 ([1,1,0,1,0]++[0])) (cond (decide (v3 < (v1.2.1.length:Int))) (cond (zA v3) (cond (Ab v3.toNat v1.2.1.length) ((wT R (v1.2.1.getD v3.toNat 0) 0 999999).bind fun r0=>cond (!r0.1) (some (false,())) (yB R L v0 v1 v2 (Aa .i64 (v3+1)))) none) none) (some (true,()))):=by kernel_rfl
theorem Aa8 (x0:List d83):@Eq _ (nE (zD EE R L) x0) (xG R L x0 false 0):=by kernel_rfl
theorem iZ (v0:List d83) (v2:Bool) (v3:Int):@Eq _ (xG R L v0 v2 v3 ([1,0,1,0]++[0])) (cond (decide (v3 < (v0.length:Int))) (cond (zA v3) (cond (Ab v3.toNat v0.length) ((nP R (v0.getD v3.toNat (0,([],())))).bind fun r0=>cond (!r0.1) (some (false,())) (xG R L v0 v2 (Aa .i64 (v3+1)))) none) none) (some (decide ((v0.length:Int)≤2),()))):=by kernel_rfl
theorem A7u (x0:d95):@Eq _ (AK7 (zD EE R L) x0) ((AM4 R x0.1).bind fun r0=>cond (!r0.1) (some (false,())) ((dV R x0.2.1).bind fun r1=>cond (!r1.1) (some (false,())) (cond (decide (0 < (x0.2.1.2.1.length:Int))) (some (false,())) ((Am4 R x0.2.2.1).bind fun r2=>cond (!r2.1) (some (false,())) (cond (!(eqI (x0.2.2.2.1.length:Int) (Aa .i64 (x0.1.2.1.2.2.1 - x0.1.2.1.1)))) (some (false,())) ((nE R x0.2.2.2.2.1).bind fun r3=>cond (!r3.1) (some (false,())) (qA R L x0 x0 false 0))))))):=by kernel_rfl
theorem Ak3 (v0 v1:d95) (v2:Bool) (v3:Int):@Eq _ (qA R L v0 v1 v2 v3 ([1,1,0,1,0]++[0])) (cond (decide (v3 < (v1.2.2.2.1.length:Int))) (cond (zA v3) (cond (Ab v3.toNat v1.2.2.2.1.length) ((AI7 R (v1.2.2.2.1.getD v3.toNat [])).bind fun r0=>cond (!r0.1) (some (false,())) (qA R L v0 v1 v2 (Aa .i64 (v3+1)))) none) none) (some (true,()))):=by kernel_rfl
theorem A8V (x0:d88) (x1:Int):@Eq _ (AN1 (zD EE R L) x0 x1) (iO R L x1 x0 (Aa .i64 ((x0.2.1.length:Int) - 1))):=by kernel_rfl
theorem A3y (v1:Int) (v2:d88) (v5:Int):@Eq _ (iO R L v1 v2 v5 ([1,0,1,0]++[0])) (cond (decide (0≤v5)) (cond (zA v5) (cond (Ab v5.toNat v2.2.1.length) (cond (eqI (v2.2.1.getD v5.toNat (0,([],()))).1 v1) (cond (zA v5) (cond (Ab v5.toNat v2.2.1.length) (some ((v2.2.1.getD v5.toNat (0,([],()))).2.1,())) none) none) (iO R L v1 v2 (Aa .i64 (v5 - 1)))) none) none) (cond (zA v1) (cond (Ab v1.toNat v2.1.length) (some (v2.1.getD v1.toNat [],())) none) none)):=by kernel_rfl
theorem A5s (x0 x1:List UInt8):@Eq _ (AB8 (zD EE R L) x0 x1) (cond (decide (65536 < (x0.length:Int))) (some (false,())) (cond (decide (65536 < (x1.length:Int))) (some (false,())) (nQ R L x0 x1 0 0))):=by kernel_rfl
theorem Aa4 (v0 v1:List UInt8) (v5 v6:Int):@Eq _ (nQ R L v0 v1 v5 v6 ([1,1,1,0,1,0]++[0])) (cond (decide (v6 < (v0.length:Int))) (cond (decide (v6 < (v1.length:Int))) (cond (zA v6) (cond (Ab v6.toNat v0.length) (cond (zA v6) (cond (Ab v6.toNat v1.length) (nQ R L v0 v1 (wB .or .i64 v5 (Aa .i64 (wB .xor .u8 (Ai (v0.getD v6.toNat 0):Int) (Ai (v1.getD v6.toNat 0):Int)))) (Aa .i64 (v6+1))) none) none) none) none) (cond (eqI v5 0) (some (eqI (v0.length:Int) (v1.length:Int),())) (some (false,())))) (cond (eqI v5 0) (some (eqI (v0.length:Int) (v1.length:Int),())) (some (false,())))):=by kernel_rfl
theorem A1j (x0 x1 x2 x3:List UInt8):@Eq _ (eE (zD EE R L) x0 x1 x2 x3) (cond (decide ((x3.length:Int) < 16)) (some ([],(false,()))) (cond (zA (Aa .i64 ((x3.length:Int) - 16))) (cond (Al (Aa .i64 ((x3.length:Int) - 16)).toNat x3.length) ((AV0 R x0 x1 x2 (Ag 0 (Ah (Aa .i64 ((x3.length:Int) - 16)).toNat x3))).bind fun r0=>cond (Al x3.length x3.length) (cond (Al ((Ag 0 (Ah (Aa .i64 ((x3.length:Int) - 16)).toNat x3)).length:Int).toNat x3.length) ((AB8 R r0.1 (Ag ((Ag 0 (Ah (Aa .i64 ((x3.length:Int) - 16)).toNat x3)).length:Int).toNat (Ah x3.length x3))).bind fun r1=>cond (!r1.1) (some ([],(false,()))) ((AH1 R x0 x1 1 (Ag 0 (Ah (Aa .i64 ((x3.length:Int) - 16)).toNat x3))).bind fun r2=>some (r2.1,(true,())))) none) none) none) none)):=by kernel_rfl
theorem A7T (x0:List UInt8) (x1 x2 x3:Int) (x4:List UInt8):@Eq _ (hP (zD EE R L) x0 x1 x2 x3 x4) ((AD4 R x1 x2 x3).bind fun r0=>(eE R x0 r0.1 [98,108,111,99,107] x4).bind fun r1=>some (r1.1,(r1.2.1,()))):=by kernel_rfl
theorem A3X (x0:List UInt8):@Eq _ (bQ (zD EE R L) x0) (oI R L x0 [] 0):=by kernel_rfl
theorem AS7 (v0:List UInt8) (v4:List Int) (v5:Int):@Eq _ (oI R L v0 v4 v5 ([1,1,0,1,0]++[0])) (cond (decide ((Aa .i64 (v5+4))≤(v0.length:Int))) ((kP R v0 v5).bind fun r0=>cond (yI (v4.length+([r0.1]).length)) (oI R L v0 (v4++[r0.1]) (Aa .i64 (v5+4))) none) (some (v4,(eqI (Af (v0.length:Int) 4) 0,())))):=by kernel_rfl
theorem Bb8 (x0:List Int) (x1:Int):@Eq _ (AU1 (zD EE R L) x0 x1) (mH R L x0 x1 0):=by kernel_rfl
theorem A1F (v0:List Int) (v1 v5:Int):@Eq _ (mH R L v0 v1 v5 ([1,0,1,0]++[0])) (cond (decide (v5 < (v0.length:Int))) (cond (zA v5) (cond (Ab v5.toNat v0.length) (cond (eqI (v0.getD v5.toNat 0) v1) (some (true,())) (mH R L v0 v1 (Aa .i64 (v5+1)))) none) none) (some (false,()))):=by kernel_rfl
theorem A6W (x0:d79) (x1:d77) (x2:List Int):@Eq _ (dX (zD EE R L) x0 x1 x2) ((wT R x1.1 0 11).bind fun r0=>cond r0.1 (cond (zA x1.1) (cond (Ab x1.1.toNat x0.1.length) (cond (eqI (x0.1.getD x1.1.toNat 0) x1.2.1) ((wT R x1.2.2.1 0 999999).bind fun r1=>cond r1.1 ((AU1 R x2 x1.1).bind fun r2=>some (!r2.1,())) (some (false,()))) (some (false,()))) none) none) (some (false,()))):=by kernel_rfl
theorem A7k (x0:Int):@Eq _ (AL8 (zD EE R L) x0) (iM R L [] (Aa .i64 (7+x0))):=by kernel_rfl
theorem A4N (v3:List Int) (v4:Int):@Eq _ (iM R L v3 v4 ([1,1,1,0]++[0])) (cond (yI (([v4]).length+v3.length)) (cond (eqI v4 0) (some ([v4]++v3,())) (iM R L ([v4]++v3) (Aa .i64 (Ak (Aa .i64 (v4 - 1)) 2)))) none):=by kernel_rfl
theorem Bh1 (x0 x1:Int):@Eq _ (Aj9 (zD EE R L) x0 x1) ((AL8 R x1).bind fun r0=>mL R L x0 r0.1 0):=by kernel_rfl
theorem A1p (v0:Int) (v5:List Int) (v6:Int):@Eq _ (mL R L v0 v5 v6 ([1,1,0,1,0]++[0])) (cond (decide (v6 < (v5.length:Int))) (cond (zA v6) (cond (Ab v6.toNat v5.length) (cond (eqI (v5.getD v6.toNat 0) v0) (some (true,())) (mL R L v0 v5 (Aa .i64 (v6+1)))) none) none) (some (false,()))):=by kernel_rfl
theorem BG7 (x0:d79):@Eq _ (AV2 (zD EE R L) x0) (cond (!(eqI (x0.1.length:Int) 12)) (some (false,())) ((bS R x0.1).bind fun r0=>cond (!r0.1) (some (false,())) (cond (decide (12 < (x0.2.1.length:Int))) (some (false,())) (cond (!(eqI (x0.2.2.1.length:Int) 15)) (some (false,())) (jP R L x0 [] 0))))):=by kernel_rfl
theorem Ay3 (v1:d79) (v3:List Int) (v4:Int):@Eq _ (jP R L v1 v3 v4 ([1,1,1,0,1,0]++[0])) (cond (decide (v4 < (v1.2.1.length:Int))) (cond (zA v4) (cond (Ab v4.toNat v1.2.1.length) ((dX R v1 (v1.2.1.getD v4.toNat (0,(0,(0,())))) v3).bind fun r0=>cond (!r0.1) (some (false,())) (cond (zA v4) (cond (Ab v4.toNat v1.2.1.length) (cond (yI (v3.length+([(v1.2.1.getD v4.toNat (0,(0,(0,())))).1]).length)) (jP R L v1 (v3++[(v1.2.1.getD v4.toNat (0,(0,(0,())))).1]) (Aa .i64 (v4+1))) none) none) none)) none) none) (lA R L v1 v3 0)):=by kernel_rfl
theorem Av1 (v1:d79) (v3:List Int) (v5:Int):@Eq _ (lA R L v1 v3 v5 ([1,1,1,1,0,1,0]++[0])) (cond (decide (v5 < 15)) (cond (zA v5) (cond (Ab v5.toNat v1.2.2.1.length) (cond (decide (2 < ((v1.2.2.1.getD v5.toNat []).length:Int))) (some (false,())) (jY R L v1 v3 v5 0)) none) none) (some (true,()))):=by kernel_rfl
theorem Ax9 (v1:d79) (v3:List Int) (v5 v6:Int):@Eq _ (jY R L v1 v3 v5 v6 ([1,1,1,1,0,1,0,0,1,0,0,1,1,0]++[0])) (cond (zA v5) (cond (Ab v5.toNat v1.2.2.1.length) (cond (decide (v6 < ((v1.2.2.1.getD v5.toNat []).length:Int))) (cond (zA v5) (cond (Ab v5.toNat v1.2.2.1.length) (cond (zA v6) (cond (Ab v6.toNat (v1.2.2.1.getD v5.toNat []).length) ((dX R v1 ((v1.2.2.1.getD v5.toNat []).getD v6.toNat (0,(0,(0,())))) v3).bind fun r0=>cond (!r0.1) (some (false,())) ((Aj9 R v5 ((v1.2.2.1.getD v5.toNat []).getD v6.toNat (0,(0,(0,())))).2.1).bind fun r1=>cond (!r1.1) (some (false,())) (cond (yI (v3.length+([((v1.2.2.1.getD v5.toNat []).getD v6.toNat (0,(0,(0,())))).1]).length)) (jY R L v1 (v3++[((v1.2.2.1.getD v5.toNat []).getD v6.toNat (0,(0,(0,())))).1]) v5 (Aa .i64 (v6+1))) none))) none) none) none) none) (lA R L v1 v3 (Aa .i64 (v5+1)))) none) none):=by kernel_rfl
theorem Ba8 (x0:d82):@Eq _ (AT3 (zD EE R L) x0) (cond (!(eqI (x0.1.length:Int) 11)) (some (false,())) ((AV2 R x0.2.1).bind fun r0=>cond (!r0.1) (some (false,())) (mJ R L x0 0))):=by kernel_rfl
theorem A1Z (v1:d82) (v3:Int):@Eq _ (mJ R L v1 v3 ([1,1,0,1,0]++[0])) (cond (decide (v3 < (v1.1.length:Int))) (cond (zA v3) (cond (Ab v3.toNat v1.1.length) ((wT R (v1.1.getD v3.toNat 0) 0 9999).bind fun r0=>cond (!r0.1) (some (false,())) (cond (zA v3) (cond (Ab v3.toNat v1.1.length) (cond (decide (0 < (v1.1.getD v3.toNat 0))) (cond (zA v3) (cond (Al v3.toNat v1.1.length) (cond (zA v3) (cond (Ab v3.toNat v1.1.length) ((AU1 R (Ag 0 (Ah v3.toNat v1.1)) (v1.1.getD v3.toNat 0)).bind fun r1=>cond r1.1 (some (false,())) (mJ R L v1 (Aa .i64 (v3+1)))) none) none) none) none) (mJ R L v1 (Aa .i64 (v3+1)))) none) none)) none) none) (some (true,()))):=by kernel_rfl
theorem A4b (x0:List d77):@Eq _ (bK (zD EE R L) x0) (sQ R L x0 0):=by kernel_rfl
theorem AS0 (v0:List d77) (v3:Int):@Eq _ (sQ R L v0 v3 ([1,0,1,0]++[0])) (cond (decide (v3 < (v0.length:Int))) (cond (zA v3) (cond (Ab v3.toNat v0.length) ((wT R (v0.getD v3.toNat (0,(0,(0,())))).1 0 11).bind fun r0=>cond (!r0.1) (some (false,())) ((wT R (v0.getD v3.toNat (0,(0,(0,())))).2.1 0 7).bind fun r1=>cond (!r1.1) (some (false,())) ((wT R (v0.getD v3.toNat (0,(0,(0,())))).2.2.1 0 999999).bind fun r2=>cond (!r2.1) (some (false,())) (sQ R L v0 (Aa .i64 (v3+1)))))) none) none) (some (decide ((v0.length:Int)≤2),()))):=by kernel_rfl
theorem A5z (x0:d79) (x1:Int):@Eq _ (AC6 (zD EE R L) x0 x1) (nO R L x1 x0 0):=by kernel_rfl
theorem Ab2 (v1:Int) (v2:d79) (v5:Int):@Eq _ (nO R L v1 v2 v5 ([1,0,1,0]++[0])) (cond (decide (v5 < (v2.2.1.length:Int))) (cond (zA v5) (cond (Ab v5.toNat v2.2.1.length) (cond (eqI (v2.2.1.getD v5.toNat (0,(0,(0,())))).1 v1) (cond (zA v5) (cond (Ab v5.toNat v2.2.1.length) (some ((v2.2.1.getD v5.toNat (0,(0,(0,())))).2.2.1,())) none) none) (nO R L v1 v2 (Aa .i64 (v5+1)))) none) none) (pO R L v1 v2 0)):=by kernel_rfl
theorem Ac8 (v1:Int) (v2:d79) (v6:Int):@Eq _ (pO R L v1 v2 v6 ([1,1,0,1,0]++[0])) (cond (decide (v6 < (v2.2.2.1.length:Int))) (nN R L v1 v2 v6 0) (some (0,()))):=by kernel_rfl
theorem Aa6 (v1:Int) (v2:d79) (v6 v7:Int):@Eq _ (nN R L v1 v2 v6 v7 ([1,1,0,1,0,0,1,0,0,1,0]++[0])) (cond (zA v6) (cond (Ab v6.toNat v2.2.2.1.length) (cond (decide (v7 < ((v2.2.2.1.getD v6.toNat []).length:Int))) (cond (zA v6) (cond (Ab v6.toNat v2.2.2.1.length) (cond (zA v7) (cond (Ab v7.toNat (v2.2.2.1.getD v6.toNat []).length) (cond (eqI ((v2.2.2.1.getD v6.toNat []).getD v7.toNat (0,(0,(0,())))).1 v1) (cond (zA v6) (cond (Ab v6.toNat v2.2.2.1.length) (cond (zA v7) (cond (Ab v7.toNat (v2.2.2.1.getD v6.toNat []).length) (some (((v2.2.2.1.getD v6.toNat []).getD v7.toNat (0,(0,(0,())))).2.2.1,())) none) none) none) none) (nN R L v1 v2 v6 (Aa .i64 (v7+1)))) none) none) none) none) (pO R L v1 v2 (Aa .i64 (v6+1)))) none) none):=by kernel_rfl
theorem BJ7 (x0:List d94) (x1 x2:Int):@Eq _ (AY1 (zD EE R L) x0 x1 x2) (jR R L x0 x1 x2 0):=by kernel_rfl
theorem At9 (v0:List d94) (v1 v2 v7:Int):@Eq _ (jR R L v0 v1 v2 v7 ([1,1,0,0]++[0])) (cond (decide (v7 < (v0.length:Int))) (cond (zA v7) (cond (Ab v7.toNat v0.length) (cond (decide ((v0.getD v7.toNat (0,(0,()))).1 < v1)) (jR R L v0 v1 v2 (Aa .i64 (v7+1))) (cond (zA v7) (cond (Al v0.length v0.length) (cond (Al v7.toNat v0.length) (cond (decide (v7 < (v0.length:Int))) (cond (zA v7) (cond (Ab v7.toNat v0.length) (cond (eqI (v0.getD v7.toNat (0,(0,()))).1 v1) (cond (zA (Aa .i64 (v7+1))) (cond (Al v0.length v0.length) (cond (Al (Aa .i64 (v7+1)).toNat v0.length) (cond (zA v7) (cond (Al v7.toNat v0.length) (cond (yI (([]:List d94).length+(Ag 0 (Ah v7.toNat v0)).length)) (cond (yI ((([]:List d94)++(Ag 0 (Ah v7.toNat v0))).length+([(v1,(v2,()))]).length)) (cond (yI (((([]:List d94)++(Ag 0 (Ah v7.toNat v0)))++[(v1,(v2,()))]).length+(Ag (Aa .i64 (v7+1)).toNat (Ah v0.length v0)).length)) (some ((([]++(Ag 0 (Ah v7.toNat v0)))++[(v1,(v2,()))])++(Ag (Aa .i64 (v7+1)).toNat (Ah v0.length v0)),())) none) none) none) none) none) none) none) none) (cond (zA v7) (cond (Al v7.toNat v0.length) (cond (yI (([]:List d94).length+(Ag 0 (Ah v7.toNat v0)).length)) (cond (yI ((([]:List d94)++(Ag 0 (Ah v7.toNat v0))).length+([(v1,(v2,()))]).length)) (cond (yI (((([]:List d94)++(Ag 0 (Ah v7.toNat v0)))++[(v1,(v2,()))]).length+(Ag v7.toNat (Ah v0.length v0)).length)) (some ((([]++(Ag 0 (Ah v7.toNat v0)))++[(v1,(v2,()))])++(Ag v7.toNat (Ah v0.length v0)),())) none) none) none) none) none)) none) none) (cond (zA v7) (cond (Al v7.toNat v0.length) (cond (yI (([]:List d94).length+(Ag 0 (Ah v7.toNat v0)).length)) (cond (yI ((([]:List d94)++(Ag 0 (Ah v7.toNat v0))).length+([(v1,(v2,()))]).length)) (cond (yI (((([]:List d94)++(Ag 0 (Ah v7.toNat v0)))++[(v1,(v2,()))]).length+(Ag v7.toNat (Ah v0.length v0)).length)) (some ((([]++(Ag 0 (Ah v7.toNat v0)))++[(v1,(v2,()))])++(Ag v7.toNat (Ah v0.length v0)),())) none) none) none) none) none)) none) none) none)) none) none) (cond (zA v7) (cond (Al v0.length v0.length) (cond (Al v7.toNat v0.length) (cond (decide (v7 < (v0.length:Int))) (cond (zA v7) (cond (Ab v7.toNat v0.length) (cond (eqI (v0.getD v7.toNat (0,(0,()))).1 v1) (cond (zA (Aa .i64 (v7+1))) (cond (Al v0.length v0.length) (cond (Al (Aa .i64 (v7+1)).toNat v0.length) (cond (zA v7) (cond (Al v7.toNat v0.length) (cond (yI (([]:List d94).length+(Ag 0 (Ah v7.toNat v0)).length)) (cond (yI ((([]:List d94)++(Ag 0 (Ah v7.toNat v0))).length+([(v1,(v2,()))]).length)) (cond (yI (((([]:List d94)++(Ag 0 (Ah v7.toNat v0)))++[(v1,(v2,()))]).length+(Ag (Aa .i64 (v7+1)).toNat (Ah v0.length v0)).length)) (some ((([]++(Ag 0 (Ah v7.toNat v0)))++[(v1,(v2,()))])++(Ag (Aa .i64 (v7+1)).toNat (Ah v0.length v0)),())) none) none) none) none) none) none) none) none) (cond (zA v7) (cond (Al v7.toNat v0.length) (cond (yI (([]:List d94).length+(Ag 0 (Ah v7.toNat v0)).length)) (cond (yI ((([]:List d94)++(Ag 0 (Ah v7.toNat v0))).length+([(v1,(v2,()))]).length)) (cond (yI (((([]:List d94)++(Ag 0 (Ah v7.toNat v0)))++[(v1,(v2,()))]).length+(Ag v7.toNat (Ah v0.length v0)).length)) (some ((([]++(Ag 0 (Ah v7.toNat v0)))++[(v1,(v2,()))])++(Ag v7.toNat (Ah v0.length v0)),())) none) none) none) none) none)) none) none) (cond (zA v7) (cond (Al v7.toNat v0.length) (cond (yI (([]:List d94).length+(Ag 0 (Ah v7.toNat v0)).length)) (cond (yI ((([]:List d94)++(Ag 0 (Ah v7.toNat v0))).length+([(v1,(v2,()))]).length)) (cond (yI (((([]:List d94)++(Ag 0 (Ah v7.toNat v0)))++[(v1,(v2,()))]).length+(Ag v7.toNat (Ah v0.length v0)).length)) (some ((([]++(Ag 0 (Ah v7.toNat v0)))++[(v1,(v2,()))])++(Ag v7.toNat (Ah v0.length v0)),())) none) none) none) none) none)) none) none) none)):=by kernel_rfl
theorem BF3 (x0:d82):@Eq _ (AW3 (zD EE R L) x0) (mP R L x0 [] 0):=by kernel_rfl
theorem Aw8 (v1:d82) (v3:List d94) (v4:Int):@Eq _ (mP R L v1 v3 v4 ([1,1,0,1,0]++[0])) (cond (decide (v4 < (v1.1.length:Int))) (cond (zA v4) (cond (Ab v4.toNat v1.1.length) (cond (decide (0 < (v1.1.getD v4.toNat 0))) (cond (zA v4) (cond (Ab v4.toNat v1.1.length) ((AC6 R v1.2.1 v4).bind fun r0=>(AY1 R v3 (v1.1.getD v4.toNat 0) r0.1).bind fun r1=>mP R L v1 r1.1 (Aa .i64 (v4+1))) none) none) (mP R L v1 v3 (Aa .i64 (v4+1)))) none) none) (some (v3,()))):=by kernel_rfl
theorem A5u (x0:Int):@Eq _ (AC0 (zD EE R L) x0) (cond (decide (x0 < 0)) (some ([],())) (cond (decide ((([[(111:UInt8),107],[98,97,100],[108,111,110,103],[102,111,114,109],[114,97,110,103,101],[110,111,110,101],[109,97,110,121],[102,117,108,108],[115,105,122,101],[116,97,103],[116,97,109,112,101,114,101,100],[116,111,114,110],[115,116,97,115,104],[116,97,112,101],[99,104,101,99,107],[112,101,110,100,105,110,103],[100,111,119,110],[117,112],[115,112,101,110,116],[107,101,121]]).length:Int)≤x0)) (some ([],())) (cond (zA x0) (cond (Ab x0.toNat ([[(111:UInt8),107],[98,97,100],[108,111,110,103],[102,111,114,109],[114,97,110,103,101],[110,111,110,101],[109,97,110,121],[102,117,108,108],[115,105,122,101],[116,97,103],[116,97,109,112,101,114,101,100],[116,111,114,110],[115,116,97,115,104],[116,97,112,101],[99,104,101,99,107],[112,101,110,100,105,110,103],[100,111,119,110],[117,112],[115,112,101,110,116],[107,101,121]]).length) (some (([[(111:UInt8),107],[98,97,100],[108,111,110,103],[102,111,114,109],[114,97,110,103,101],[110,111,110,101],[109,97,110,121],[102,117,108,108],[115,105,122,101],[116,97,103],[116,97,109,112,101,114,101,100],[116,111,114,110],[115,116,97,115,104],[116,97,112,101],[99,104,101,99,107],[112,101,110,100,105,110,103],[100,111,119,110],[117,112],[115,112,101,110,116],[107,101,121]]).getD x0.toNat [],())) none) none))):=by kernel_rfl
theorem A3Y (x0:Int):@Eq _ (mW (zD EE R L) x0) (cond (eqI x0 (-9223372036854775808)) (some ([45,57,50,50,51,51,55,50,48,51,54,56,53,52,55,55,53,56,48,56],())) (cond (decide (x0 < 0)) ((mW R (Bv1 .i64 x0)).bind fun r0=>cond (yI (([(45:UInt8)]).length+r0.1.length)) (some ([45]++r0.1,())) none) (cond (decide (x0 < 10)) (some (An (fun (n:Int)=>Am n.toNat) [Aa .u8 (Aa .i64 (48+x0))],())) ((mW R (Aa .i64 (Ak x0 10))).bind fun r0=>cond (yI (r0.1.length+(An (fun (n:Int)=>Am n.toNat) [Aa .u8 (Aa .i64 (48+(Af x0 10)))]).length)) (some (r0.1++(An (fun (n:Int)=>Am n.toNat) [Aa .u8 (Aa .i64 (48+(Af x0 10)))]),())) none)))):=by kernel_rfl
theorem A7U (x0:d83):@Eq _ (aT (zD EE R L) x0) ((AC0 R x0.1).bind fun r0=>pA R L x0 r0.1 0):=by kernel_rfl
theorem Ao0 (v1:d83) (v3:List UInt8) (v4:Int):@Eq _ (pA R L v1 v3 v4 ([1,1,0,1,0]++[0])) (cond (decide (v4 < (v1.2.1.length:Int))) (cond (zA v4) (cond (Ab v4.toNat v1.2.1.length) ((mW R (v1.2.1.getD v4.toNat 0)).bind fun r0=>cond (yI (([(32:UInt8)]).length+r0.1.length)) (cond (yI (v3.length+([(32:UInt8)]++r0.1).length)) (pA R L v1 (v3++([32]++r0.1)) (Aa .i64 (v4+1))) none) none) none) none) (some (v3,()))):=by kernel_rfl
theorem A10 (x0 x1:List d83):@Eq _ (dA (zD EE R L) x0 x1) (cond (!(eqI (x0.length:Int) (x1.length:Int))) (some (false,())) (uV R L x0 x1 0)):=by kernel_rfl
theorem AN5 (v0 v1:List d83) (v5:Int):@Eq _ (uV R L v0 v1 v5 ([1,1,0,1,0]++[0])) (cond (decide (v5 < (v0.length:Int))) (cond (zA v5) (cond (Ab v5.toNat v0.length) ((aT R (v0.getD v5.toNat (0,([],())))).bind fun r0=>cond (zA v5) (cond (Ab v5.toNat v1.length) ((aT R (v1.getD v5.toNat (0,([],())))).bind fun r1=>cond (!(eqS r0.1 r1.1)) (some (false,())) (uV R L v0 v1 (Aa .i64 (v5+1)))) none) none) none) none) (some (true,()))):=by kernel_rfl
theorem Bf7 (x0:List d94):@Eq _ (An8 (zD EE R L) x0) (AT7 R L x0 false x0 (x0.length:Int) 0):=by kernel_rfl
theorem A8j (v0:List d94) (v2:Bool) (v5:List d94) (v6 v7:Int):@Eq _ (AT7 R L v0 v2 v5 v6 v7 ([1,0,1,0]++[0])) (cond (decide (v7 < v6)) (cond (zA v7) (cond (Ab v7.toNat v5.length) ((AG6 R (v5.getD v7.toNat (0,(0,()))).1).bind fun r0=>cond (!r0.1) (some (false,())) ((kO R (v5.getD v7.toNat (0,(0,()))).2.1).bind fun r1=>cond (!r1.1) (some (false,())) (cond (decide (0 < v7)) (cond (zA (Aa .i64 (v7 - 1))) (cond (Ab (Aa .i64 (v7 - 1)).toNat v0.length) (cond (decide ((v5.getD v7.toNat (0,(0,()))).1≤(v0.getD (Aa .i64 (v7 - 1)).toNat (0,(0,()))).1)) (some (false,())) (oU R L v0 v2 v7 (v5.getD v7.toNat (0,(0,()))) v5 v6 (Aa .i64 (v7+1)))) none) none) (oU R L v0 v2 v7 (v5.getD v7.toNat (0,(0,()))) v5 v6 (Aa .i64 (v7+1)))))) none) none) (some (decide ((v0.length:Int)≤11),()))):=by kernel_rfl
theorem Ad9 (v0:List d94) (v2:Bool) (v3:Int) (v4:d94) (v5:List d94) (v6 v7:Int):@Eq _ (oU R L v0 v2 v3 v4 v5 v6 v7 ([1,0,1,0]++[0])) (cond (decide (v7 < v6)) (cond (zA v7) (cond (Ab v7.toNat v5.length) ((AG6 R (v5.getD v7.toNat (0,(0,()))).1).bind fun r0=>cond (!r0.1) (some (false,())) ((kO R (v5.getD v7.toNat (0,(0,()))).2.1).bind fun r1=>cond (!r1.1) (some (false,())) (cond (decide (0 < v7)) (cond (zA (Aa .i64 (v7 - 1))) (cond (Ab (Aa .i64 (v7 - 1)).toNat v0.length) (cond (decide ((v5.getD v7.toNat (0,(0,()))).1≤(v0.getD (Aa .i64 (v7 - 1)).toNat (0,(0,()))).1)) (some (false,())) (oU R L v0 v2 v7 (v5.getD v7.toNat (0,(0,()))) v5 v6 (Aa .i64 (v7+1)))) none) none) (oU R L v0 v2 v7 (v5.getD v7.toNat (0,(0,()))) v5 v6 (Aa .i64 (v7+1)))))) none) none) (some (decide ((v0.length:Int)≤11),()))):=by kernel_rfl
theorem AU0 (x0:List d78) (x1:FnVal):@Eq _ (kA (zD EE R L) x0 x1) ((xB EE R x1 [⟨(.sl t6),(x0:List d78)⟩]).bind fun (r0:Bool)=>some (!r0,())):=by kernel_rfl
theorem iC (x0:List (List d78)) (x1:FnVal):@Eq _ (wJ (zD EE R L) x0 x1) (vJ R L x0 x1 0 (x0.length:Int) 0):=by kernel_rfl
theorem kV (v0:List (List d78)) (v1:FnVal) (v4 v7 v8:Int):@Eq _ (vJ R L v0 v1 v4 v7 v8 ([1,0,1,0]++[0])) (cond (decide (v8 < v7)) (cond (zA v8) (cond (Ab v8.toNat v0.length) ((xB EE R v1 [⟨(.sl t6),(v0.getD v8.toNat []:List d78)⟩]).bind fun (r0:Bool)=>cond r0 (some (v8,())) (zH R L v0 v1 v4 v8 v7 (Aa .i64 (v8+1)))) none) none) (some (-1,()))):=by kernel_rfl
theorem vP (v0:List (List d78)) (v1:FnVal) (v4 v5 v7 v8:Int):@Eq _ (zH R L v0 v1 v4 v5 v7 v8 ([1,0,1,0]++[0])) (cond (decide (v8 < v7)) (cond (zA v8) (cond (Ab v8.toNat v0.length) ((xB EE R v1 [⟨(.sl t6),(v0.getD v8.toNat []:List d78)⟩]).bind fun (r0:Bool)=>cond r0 (some (v8,())) (zH R L v0 v1 v4 v8 v7 (Aa .i64 (v8+1)))) none) none) (some (-1,()))):=by kernel_rfl
theorem lX (x0:List (List d78)) (x1:FnVal):@Eq _ (xP (zD EE R L) x0 x1) ((wJ R x0 x1).bind fun r0=>some (decide (0≤r0.1),())):=by kernel_rfl
theorem Af5 (x0:List (List d78)) (x1:FnVal):@Eq _ (mY (zD EE R L) x0 x1) ((xP R x0 (FnVal.mk (237:Nat) (FCaps.fn x1 FCaps.nil))).bind fun r0=>some (!r0.1,())):=by kernel_rfl
theorem AO9 (x0:d83) (x1:FnVal):@Eq _ (lL (zD EE R L) x0 x1) ((xB EE R x1 [⟨t12,(x0:d83)⟩]).bind fun (r0:Bool)=>some (!r0,())):=by kernel_rfl
theorem kL (x0:List d83) (x1:FnVal):@Eq _ (xW (zD EE R L) x0 x1) (wW R L x0 x1 0 (x0.length:Int) 0):=by kernel_rfl
theorem lK (v0:List d83) (v1:FnVal) (v4 v7 v8:Int):@Eq _ (wW R L v0 v1 v4 v7 v8 ([1,0,1,0]++[0])) (cond (decide (v8 < v7)) (cond (zA v8) (cond (Ab v8.toNat v0.length) ((xB EE R v1 [⟨t12,(v0.getD v8.toNat (0,([],())):d83)⟩]).bind fun (r0:Bool)=>cond r0 (some (v8,())) (zF R L v0 v1 v4 v8 v7 (Aa .i64 (v8+1)))) none) none) (some (-1,()))):=by kernel_rfl
theorem vE (v0:List d83) (v1:FnVal) (v4 v5 v7 v8:Int):@Eq _ (zF R L v0 v1 v4 v5 v7 v8 ([1,0,1,0]++[0])) (cond (decide (v8 < v7)) (cond (zA v8) (cond (Ab v8.toNat v0.length) ((xB EE R v1 [⟨t12,(v0.getD v8.toNat (0,([],())):d83)⟩]).bind fun (r0:Bool)=>cond r0 (some (v8,())) (zF R L v0 v1 v4 v8 v7 (Aa .i64 (v8+1)))) none) none) (some (-1,()))):=by kernel_rfl
theorem lE (x0:List d83) (x1:FnVal):@Eq _ (xH (zD EE R L) x0 x1) ((xW R x0 x1).bind fun r0=>some (decide (0≤r0.1),())):=by kernel_rfl
theorem AZ5 (x0:List d83) (x1:FnVal):@Eq _ (nL (zD EE R L) x0 x1) ((xH R x0 (FnVal.mk (299:Nat) (FCaps.fn x1 FCaps.nil))).bind fun r0=>some (!r0.1,())):=by kernel_rfl
theorem A2m (x0:Int):@Eq _ (aD (zD EE R L) x0) ((uF R x0 0 19).bind fun r0=>some (r0.1,())):=by kernel_rfl
theorem Av0 (x0:d83):@Eq _ (gJ (zD EE R L) x0) ((aD R x0.1).bind fun r0=>cond r0.1 (cond (decide ((x0.2.1.length:Int)≤32)) ((tZ R x0.2.1 (FnVal.mk (235:Nat) FCaps.nil)).bind fun r1=>cond r1.1 (cond (eqI x0.1 0) (some (true,())) (some (eqI (x0.2.1.length:Int) 0,()))) (some (false,()))) (some (false,()))) (some (false,()))):=by kernel_rfl
theorem Ab7 (x0:List d83):@Eq _ (nF (zD EE R L) x0) (cond (decide ((x0.length:Int)≤2)) ((nL R x0 (FnVal.mk (239:Nat) FCaps.nil)).bind fun r0=>some (r0.1,())) (some (false,()))):=by kernel_rfl
theorem A7N (x0:d95):@Eq _ (AI0 (zD EE R L) x0) ((AK4 R x0.1).bind fun r0=>cond r0.1 ((AF3 R x0.2.1).bind fun r1=>cond r1.1 ((An8 R x0.2.2.1).bind fun r2=>cond r2.1 ((qO R x0.1.2.1).bind fun r3=>cond (eqI (x0.2.2.2.1.length:Int) r3.1) ((mY R x0.2.2.2.1 (FnVal.mk (136:Nat) FCaps.nil)).bind fun r4=>cond r4.1 ((nF R x0.2.2.2.2.1).bind fun r5=>some (r5.1,())) (some (false,()))) (some (false,()))) (some (false,()))) (some (false,()))) (some (false,()))):=by kernel_rfl
theorem Aq8 (x0:d89):@Eq _ (jU (zD EE R L) x0) (cond (zA (Aa .i64 (16 * (Aa .i64 (x0.2.1.2.1+1))))) (cond (zA (Aa .i64 (16 * x0.2.1.2.1))) (cond (Al (Aa .i64 (16 * (Aa .i64 (x0.2.1.2.1+1)))).toNat x0.2.2.1.1.length) (cond (Al (Aa .i64 (16 * x0.2.1.2.1)).toNat (Aa .i64 (16 * (Aa .i64 (x0.2.1.2.1+1)))).toNat) (some (Ag (Aa .i64 (16 * x0.2.1.2.1)).toNat (Ah (Aa .i64 (16 * (Aa .i64 (x0.2.1.2.1+1)))).toNat x0.2.2.1.1),())) none) none) none) none):=by kernel_rfl
theorem A9D (x0 x1 x2 x3:List UInt8):@Eq _ (AY5 (zD EE R L) x0 x1 x2 x3) (cond (decide ((x3.length:Int) < 16)) (some ([],(false,()))) (cond (zA (Aa .i64 ((x3.length:Int) - 16))) (cond (Al (Aa .i64 ((x3.length:Int) - 16)).toNat x3.length) (cond (zA (Aa .i64 ((x3.length:Int) - 16))) (cond (Al x3.length x3.length) (cond (Al (Aa .i64 ((x3.length:Int) - 16)).toNat x3.length) ((AX6 R x0 x1 x2 (Ag 0 (Ah (Aa .i64 ((x3.length:Int) - 16)).toNat x3))).bind fun r0=>cond (!(eqS r0.1 (Ag (Aa .i64 ((x3.length:Int) - 16)).toNat (Ah x3.length x3)))) (some ([],(false,()))) ((As6 R x0 x1 1 (Ag 0 (Ah (Aa .i64 ((x3.length:Int) - 16)).toNat x3))).bind fun r1=>some (r1.1,(true,())))) none) none) none) none) none)):=by kernel_rfl
theorem BI8 (x0:List UInt8) (x1 x2 x3:Int) (x4:List UInt8):@Eq _ (eS (zD EE R L) x0 x1 x2 x3 x4) ((AM3 R x1 x2 x3).bind fun r0=>(AY5 R x0 r0.1 [98,108,111,99,107] x4).bind fun r1=>some (r1.1,(r1.2.1,()))):=by kernel_rfl
theorem A5A (x0:List UInt8):@Eq _ (AB5 (zD EE R L) x0) (nU R L x0 [] 0):=by kernel_rfl
theorem Aa9 (v0:List UInt8) (v3:List Int) (v4:Int):@Eq _ (nU R L v0 v3 v4 ([1,1,0,1,0]++[0])) (cond (decide (v4 < (v0.length:Int))) (cond (zA v4) (cond (Al v0.length v0.length) (cond (Al v4.toNat v0.length) ((iT R (Ag v4.toNat (Ah v0.length v0))).bind fun r0=>cond (yI (v3.length+([Aa .i64 r0.1]).length)) (nU R L v0 (v3++[Aa .i64 r0.1]) (Aa .i64 (v4+4))) none) none) none) none) (some (v3,()))):=by kernel_rfl
theorem oN (x0:List d94) (x1:Int) (x2:FnVal):@Eq _ (xV (zD EE R L) x0 x1 x2) (zK R L x0 x1 x2 (x0.length:Int) 0 (x0.length:Int)):=by kernel_rfl
theorem pW (v0:List d94) (v1:Int) (v2:FnVal) (v8 v9 v10:Int):@Eq _ (zK R L v0 v1 v2 v8 v9 v10 ([1,1,1,0,0]++[0])) (cond (decide (v9 < v10)) (cond (zA (Aa .i64 (Aj (Aa .u64 (Aa .i64 (v9+v10))) (2 ^ (Ae (1:Int).toNat (Ac .u64)))))) (cond (Ab (Aa .i64 (Aj (Aa .u64 (Aa .i64 (v9+v10))) (2 ^ (Ae (1:Int).toNat (Ac .u64))))).toNat v0.length) ((A5H EE R v2 [⟨t23,(v0.getD (Aa .i64 (Aj (Aa .u64 (Aa .i64 (v9+v10))) (2 ^ (Ae (1:Int).toNat (Ac .u64))))).toNat (0,(0,())):d94)⟩,⟨(.int .i64),(v1:Int)⟩]).bind fun (r0:Int)=>cond (decide (r0 < 0)) (zK R L v0 v1 v2 v8 (Aa .i64 ((Aa .i64 (Aj (Aa .u64 (Aa .i64 (v9+v10))) (2 ^ (Ae (1:Int).toNat (Ac .u64)))))+1)) v10) (zK R L v0 v1 v2 v8 v9 (Aa .i64 (Aj (Aa .u64 (Aa .i64 (v9+v10))) (2 ^ (Ae (1:Int).toNat (Ac .u64))))))) none) none) (cond (decide (v9 < v8)) (cond (zA v9) (cond (Ab v9.toNat v0.length) ((A5H EE R v2 [⟨t23,(v0.getD v9.toNat (0,(0,())):d94)⟩,⟨(.int .i64),(v1:Int)⟩]).bind fun (r0:Int)=>some (v9,(eqI r0 0,()))) none) none) (some (v9,(false,()))))):=by kernel_rfl
theorem BH9 (x0:d94) (x1:Int):@Eq _ (Ar8 (zD EE R L) x0 x1) (some (Aa .i64 (x0.1 - x1),())):=by kernel_rfl
theorem Bs6 (x0:List d94) (x1:Int):@Eq _ (A0W (zD EE R L) x0 x1) ((xV R x0 x1 (FnVal.mk (241:Nat) FCaps.nil)).bind fun r0=>some (r0.1,(r0.2.1,()))):=by kernel_rfl
theorem fV (x0 x1:List d94):@Eq _ (vH (zD EE R L) x0 x1) (cond (!(eqI (x0.length:Int) (x1.length:Int))) (some (false,())) (zU R L x0 x1 (x0.length:Int) 0)):=by kernel_rfl
theorem pL (v0 v1:List d94) (v12 v13:Int):@Eq _ (zU R L v0 v1 v12 v13 ([1,1,0,1,0]++[0])) (cond (decide (v13 < v12)) (cond (zA v13) (cond (Ab v13.toNat v0.length) (cond (zA v13) (cond (Ab v13.toNat v1.length) (cond (!(AQ (eqI (v0.getD v13.toNat (0,(0,()))).1 (v1.getD v13.toNat (0,(0,()))).1) (AQ (eqI (v0.getD v13.toNat (0,(0,()))).2.1 (v1.getD v13.toNat (0,(0,()))).2.1) true))) (some (false,())) (zU R L v0 v1 v12 (Aa .i64 (v13+1)))) none) none) none) none) (some (true,()))):=by kernel_rfl
theorem rP (x0 x1:List d83) (x2:FnVal):@Eq _ (zZ (zD EE R L) x0 x1 x2) (cond (!(eqI (x0.length:Int) (x1.length:Int))) (some (false,())) (zC R L x1 x2 x0 (x0.length:Int) 0)):=by kernel_rfl
theorem wE (v1:List d83) (v2:FnVal) (v15:List d83) (v16 v17:Int):@Eq _ (zC R L v1 v2 v15 v16 v17 ([1,1,0,1,0]++[0])) (cond (decide (v17 < v16)) (cond (zA v17) (cond (Ab v17.toNat v15.length) (cond (zA v17) (cond (Ab v17.toNat v1.length) ((xB EE R v2 [⟨t12,(v15.getD v17.toNat (0,([],())):d83)⟩,⟨t12,(v1.getD v17.toNat (0,([],())):d83)⟩]).bind fun (r0:Bool)=>cond (!r0) (some (false,())) (zC R L v1 v2 v15 v16 (Aa .i64 (v17+1)))) none) none) none) none) (some (true,()))):=by kernel_rfl
theorem AE5 (x0 x1:List Int):@Eq _ (rW (zD EE R L) x0 x1) (cond (!(eqI (x0.length:Int) (x1.length:Int))) (some (false,())) (yO R L x0 x1 (x0.length:Int) 0)):=by kernel_rfl
theorem jD (v0 v1:List Int) (v12 v13:Int):@Eq _ (yO R L v0 v1 v12 v13 ([1,1,0,1,0]++[0])) (cond (decide (v13 < v12)) (cond (zA v13) (cond (Ab v13.toNat v0.length) (cond (zA v13) (cond (Ab v13.toNat v1.length) (cond (!(eqI (v0.getD v13.toNat 0) (v1.getD v13.toNat 0))) (some (false,())) (yO R L v0 v1 v12 (Aa .i64 (v13+1)))) none) none) none) none) (some (true,()))):=by kernel_rfl
theorem As3 (x0 x1:d83):@Eq _ (iA (zD EE R L) x0 x1) (cond (eqI x0.1 x1.1) ((rW R x0.2.1 x1.2.1).bind fun r0=>some (r0.1,())) (some (false,()))):=by kernel_rfl
theorem A1H (x0 x1:List d83):@Eq _ (gS (zD EE R L) x0 x1) ((zZ R x0 x1 (FnVal.mk (177:Nat) FCaps.nil)).bind fun r0=>some (r0.1,())):=by kernel_rfl
end Go.Rf.S

end
section
namespace Go.Rf.S
open Go.Proofs
set_option maxRecDepth 100000
instance B45:Laid:=⟨[]⟩
def B4q:List Dyn→Option (Ty.pair .str .unit).D
 | [k,n,c,t]=>(Bf6 k).bind fun k=>(Bf6 n).bind fun n=>(Bo2 c).bind fun c=>(Bf6 t).bind fun t=>some (chX k n (t.length / 64+1) c.toNat t,())
 | _=>none
def itx (x:Int):List UInt8:=ub (lit x.toNat 4)
def B4w:List Dyn→Option (Ty.pair .bool .unit).D
 | [e]=>(iP e.t tE e.x).bind fun e=>some (AZ8 e,())
 | _=>none
abbrev tB:Ty:=.pair (.int .i64) (.pair (.int .i64) (.pair (.int .i64) .unit))
def B4t:List Dyn→Option (Ty.pair (.sl tB) .unit).D
 | [l]=>(B3O (.sl tB) l).bind fun l=>some ((List.flatten (l:List (List tB.D)):List tB.D),())
 | _=>none
def B4p:List Dyn→Option (Ty.pair (.sl (.int .i64)) .unit).D
 | [l]=>(B3O (.int .i64) l).bind fun l=>some ((l.reverse:List Int),())
 | _=>none
abbrev tEn:Ty:=.pair (.int .i64) (.pair (.int .i64) .unit)
noncomputable def X:(f:FuncId)→Option (List Dyn→Option (EE.cfg f).rt.D)
 | 311=>some B3Q
 | 273=>some (okH EE 273 B4q)
 | 162=>some (okH EE 162 B4w)
 | 303=>some (okH EE 303 B4t)
 | 366=>some (okH EE 366 B4p)
 | 174=>some (okH EE 174 (B42 tEn))
 | _=>none
noncomputable abbrev R:Run EE:=run X
noncomputable abbrev L:fT:=lps X
theorem BL6 {f:FuncId} {h:List Dyn→Option (EE.cfg f).rt.D} (hX:X f=some h) (ds:List Dyn):run X f ds=h ds:=by
 rw[Bv7];unfold Ae6;rw[hX]
theorem call {f:FuncId} {ds:List Dyn} {r:Option (EE.cfg f).rt.D} (h:zD EE R L f ds=r) (hX:X f=none:=by rfl):R f ds=r:=(B2s X hX ds).trans h
theorem round {f:FuncId} {fn:Func} {p:List Nat} {σ:List SV} {r:Option (EE.cfg f).rt.D} (h:(fF (A9v fn) p&&!BI9 (EE.cfg f).keep)=true) (q:zN EE R L f fn (p++[0]) σ=r):zN EE R L f fn p σ=r:=(BV9 h).trans q
theorem B4B:∀ f h,X f=some h→∀ ds x,h ds=some x→Bw3 EE f ds x:=by
 intro f h hX ds x hx
 unfold X at hX
 split at hX
 ·cases hX
  obtain⟨s,n,rfl,h1,h2,rfl⟩:=Bh2 hx
  exact BT8 (E:=EE) Tryz.laysRep Tryz.extra rfl Tryz.func311 (by kernel_rfl) (by kernel_rfl) s n h1 h2
 ·cases hX;exact A6Z hx
 ·cases hX;exact A6Z hx
 ·cases hX;exact A6Z hx
 ·cases hX;exact A6Z hx
 ·cases hX;exact A6Z hx
 ·cases hX
theorem mixed:EE.P.follows .mixedOrders=true:=by kernel_rfl
theorem B1U:As9 EE.P:=A2v (by kernel_rfl)
theorem BI2:A2U EE R:=Bx9 X B4B mixed B1U
end Go.Rf.S

end
section
namespace Go.Rf.S
set_option maxRecDepth 100000
theorem A1z {k:IntKind} {a b:Nat} (h:a+b < qH k):Aa k ((a:Int)+(b:Int))=((a+b:Nat):Int):=by
 rw[show (a:Int)+(b:Int)=((a+b:Nat):Int) from by omega,Ak0 h]
theorem Bw1 (a b:Nat):Aa .u32 ((a:Int)+(b:Int))=(((a+b) % 4294967296:Nat):Int):=by
 rw[show (a:Int)+(b:Int)=((a+b:Nat):Int) from by omega,A0v]
theorem m32 {a:Nat} (h:a < 9223372036854775808):wB .and .i64 (a:Int) 4294967295=((a % 4294967296:Nat):Int):=by
 rw[show (4294967295:Int)=((4294967295:Nat):Int) from rfl,Ae8 (k:=.i64) h (by decide),B1E]
theorem BS8 {a c:Nat} (h:c≤a) (ha:a < 9223372036854775808):Aa .i64 ((a:Int) - (c:Int))=((a - c:Nat):Int):=by
 rw[zI (by omega) (by omega)];omega
theorem A5k {k:IntKind} {a n:Nat} (h:a * 2 ^ n < qH k):Aa k ((a:Int) * (2 ^ n:Int))=((a * 2 ^ n:Nat):Int):=by
 rw[BH7,Ak0 h]
theorem B33:∀ n:Fin 32,0 < n.val→wB .and .u64 (Aa .u64 (Bv1 .i64 (n.val:Int))) 31=((32 - n.val:Nat):Int):=by decide +kernel
theorem B2K (x n:Nat) (hx:x < 4294967296) (h0:0 < n) (hn:n < 32):xM R (x:Int) (Bv1 .i64 (n:Int))=some (((rr n x:Nat):Int),()):=by
 have hq:xM R (x:Int) (Bv1 .i64 (n:Int))=_:=call (gL R L (x:Int) (Bv1 .i64 (n:Int)))
 have e1:=B33 ⟨n,hn⟩ h0
 simp only at e1
 have e2:Aa .u64 ((32:Int) - ((32 - n:Nat):Int))=(n:Int):=by
  rw[show (32:Int) - ((32 - n:Nat):Int)=(n:Int) by omega,Ak0 (by simp only[qH];omega)]
 rw[hq,e1,e2,A3 (show ¬ ((n:Int) < 0) by omega)]
 simp only[cond_false,tn]
 rw[show Ae (32 - n) (Ac .u32)=32 - n from Aq (by simp only[Ac];omega),show Ae n (Ac .u32)=n from Aq (by simp only[Ac];omega),BH7,A0v,fI,
  Au5 (k:=.u32) (vY _) (jM _ hx)]
 unfold rr rl
 rw[show 32 - (32 - n)=n by omega]
theorem dN (x n:Nat) (hx:x < 4294967296) (h0:0 < n) (hn:n < 32):wN R (x:Int) (n:Int)=some (((rr n x:Nat):Int),()):=by
 have hq:wN R (x:Int) (n:Int)=_:=call (BM4 R L (x:Int) (n:Int))
 rw[hq,B2K x n hx h0 hn]
 rfl
theorem AE3 (x n:Nat) (hx:x < 4294967296) (h0:0 < n) (hn:n < 32):yS R (x:Int) (n:Int)=some (((rr n x:Nat):Int),()):=by
 have hq:yS R (x:Int) (n:Int)=_:=call (A4y R L (x:Int) (n:Int))
 have e2:Aa .i64 ((32:Int) - (n:Int))=((32 - n:Nat):Int):=by
  rw[zI (by omega) (by omega)];omega
 have hb:x * 2 ^ (32 - n) < 9223372036854775808:=by
  have h1:2 ^ (32 - n)≤2 ^ 31:=Nat.pow_le_pow_right (by decide) (by omega)
  have h2:x * 2 ^ (32 - n)≤x * 2 ^ 31:=Nat.mul_le_mul_left _ h1
  omega
 rw[hq,e2,A3 (show ¬ ((n:Int) < 0) by omega),A3 (show ¬ (((32 - n:Nat):Int) < 0) by omega)]
 simp only[cond_false,tn]
 rw[show Ae (32 - n) (Ac .i64)=32 - n from Aq (by simp only[Ac];omega),show Ae n (Ac .i64)=n from Aq (by simp only[Ac];omega),A5k (k:=.i64) hb,fI,
  Au5 (k:=.i64) (Nat.lt_trans (jM _ hx) (by decide)) hb,m32 (Nat.or_lt_two_pow (n:=63) (Nat.lt_trans (jM _ hx) (by decide)) hb),B1B (by omega) hx]
theorem R7 {x:Nat} (hx:x < 4294967296):yS R (x:Int) 7=some (((rr 7 x:Nat):Int),()):=AE3 x 7 hx (by decide) (by decide)
theorem T7 {x:Nat} (hx:x < 4294967296):wN R (x:Int) 7=some (((rr 7 x:Nat):Int),()):=dN x 7 hx (by decide) (by decide)
theorem R18 {x:Nat} (hx:x < 4294967296):yS R (x:Int) 18=some (((rr 18 x:Nat):Int),()):=AE3 x 18 hx (by decide) (by decide)
theorem T18 {x:Nat} (hx:x < 4294967296):wN R (x:Int) 18=some (((rr 18 x:Nat):Int),()):=dN x 18 hx (by decide) (by decide)
theorem R17 {x:Nat} (hx:x < 4294967296):yS R (x:Int) 17=some (((rr 17 x:Nat):Int),()):=AE3 x 17 hx (by decide) (by decide)
theorem T17 {x:Nat} (hx:x < 4294967296):wN R (x:Int) 17=some (((rr 17 x:Nat):Int),()):=dN x 17 hx (by decide) (by decide)
theorem R19 {x:Nat} (hx:x < 4294967296):yS R (x:Int) 19=some (((rr 19 x:Nat):Int),()):=AE3 x 19 hx (by decide) (by decide)
theorem T19 {x:Nat} (hx:x < 4294967296):wN R (x:Int) 19=some (((rr 19 x:Nat):Int),()):=dN x 19 hx (by decide) (by decide)
theorem R6 {x:Nat} (hx:x < 4294967296):yS R (x:Int) 6=some (((rr 6 x:Nat):Int),()):=AE3 x 6 hx (by decide) (by decide)
theorem T6 {x:Nat} (hx:x < 4294967296):wN R (x:Int) 6=some (((rr 6 x:Nat):Int),()):=dN x 6 hx (by decide) (by decide)
theorem R11 {x:Nat} (hx:x < 4294967296):yS R (x:Int) 11=some (((rr 11 x:Nat):Int),()):=AE3 x 11 hx (by decide) (by decide)
theorem T11 {x:Nat} (hx:x < 4294967296):wN R (x:Int) 11=some (((rr 11 x:Nat):Int),()):=dN x 11 hx (by decide) (by decide)
theorem R25 {x:Nat} (hx:x < 4294967296):yS R (x:Int) 25=some (((rr 25 x:Nat):Int),()):=AE3 x 25 hx (by decide) (by decide)
theorem T25 {x:Nat} (hx:x < 4294967296):wN R (x:Int) 25=some (((rr 25 x:Nat):Int),()):=dN x 25 hx (by decide) (by decide)
theorem R2 {x:Nat} (hx:x < 4294967296):yS R (x:Int) 2=some (((rr 2 x:Nat):Int),()):=AE3 x 2 hx (by decide) (by decide)
theorem T2 {x:Nat} (hx:x < 4294967296):wN R (x:Int) 2=some (((rr 2 x:Nat):Int),()):=dN x 2 hx (by decide) (by decide)
theorem R13 {x:Nat} (hx:x < 4294967296):yS R (x:Int) 13=some (((rr 13 x:Nat):Int),()):=AE3 x 13 hx (by decide) (by decide)
theorem T13 {x:Nat} (hx:x < 4294967296):wN R (x:Int) 13=some (((rr 13 x:Nat):Int),()):=dN x 13 hx (by decide) (by decide)
theorem R22 {x:Nat} (hx:x < 4294967296):yS R (x:Int) 22=some (((rr 22 x:Nat):Int),()):=AE3 x 22 hx (by decide) (by decide)
theorem T22 {x:Nat} (hx:x < 4294967296):wN R (x:Int) 22=some (((rr 22 x:Nat):Int),()):=dN x 22 hx (by decide) (by decide)
theorem A5p {k:IntKind} (hk:256≤qH k) (b:UInt8):Aa k ((b.toNat:Nat):Int)=((b.toNat:Nat):Int):=Ak0 (Ar (UInt8.toNat_lt _) hk)
theorem B1f {k:IntKind} (hk:4294967296≤qH k) {a b:Nat} (ha:a < 4294967296) (hb:b < 4294967296):wB .or k (a:Int) (b:Int)=((a ||| b:Nat):Int):=Au5 (Ar ha hk) (Ar hb hk)
theorem AO8 {k:IntKind} (hk:4294967296≤qH k) {a b:Nat} (ha:a < 4294967296) (hb:b < 4294967296):wB .xor k (a:Int) (b:Int)=((a ^^^ b:Nat):Int):=A3c (Ar ha hk) (Ar hb hk)
theorem BY9 {k:IntKind} (hk:4294967296≤qH k) {a b:Nat} (ha:a < 4294967296) (hb:b < 4294967296):wB .and k (a:Int) (b:Int)=((a &&& b:Nat):Int):=Ae8 (Ar ha hk) (Ar hb hk)
theorem Bu7 (k:IntKind) (hk:4294967296≤qH k) (h32:32≤k.bits) (t:List UInt8) (i:Nat):
  wB .or k (wB .or k (wB .or k (Aa k (Aa k (((t.getD i 0).toNat:Nat):Int) * ((2:Int) ^ Ae (Ao 24) k.bits)))
   (Aa k (Aa k (((t.getD (i+1) 0).toNat:Nat):Int) * ((2:Int) ^ Ae (Ao 16) k.bits))))
   (Aa k (Aa k (((t.getD (i+2) 0).toNat:Nat):Int) * ((2:Int) ^ Ae (Ao 8) k.bits))))
   (Aa k (((t.getD (i+3) 0).toNat:Nat):Int))=((wBE t i:Nat):Int):=by
 have h0:=oF t i;have h1:=oF t (i+1);have h2:=oF t (i+2);have h3:=oF t (i+3)
 have m24:Ae (Ao 24) k.bits=24:=Aq (by show 24≤_;omega)
 have m16:Ae (Ao 16) k.bits=16:=Aq (by show 16≤_;omega)
 have m8:Ae (Ao 8) k.bits=8:=Aq (by show 8≤_;omega)
 have hk8:256≤qH k:=Nat.le_trans (by decide) hk
 unfold bt at h0 h1 h2 h3
 rw[m24,m16,m8,A5p hk8,A5p hk8,A5p hk8,A5p hk8,A5k (by omega),A5k (by omega),A5k (by omega),B1f hk (by omega) (by omega),B1f hk (eF (by omega) (by omega)) (by omega),B1f hk (eF (eF (by omega) (by omega)) (by omega)) (by omega)]
 rfl
theorem A1h {i:Nat} (c:Nat) (h:i+c < 9223372036854775808):Aa .i64 ((i:Int)+(c:Int))=((i+c:Nat):Int):=A1z h
theorem B1v (t:List UInt8) (i:Nat) (h:i+3 < t.length) (hi:i < 1099511627776):AK1 R t (i:Int)=some (((wBE t i:Nat):Int),()):=by
 have hq:AK1 R t (i:Int)=_:=call (A7t R L t (i:Int))
 have e1:Aa .i64 ((i:Int)+1)=((i+1:Nat):Int):=A1h 1 (by omega)
 have e2:Aa .i64 ((i:Int)+2)=((i+2:Nat):Int):=A1h 2 (by omega)
 have e3:Aa .i64 ((i:Int)+3)=((i+3:Nat):Int):=A1h 3 (by omega)
 rw[hq,e1,e2,e3]
 simp only[nn,tn,zO (show i < t.length by omega),zO (show i+1 < t.length by omega),zO (show i+2 < t.length by omega),zO h,A4]
 rw[Bu7 .i64 (by decide) (by decide)]
end Go.Rf.S

end
section
namespace Go.Rf.S
set_option maxRecDepth 100000
theorem g0C (k:IntKind) (hk:4294967296≤qH k) (h32:32≤k.bits) {x:Nat} (h:x < 4294967296):
  wB .xor k (wB .xor k ((rr 7 x:Nat):Int) ((rr 18 x:Nat):Int)) (Aj (x:Int) ((2:Int) ^ Ae (Ao 3) k.bits))=((g0 x:Nat):Int):=by
 rw[show Ae (Ao 3) k.bits=3 from Aq (by show 3≤_;omega),fI,AO8 hk (eB h) (eB h),AO8 hk (wD (eB h) (eB h)) (jM _ h)]
 rfl
theorem g1C (k:IntKind) (hk:4294967296≤qH k) (h32:32≤k.bits) {x:Nat} (h:x < 4294967296):
  wB .xor k (wB .xor k ((rr 17 x:Nat):Int) ((rr 19 x:Nat):Int)) (Aj (x:Int) ((2:Int) ^ Ae (Ao 10) k.bits))=((g1 x:Nat):Int):=by
 rw[show Ae (Ao 10) k.bits=10 from Aq (by show 10≤_;omega),fI,AO8 hk (eB h) (eB h),AO8 hk (wD (eB h) (eB h)) (jM _ h)]
 rfl
theorem S1C (k:IntKind) (hk:4294967296≤qH k) {x:Nat} (h:x < 4294967296):
  wB .xor k (wB .xor k ((rr 6 x:Nat):Int) ((rr 11 x:Nat):Int)) ((rr 25 x:Nat):Int)=((S1 x:Nat):Int):=by
 rw[AO8 hk (eB h) (eB h),AO8 hk (wD (eB h) (eB h)) (eB h)]
 rfl
theorem S0C (k:IntKind) (hk:4294967296≤qH k) {x:Nat} (h:x < 4294967296):
  wB .xor k (wB .xor k ((rr 2 x:Nat):Int) ((rr 13 x:Nat):Int)) ((rr 22 x:Nat):Int)=((S0 x:Nat):Int):=by
 rw[AO8 hk (eB h) (eB h),AO8 hk (wD (eB h) (eB h)) (eB h)]
 rfl
theorem chC (k:IntKind) (hk:4294967296≤qH k) {e f g:Nat} (he:e < 4294967296) (hf:f < 4294967296) (hg:g < 4294967296):
  wB .xor k (wB .and k (e:Int) (f:Int)) (wB .and k (wB .xor k 4294967295 (e:Int)) (g:Int))=((ch e f g:Nat):Int):=by
 rw[show (4294967295:Int)=((4294967295:Nat):Int) from rfl,BY9 hk he hf,AO8 hk (by decide) he,BY9 hk (wD (by decide) he) hg,AO8 hk (iY he) (iY (wD (by decide) he))]
 rfl
theorem mjC (k:IntKind) (hk:4294967296≤qH k) {e f g:Nat} (he:e < 4294967296) (hf:f < 4294967296) (hg:g < 4294967296):
  wB .xor k (wB .xor k (wB .and k (e:Int) (f:Int)) (wB .and k (e:Int) (g:Int))) (wB .and k (f:Int) (g:Int))=((mj e f g:Nat):Int):=by
 rw[BY9 hk he hf,BY9 hk he hg,BY9 hk hf hg,AO8 hk (iY he) (iY he),AO8 hk (wD (iY he) (iY he)) (iY hf)]
 rfl
def Wd (n:Nat) (w:List Nat):Prop:=w.length=n∧Bd 4294967296 w
theorem Wd.g {n:Nat} {w:List Nat} (h:Wd n w) (i:Nat):w.getD i 0 < 4294967296:=h.2.get (by decide) i
theorem Wd.s {n:Nat} {w:List Nat} (h:Wd n w) {i a:Nat} (ha:a < 4294967296):Wd n (w.set i a):=⟨by rw[List.length_set];exact h.1,h.2.set ha⟩
theorem Wd.rep (n:Nat):Wd n (Ad n 0):=⟨List.length_replicate,Bd.rep (by decide)⟩
theorem B2q {t:List UInt8} {i:Nat} {w:List Nat} (h:Wd 64 w):Wd 64 (stA t i w):=h.s (B2u _ _)
theorem B17 {i:Nat} {w:List Nat} (h:Wd 64 w):Wd 64 (stB i w):=h.s (vY _)
theorem B2Z {k w v:List Nat} {i:Nat} (h:Wd 8 v):Wd 8 (stC k w i v):=⟨rfl,fun x hx=>by
 simp only[stC,List.mem_cons,List.not_mem_nil,or_false] at hx
 rcases hx with rfl|rfl|rfl|rfl|rfl|rfl|rfl|rfl
 ·exact vY _
 ·exact h.g 0
 ·exact h.g 1
 ·exact h.g 2
 ·exact vY _
 ·exact h.g 4
 ·exact h.g 5
 ·exact h.g 6⟩
theorem B0F {v:List Nat} {i:Nat} {w:List Nat} {n:Nat} (h:Wd n w):Wd n (stD v i w):=h.s (vY _)
def kT:List Nat:=[1116352408,1899447441,3049323471,3921009573,961987163,1508970993,2453635748,2870763221,3624381080,310598401,607225278,1426881987,1925078388,2162078206,2614888103,3248222580,3835390401,4022224774,264347078,604807628,770255983,1249150122,1555081692,1996064986,2554220882,2821834349,2952996808,3210313671,3336571891,3584528711,113926993,338241895,666307205,773529912,1294757372,1396182291,1695183700,1986661051,2177026350,2456956037,2730485921,2820302411,3259730800,3345764771,3516065817,3600352804,4094571909,275423344,430227734,506948616,659060556,883997877,958139571,1322822218,1537002063,1747873779,1955562222,2024104815,2227730452,2361852424,2428436474,2756734187,3204031479,3329325298]
def hT:List Nat:=[1779033703,3144134277,1013904242,2773480762,1359893119,2600822924,528734635,1541459225]
theorem B1t:Wd 8 hT:=⟨rfl,by intro x hx;revert x;decide⟩
theorem B4r:Wd 64 kT:=⟨rfl,by intro x hx;revert x;decide⟩
theorem B1X:AR5 R=some (cl kT,()):=call (A47 R L)
theorem A7A:AK3 R=some (cl kT,()):=call (A4l R L)
theorem B01:AS2 R=some (cl hT,()):=call (A6m R L)
theorem B11 (t:List UInt8) (ht:64≤t.length) (v2 v4:List Int):
  tY R L t v2 v4 (cl (Ad 64 0)) 0=wM R L v2 v4 (cl (vM (stA t) 16 0 (Ad 64 0))) 16∧Wd 64 (vM (stA t) 16 0 (Ad 64 0)):=
 yX (fun (w:List Nat) i=>tY R L t v2 v4 (cl w) i) (stA t) (fun _ w=>Wd 64 w) 16 (fun w=>wM R L v2 v4 (cl w) 16)
  (fun w hw=>by
   have hq:tY R L t v2 v4 (cl w) (16:Nat)=_:=round (by kernel_rfl) (Ad3 R L t v2 v4 (cl w) (16:Nat))
   show tY R L t v2 v4 (cl w) (16:Nat)=_
   rw[hq];rfl)
  (fun w i hi hw=>by
   have hq:tY R L t v2 v4 (cl w) (i:Nat)=_:=round (by kernel_rfl) (Ad3 R L t v2 v4 (cl w) (i:Nat))
   refine⟨?_,B2q hw⟩
   show tY R L t v2 v4 (cl w) (i:Nat)=_
   have e4:Aa .i64 ((4:Int) * (i:Int))=((4 * i:Nat):Int):=by rw[zI (by omega) (by omega)];omega
   rw[hq,show decide ((i:Int) < 16)=true from A1 (by omega),e4,B1v t (4 * i) (by omega) (by omega),zB (by omega)]
   simp only[nn,tn,A4,A2]
   rw[zO (show i < 64 by omega),rE]
   rfl)
  (Ad 64 0) (Wd.rep 64)
theorem B2X (v2 v4:List Int) (w0:List Nat) (h0:Wd 64 w0):
  wM R L v2 v4 (cl w0) 16=wV R L v2 v4 (cl (vM stB 48 0 w0)) (cl kT) v2 0∧Wd 64 (vM stB 48 0 w0):=by
 have h:wM R L v2 v4 (cl w0) (0+16)=wV R L v2 v4 (cl (vM stB 48 0 w0)) (cl kT) v2 0∧Wd 64 (vM stB 48 0 w0):=yX (fun (w:List Nat) i=>wM R L v2 v4 (cl w) (i+16)) stB (fun _ w=>Wd 64 w) 48 (fun w=>wV R L v2 v4 (cl w) (cl kT) v2 0)
  (fun w hw=>by
   have hq:wM R L v2 v4 (cl w) (64:Nat)=_:=round (by kernel_rfl) (Aa7 R L v2 v4 (cl w) (64:Nat))
   show wM R L v2 v4 (cl w) (64:Nat)=_
   rw[hq,show decide (((64:Nat):Int) < 64)=false from by decide,B1X];rfl)
  (fun w i hi hw=>by
   have hq:wM R L v2 v4 (cl w) ((i+16:Nat):Int)=_:=round (by kernel_rfl) (Aa7 R L v2 v4 (cl w) ((i+16:Nat):Int))
   refine⟨?_,B17 hw⟩
   show wM R L v2 v4 (cl w) ((i:Int)+16)=wM R L v2 v4 (cl (stB i w)) (((i+1:Nat):Int)+16)
   rw[show (i:Int)+16=((i+16:Nat):Int) by omega,show ((i+1:Nat):Int)+16=((i+16+1:Nat):Int) by omega]
   have e15:Aa .i64 (((i+16:Nat):Int) - 15)=((i+1:Nat):Int):=BS8 (c:=15) (by omega) (by omega)
   have e2:Aa .i64 (((i+16:Nat):Int) - 2)=((i+14:Nat):Int):=BS8 (c:=2) (by omega) (by omega)
   have e16:Aa .i64 (((i+16:Nat):Int) - 16)=((i:Nat):Int):=BS8 (c:=16) (by omega) (by omega)
   have e7:Aa .i64 (((i+16:Nat):Int) - 7)=((i+9:Nat):Int):=BS8 (c:=7) (by omega) (by omega)
   have a1:=hw.g (i+1);have a14:=hw.g (i+14);have a0:=hw.g i;have a9:=hw.g (i+9)
   have b1:=B3r a1;have b2:=B3p a14
   rw[hq,show decide (((i+16:Nat):Int) < 64)=true from A1 (by omega),e15,e2,e16,e7,zB (by omega)]
   simp only[nn,tn,A4,zO (show i+1 < 64 by omega),zO (show i+14 < 64 by omega),zO (show i < 64 by omega),zO (show i+9 < 64 by omega),zO (show i+16 < 64 by omega),yT]
   rw[R7 a1,R18 a1,R17 a14,R19 a14]
   simp only[A2]
   rw[g0C .i64 (by decide) (by decide) a1,g1C .i64 (by decide) (by decide) a14,A1z (by simp only[qH];omega),A1z (by simp only[qH];omega),A1z (by simp only[qH];omega),m32 (by omega),rE]
   rfl)
  w0 h0
 rw[Int.zero_add] at h
 exact h
theorem B2v (v2 v4:List Int) (w v0:List Nat) (hw:Wd 64 w) (h0:Wd 8 v0):
  wV R L v2 v4 (cl w) (cl kT) (cl v0) 0=vR R L v2 v4 (cl (vM (stC kT w) 64 0 v0)) 0∧Wd 8 (vM (stC kT w) 64 0 v0):=
 yX (fun (v:List Nat) i=>wV R L v2 v4 (cl w) (cl kT) (cl v) i) (stC kT w) (fun _ v=>Wd 8 v) 64 (fun v=>vR R L v2 v4 (cl v) 0)
  (fun v hv=>by
   have hq:wV R L v2 v4 (cl w) (cl kT) (cl v) (64:Nat)=_:=round (by kernel_rfl) (Ad4 R L v2 v4 (cl w) (cl kT) (cl v) (64:Nat))
   show wV R L v2 v4 (cl w) (cl kT) (cl v) (64:Nat)=_
   rw[hq];rfl)
  (fun v i hi hv=>by
   have hq:wV R L v2 v4 (cl w) (cl kT) (cl v) (i:Nat)=_:=round (by kernel_rfl) (Ad4 R L v2 v4 (cl w) (cl kT) (cl v) (i:Nat))
   refine⟨?_,B2Z hv⟩
   show wV R L v2 v4 (cl w) (cl kT) (cl v) (i:Nat)=_
   have a0:=hv.g 0;have a1:=hv.g 1;have a2:=hv.g 2;have a3:=hv.g 3;have a4:=hv.g 4;have a5:=hv.g 5;have a6:=hv.g 6;have a7:=hv.g 7
   have ak:=B4r.g i;have aw:=hw.g i
   have b1:=B3W a4;have b0:=B3n a0;have bc:=B39 (f:=v.getD 5 0) (g:=v.getD 6 0) a4;have bm:=B31 (c:=v.getD 2 0) a0 a1
   rw[hq,show decide ((i:Int) < 64)=true from A1 (by omega),zB (by omega)]
   simp only[nn,tn,A4,zO (show i < 64 by omega),yT,show Ao 0=0 from rfl,show Ao 1=1 from rfl,show Ao 2=2 from rfl,show Ao 3=3 from rfl,show Ao 4=4 from rfl,show Ao 5=5 from rfl,show Ao 6=6 from rfl,show Ao 7=7 from rfl]
   rw[R6 a4,R11 a4,R25 a4,R2 a0,R13 a0,R22 a0]
   simp only[A2]
   rw[S1C .i64 (by decide) a4,S0C .i64 (by decide) a0,chC .i64 (by decide) a4 a5 a6,mjC .i64 (by decide) a0 a1 a2]
   rw[A1z (a:=v.getD 7 0) (by simp only[qH];omega),A1z (b:=ch _ _ _) (by simp only[qH];omega),A1z (b:=kT.getD i 0) (by simp only[qH];omega),A1z (b:=w.getD i 0) (by simp only[qH];omega),A1z (b:=S0 _) (by simp only[qH];omega),A1z (b:=mj _ _ _) (by simp only[qH];omega),A1z (a:=v.getD 3 0) (by simp only[qH];omega),m32 (by omega),m32 (by omega)]
   rfl)
  v0 h0
theorem B2W (v4:List Int) (v h0:List Nat) (hv:Wd 8 v) (hh:Wd 8 h0):
  vR R L (cl h0) v4 (cl v) 0=some (cl (vM (stD v) 8 0 h0),())∧Wd 8 (vM (stD v) 8 0 h0):=
 yX (fun (h:List Nat) i=>vR R L (cl h) v4 (cl v) i) (stD v) (fun _ h=>Wd 8 h) 8 (fun h=>some (cl h,()))
  (fun h _=>by
   have hq:vR R L (cl h) v4 (cl v) (8:Nat)=_:=round (by kernel_rfl) (Ad1 R L (cl h) v4 (cl v) (8:Nat))
   show vR R L (cl h) v4 (cl v) (8:Nat)=_
   rw[hq];rfl)
  (fun h i hi hh=>by
   have hq:vR R L (cl h) v4 (cl v) (i:Nat)=_:=round (by kernel_rfl) (Ad1 R L (cl h) v4 (cl v) (i:Nat))
   refine⟨?_,B0F hh⟩
   show vR R L (cl h) v4 (cl v) (i:Nat)=_
   have a:=hh.g i;have b:=hv.g i
   rw[hq,show decide ((i:Int) < 8)=true from A1 (by omega),zB (by omega)]
   simp only[nn,tn,A4,zO (show i < 8 from hi),yT]
   rw[A1z (by simp only[qH];omega),m32 (by omega),rE]
   rfl)
  h0 hh
theorem A7B (h:List Nat) (t:List UInt8) (hh:Wd 8 h) (ht:64≤t.length):AC4 R (cl h) t=some (cl (BR4 kT h t),())∧Wd 8 (BR4 kT h t):=by
 have hq:AC4 R (cl h) t=_:=call (A43 R L (cl h) t)
 obtain⟨a1,a2⟩:=B11 t ht (cl h) (Ad 8 0)
 obtain⟨b1,b2⟩:=B2X (cl h) (Ad 8 0) _ a2
 obtain⟨c1,c2⟩:=B2v (cl h) (Ad 8 0) _ h b2 hh
 obtain⟨d1,d2⟩:=B2W (Ad 8 0) _ h c2 hh
 exact⟨hq.trans (a1.trans (b1.trans (c1.trans d1))),d2⟩
end Go.Rf.S

end
