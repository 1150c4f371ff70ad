/- What the program computes, in plain words: part 5. No condition. -/
import Derived.Test.YtcikhcfofnlegaaGreatProg
import Derived.KernelRfl
import Derived.Test.YtcikhcfofnlegaaGreatRlC
import Derived.Test.YtcikhcfofnlegaaGreatLas1
set_option linter.unusedVariables false
set_option linter.unusedSimpArgs false
section
open Go Go.Rf
set_option maxRecDepth 100000
namespace Go.Rf.S
def mvD (l:List (Nat × Nat)) (d:List (Nat × List Nat)):List (Nat × Nat):=l ++ d.flatMap fun x=>x.2.map fun s=>(4000000 + x.1,s)
abbrev t0:Ty:=(.pair .bool .unit)
abbrev t1:Ty:=(.sl (.int .i64))
abbrev t2:Ty:=(.pair (.int .i64) .unit)
abbrev t3:Ty:=(.pair t1 .unit)
abbrev t4:Ty:=(.pair (.int .i64) (.pair (.int .i64) (.pair (.int .i64) .unit)))
abbrev t5:Ty:=(.ptr (.int .i64))
abbrev t6:Ty:=(.pair (.sl t4) .unit)
abbrev t7:Ty:=(.sl (.sl t4))
abbrev t8:Ty:=(.pair t1 (.pair (.sl t4) (.pair t7 .unit)))
abbrev t9:Ty:=(.pair t1 (.pair (.int .i64) (.pair .bool .unit)))
abbrev t10:Ty:=(.pair .bool (.pair (.ptr t9) .unit))
abbrev t11:Ty:=(.pair t1 (.pair t8 .unit))
abbrev t12:Ty:=(.pair (.int .i64) (.pair t1 .unit))
abbrev t13:Ty:=(.pair t11 (.pair (.sl t12) (.pair .bool .unit)))
abbrev t14:Ty:=(.pair (.sl t4) (.pair .bool .unit))
abbrev t15:Ty:=(.pair (.int .i64) (.pair (.int .i64) (.pair (.int .i64) (.pair (.int .i64) (.pair .str (.pair .str (.pair .str .unit)))))))
abbrev t16:Ty:=(.pair (.int .i64) (.pair .str .unit))
abbrev t17:Ty:=(.pair (.sl .str) (.pair (.sl t16) .unit))
abbrev t18:Ty:=(.pair .str (.pair t15 (.pair t17 (.pair .bool (.pair .bool .unit)))))
abbrev t19:Ty:=(.pair t18 (.pair (.sl t12) (.pair (.int .i64) .unit)))
abbrev t20:Ty:=(.pair (.ptr t9) .unit)
abbrev t21:Ty:=(.pair (.int .i64) (.pair (.ptr t9) .unit))
abbrev t22:Ty:=(.pair t1 (.pair (.ptr t9) .unit))
abbrev t23:Ty:=(.pair (.sl t4) (.pair (.ptr t9) .unit))
abbrev t24:Ty:=(.pair t1 (.pair (.int .i64) .unit))
abbrev t25:Ty:=(.pair (.ptr t24) .unit)
abbrev t26:Ty:=(.pair (.int .i64) (.pair (.ptr t24) .unit))
abbrev t27:Ty:=(.pair .bool (.pair (.ptr t24) .unit))
abbrev t28:Ty:=(.sl (.int .u8))
abbrev t29:Ty:=(.pair t28 .unit)
abbrev t30:Ty:=(.arr 8 (.int .i64))
abbrev t31:Ty:=(.pair t30 .unit)
abbrev t32:Ty:=(.pair t30 (.pair .str (.pair (.int .i64) .unit)))
abbrev t33:Ty:=(.pair t32 .unit)
abbrev t34:Ty:=(.arr 64 (.int .i64))
abbrev t35:Ty:=(.pair t34 .unit)
abbrev t36:Ty:=(.pair .str .unit)
abbrev t37:Ty:=(.arr 64 (.int .u32))
abbrev t38:Ty:=(.pair t37 .unit)
abbrev t39:Ty:=(.pair (.int .u32) .unit)
abbrev t40:Ty:=(.pair (.ptr t32) .unit)
abbrev t41:Ty:=(.pair (.int .u32) (.pair (.int .u32) (.pair (.int .u32) (.pair (.int .u32) .unit))))
abbrev t42:Ty:=(.arr 4 (.int .i64))
abbrev t43:Ty:=(.pair t42 .unit)
abbrev t44:Ty:=(.arr 16 (.int .i64))
abbrev t45:Ty:=(.pair t44 .unit)
abbrev t46:Ty:=(.pair t15 .unit)
abbrev t47:Ty:=(.pair (.sl .str) .unit)
abbrev t48:Ty:=(.pair t16 .unit)
abbrev t49:Ty:=(.pair (.sl t16) .unit)
abbrev t50:Ty:=(.pair t17 .unit)
abbrev t51:Ty:=(.pair t18 .unit)
abbrev t52:Ty:=(.arr 5 (.int .i64))
abbrev t53:Ty:=(.pair t52 .unit)
abbrev t54:Ty:=(.arr 5 (.int .u64))
abbrev t55:Ty:=(.pair t54 .unit)
abbrev t56:Ty:=(.pair (.int .i64) (.pair (.sl .str) .unit))
abbrev t57:Ty:=(.pair (.int .i64) (.pair (.sl t16) .unit))
abbrev t58:Ty:=(.pair (.int .i64) (.pair t17 .unit))
abbrev t59:Ty:=(.pair (.int .i64) (.pair t18 .unit))
abbrev t60:Ty:=(.pair t8 .unit)
abbrev t61:Ty:=(.sl (.sl .str))
abbrev t62:Ty:=(.pair t61 .unit)
abbrev t63:Ty:=(.pair (.int .i64) (.pair (.sl t12) .unit))
abbrev t64:Ty:=(.pair .str (.pair .bool .unit))
abbrev t65:Ty:=(.pair t1 (.pair .bool .unit))
abbrev d66:Type:=(Bool × Unit)
abbrev d67:Type:=(Int × Unit)
abbrev d68:Type:=(List Int × Unit)
abbrev d69:Type:=(Int × (Int × (Int × Unit)))
abbrev d70:Type:=(List d69 × Unit)
abbrev d71:Type:=(List Int × (List d69 × (List (List d69) × Unit)))
abbrev d72:Type:=(List Int × (Int × (Bool × Unit)))
abbrev d73:Type:=(Bool × (d72 × Unit))
abbrev d74:Type:=(List Int × (d71 × Unit))
abbrev d75:Type:=(Int × (List Int × Unit))
abbrev d76:Type:=(d74 × (List d75 × (Bool × Unit)))
abbrev d77:Type:=(List d69 × (Bool × Unit))
abbrev d78:Type:=(Int × (Int × (Int × (Int × (List UInt8 × (List UInt8 × (List UInt8 × Unit)))))))
abbrev d79:Type:=(Int × (List UInt8 × Unit))
abbrev d80:Type:=(List (List UInt8) × (List d79 × Unit))
abbrev d81:Type:=(List UInt8 × (d78 × (d80 × (Bool × (Bool × Unit)))))
abbrev d82:Type:=(d81 × (List d75 × (Int × Unit)))
abbrev d83:Type:=(d72 × Unit)
abbrev d84:Type:=(Int × (d72 × Unit))
abbrev d85:Type:=(List Int × (d72 × Unit))
abbrev d86:Type:=(List d69 × (d72 × Unit))
abbrev d87:Type:=(List Int × (Int × Unit))
abbrev d88:Type:=(d87 × Unit)
abbrev d89:Type:=(Int × (d87 × Unit))
abbrev d90:Type:=(Bool × (d87 × Unit))
abbrev d91:Type:=(List Int × (List UInt8 × (Int × Unit)))
abbrev d92:Type:=(d91 × Unit)
abbrev d93:Type:=(List UInt8 × Unit)
abbrev d94:Type:=(Int × (Int × (Int × (Int × Unit))))
abbrev d95:Type:=(d78 × Unit)
abbrev d96:Type:=(List (List UInt8) × Unit)
abbrev d97:Type:=(d79 × Unit)
abbrev d98:Type:=(List d79 × Unit)
abbrev d99:Type:=(d80 × Unit)
abbrev Bi8:Type:=(d81 × Unit)
abbrev Bt9:Type:=(Int × (List (List UInt8) × Unit))
abbrev Bw0:Type:=(Int × (List d79 × Unit))
abbrev Bx6:Type:=(Int × (d80 × Unit))
abbrev Bw7:Type:=(Int × (d81 × Unit))
abbrev Bx4:Type:=(d71 × Unit)
abbrev Bp6:Type:=(List (List (List UInt8)) × Unit)
abbrev Bv1:Type:=(Int × (List d75 × Unit))
abbrev Bp3:Type:=(List UInt8 × (Bool × Unit))
abbrev Bv6:Type:=(List Int × (Bool × Unit))
abbrev By3:Ty:=(.arr 12 .bool)
abbrev Bs5:Ty:=(.arr 8 (.int .u32))
abbrev Bx7:Ty:=(.arr 2 (.int .i64))
abbrev By5:Ty:=(.arr 2 Bx7)
abbrev BH9:Ty:=(.arr 16 (.int .u32))
noncomputable def Bp7:List (Nat × FCfg):=[
(149,⟨[.ro (.int .i64),.ro (.int .i64),.ro (.int .i64)],1,t0,.sh,[0,1,2,6],[(1,8)]⟩),
(228,⟨[.ro (.int .i64)],1,t0,.sh,[0,2],[(1,2)]⟩),
(268,⟨[.ro (.int .i64),.ro (.ptr .fn)],1,t0,.sh,[0,1,3],[(1,4)]⟩),
(315,⟨[.ro t1,.ro .fn],1,t2,.sh,[0,1,4,5,7,8,9,16],[(7,0),(5,1)]⟩),
(267,⟨[.ro t1,.ro .fn],1,t0,.sh,[0,1,4],[(1,4)]⟩),
(204,⟨[.ro t1,.ro .fn],1,t0,.sh,[0,1,3,4],[(1,4)]⟩),
(205,⟨[.ro (.int .i64)],1,t0,.sh,[0,2],[(1,2)]⟩),
(366,⟨[.io t1 (.own .sh) (.own .sh) 0 []],0,t3,(.pr (.own .sh) .sh),[],[]⟩),
(336,⟨[.ro (.int .i64)],1,t3,(.pr (.own .sh) .sh),[0,2,3,4,15],mvD [(7,1),(4,4)] [(30,[0,2,15])]⟩),
(365,⟨[.ro t1,.ro (.int .i64)],1,t2,.sh,[0,1,4,5,7,8,9,16],mvD [(7,0),(5,1)] [(25,[4,5,9,16])]⟩),
(335,⟨[.ro t1,.ro (.int .i64)],1,t0,.sh,[0,1,4],[(1,4)]⟩),
(293,⟨[.ro (.int .i64),.ro (.int .i64)],1,t0,.sh,[0,1,4],[(1,4)]⟩),
(292,⟨[.ro t4,.ro t5],1,t0,.sh,[0,1,2,3],[(1,9)]⟩),
(334,⟨[.ro t4,.ro (.ptr .fn)],1,t0,.sh,[0,1,2,3],[(1,4)]⟩),
(364,⟨[.ro (.sl t4),.ro .fn],1,t2,.sh,[0,1,4,5,7,8,9,16],mvD [(7,0),(5,1)] [(25,[4,5,9,16])]⟩),
(333,⟨[.ro (.sl t4),.ro .fn],1,t0,.sh,[0,1,4],[(1,4)]⟩),
(291,⟨[.ro (.sl t4),.ro .fn],1,t0,.sh,[0,1,3,4],[(1,4)]⟩),
(302,⟨[.ro (.sl t4)],1,t6,(.pr (.own .sh) .sh),[900000,0,2,4],[(3,3),(2,0),(3,0)]⟩),
(303,⟨[.ro t7],1,t6,(.pr (.own .sh) .sh),[],[]⟩),
(244,⟨[.ro t8],1,t6,(.pr (.own .sh) .sh),[0,1,2],[(1,7)]⟩),
(337,⟨[.ro (.int .i64)],1,t0,.sh,[0,2],[(1,2)]⟩),
(235,⟨[.ro (.int .i64)],1,t0,.sh,[0,2],[(1,2)]⟩),
(294,⟨[.ro t4],1,t0,.sh,[0,1,2],[(1,13)]⟩),
(229,⟨[.ro t8],1,t0,.sh,[0,1,2,3,4,5,7,23,25,26,27,28,40,43,44,45,46,68],mvD [(2,0),(7,0),(17,0),(14,0)] [(35,[0,2,3,4,5,7,23,28,40,43,44,45,46,68]),(87,[0,2,3,4,7,23,25,26,27,28,40,46,68])]⟩),
(290,⟨[.ro (.int .i64)],1,t0,.sh,[0,2],[(1,2)]⟩),
(227,⟨[.io (.ptr t9) (.own (.pr (.own .sh) .sh)) (.own .sh) 0 []],1,t10,(.pr .sh (.pr (.own .sh) .sh)),[0,2],[(1,17),(1,0),(1,6),(1,10)]⟩),
(160,⟨[.ro .str],3,t13,(.pr (.pr (.own .sh) (.pr (.pr (.own .sh) (.pr (.own .sh) (.pr (.own (.own .sh)) .sh))) .sh)) (.pr (.own (.pr .sh (.pr (.own .sh) .sh))) .sh)),[0,2,3,4,5,6,7,8,9,23,24,25,50],mvD [(12,2),(12,3),(12,4),(11,1),(11,2),(11,3),(1,2),(2,5),(2,7),(3,3),(3,5),(7,2),(8,6),(8,7),(8,8),(8,9),(2,0),(2,2),(3,0),(8,2),(8,3),(11,0)] [(34,[0,3,4,6,9,25,50])]⟩),
(161,⟨[.ro .str],2,t14,(.pr (.own .sh) .sh),[0,2,3,4,5],[(3,3),(3,4),(1,2),(2,2)]⟩),
(83,⟨[.ro t18],3,t13,(.pr (.pr (.own .sh) (.pr (.pr (.own .sh) (.pr (.own .sh) (.pr (.own (.own .sh)) .sh))) .sh)) (.pr (.own (.pr .sh (.pr (.own .sh) .sh))) .sh)),[0,1,2,3,4,5,6,7,8,9,10,11,12,13,14,15,16,24,54,59,60,61,91],mvD [(3,1),(3,2),(3,3),(8,1),(8,2),(8,3),(18,4),(18,5),(18,6),(15,1),(15,2),(15,3),(1,2),(5,13),(5,14),(6,7),(6,8),(6,9),(12,18),(12,19),(13,5),(13,6),(16,6),(3,0),(8,0),(15,0)] [(116,[0,3,4,7,8,11,12,13,14,15,16,24,54,61,91])]⟩),
(36,⟨[.ro t18],3,t19,(.pr (.pr .sh (.pr .sh (.pr (.pr (.own .sh) (.pr (.own .sh) .sh)) .sh))) (.pr (.own (.pr .sh (.pr (.own .sh) .sh))) .sh)),[0,1,2,3,4,5,7,8,11,16,27],[(2,1),(2,2),(2,3),(5,3),(5,4),(5,5),(9,3),(9,4),(9,5),(8,2),(8,3),(8,4),(3,2),(6,7),(6,8),(6,9),(2,0)]⟩),
(8,⟨[.ro t18],1,t0,.sh,[0,1,2,3,4,5,6,7,8,9,10,11,12,13,14,15,16,21,51,56,78,89,94,97,119,124,129,132],[(4,0),(9,0),(11,0),(15,0),(22,0),(25,0),(27,0),(30,0),(34,0),(37,0),(40,0),(39,0)]⟩),
(217,⟨[.ro .str],3,t13,(.pr (.pr (.own .sh) (.pr (.pr (.own .sh) (.pr (.own .sh) (.pr (.own (.own .sh)) .sh))) .sh)) (.pr (.own (.pr .sh (.pr (.own .sh) .sh))) .sh)),[0,2,3,4,5,6,7,8,9,10,11,12,13,14,21,36,57,71,81],mvD [(27,2),(27,3),(28,12),(28,13),(28,14),(1,2),(2,2),(2,4),(6,5),(6,9),(7,2),(10,2),(10,4),(11,3),(12,3),(13,8),(17,4),(17,7),(18,1),(19,2),(22,3),(22,5),(23,2),(26,4),(26,7),(27,4),(6,3),(17,2),(26,2),(28,2)] [(18,[0,3,4,8,9,10,11,12,13,14,21,36,57,71,81]),(69,[0,3,4,7,9,10,11,12,13,14,21,36,57,71,81]),(51,[0,3,4,7,8,9,11,12,13,14,21,36,57,71,81]),(196,[0,3,4,7,8,9,10,13,14,21,36,57,71,81]),(78,[0,3,4,7,8,9,10,21,36,57,71,81])]⟩),
(153,⟨[.ro t18],3,t13,(.pr (.pr (.own .sh) (.pr (.pr (.own .sh) (.pr (.own .sh) (.pr (.own (.own .sh)) .sh))) .sh)) (.pr (.own (.pr .sh (.pr (.own .sh) .sh))) .sh)),[0,1,2,3,4,5,6,7,8,9,10,11,12,13,14,15,16,19,39,69,73,107],mvD [(7,2),(7,3),(7,4),(11,2),(11,3),(11,4),(20,4),(20,5),(20,6),(18,2),(18,3),(18,4),(1,1),(5,10),(5,12),(8,16),(8,17),(9,7),(9,8),(9,9),(15,21),(15,22),(16,5),(16,6),(19,6),(7,0),(7,1),(11,0),(11,1),(18,0),(18,1)] [(15,[0,3,4,7,8,9,10,11,12,13,14,15,16,19,39,69,73,107]),(119,[0,3,4,6,7,8,11,13,14,15,16,19,39,69,73,107])]⟩),
(223,⟨[.ro .str,.ro (.int .i64)],1,t20,(.pr (.own (.pr (.own .sh) .sh)) .sh),[0,1,4,9],[(3,4),(2,2),(3,2),(3,3),(2,0),(2,1)]⟩),
(226,⟨[.io (.ptr t9) (.own (.pr (.own .sh) .sh)) (.own (.pr (.own .sh) .sh)) 0 [],.ro (.int .i64),.ro (.int .i64)],1,t21,(.pr .sh (.pr (.own (.pr (.own .sh) .sh)) .sh)),[0,1,2,6,38],[(3,0),(5,11),(1,0),(1,5),(1,9),(1,17),(1,21),(5,0),(5,4)]⟩),
(224,⟨[.io (.ptr t9) (.own (.pr (.own .sh) .sh)) (.own (.pr (.own .sh) .sh)) 0 [],.ro (.int .i64),.ro (.int .i64),.ro (.int .i64)],1,t22,(.pr (.own .sh) (.pr (.own (.pr (.own .sh) .sh)) .sh)),[0,1,2,3,8,9,10,11,12],mvD [(6,1),(4,5),(4,7)] [(15,[1,8,12])]⟩),
(225,⟨[.io (.ptr t9) (.own (.pr (.own .sh) .sh)) (.own (.pr (.own .sh) .sh)) 0 [],.ro (.int .i64)],1,t23,(.pr (.own .sh) (.pr (.own (.pr (.own .sh) .sh)) .sh)),[0,1,4,5,8,9,10],mvD [(6,1),(4,7),(4,8),(4,10)] [(15,[1,4,10])]⟩),
(277,⟨[.ro .str,.ro (.int .i64)],1,t25,(.pr (.own (.pr (.own .sh) .sh)) .sh),[0,1,4,5,6,19],[(4,3),(3,2),(1,5),(1,6),(4,1),(4,2),(3,0),(3,1)]⟩),
(279,⟨[.io (.ptr t24) (.own (.pr (.own .sh) .sh)) (.own (.pr (.own .sh) .sh)) 0 []],1,t26,(.pr .sh (.pr (.own (.pr (.own .sh) .sh)) .sh)),[0,2,12],[(2,0),(4,11)]⟩),
(280,⟨[.io (.ptr t24) (.own (.pr (.own .sh) .sh)) (.own (.pr (.own .sh) .sh)) 0 [],.ro (.int .i64)],1,t26,(.pr .sh (.pr (.own (.pr (.own .sh) .sh)) .sh)),[0,1,4,5,11],[(5,1),(4,0),(1,2)]⟩),
(281,⟨[.io (.ptr t24) (.own (.pr (.own .sh) .sh)) (.own (.pr (.own .sh) .sh)) 0 []],1,t27,(.pr .sh (.pr (.own (.pr (.own .sh) .sh)) .sh)),[0,2,3,14,24],mvD [(6,10),(5,0)] [(18,[2,14,24])]⟩),
(218,⟨[.ro .str],2,t14,(.pr (.own .sh) .sh),[0,2,3,4,5,6,7,14],mvD [(10,7),(10,8),(1,2),(2,1),(3,2),(6,2),(6,4),(7,3),(8,3),(9,4)] [(45,[0,2,3,7,14])]⟩),
(86,⟨[.ro t18],3,t19,(.pr .sh (.pr (.own (.pr .sh (.pr (.own .sh) .sh))) .sh)),[0,1,2,3,4,5,7,8,12,23],[(3,3),(3,4),(3,5),(7,2),(7,3),(7,4),(6,3),(6,4),(6,5),(1,2),(4,7),(4,8),(4,9),(3,1),(6,2)]⟩),
(35,⟨[.ro t18],3,t19,(.pr (.pr .sh (.pr .sh (.pr (.pr (.own .sh) (.pr (.own .sh) .sh)) .sh))) (.pr (.own (.pr .sh (.pr (.own .sh) .sh))) .sh)),[0,1,2,3,4,5,6,7,10],[(2,2),(2,3),(2,4),(4,4),(4,5),(4,6),(3,7),(3,8),(3,9),(2,0),(2,1)]⟩),
(263,⟨[.mv t28 (.own .sh),.ro (.int .i64)],1,t29,(.pr (.own .sh) .sh),[0,1,4],[(1,14)]⟩),
(305,⟨[],1,t31,.sh,[0],[(1,1)]⟩),
(250,⟨[],1,t33,.sh,[0],[(1,2)]⟩),
(341,⟨[.ro .str,.ro (.int .i64)],1,t2,.sh,[0,1,4],[(1,25)]⟩),
(342,⟨[.ro (.int .i64),.ro (.int .i64)],1,t2,.sh,[0,1,4],[(1,9)]⟩),
(343,⟨[],1,t35,.sh,[0],[(1,1)]⟩),
(304,⟨[.ro t30,.ro .str],1,t31,.sh,[0,1,2,4,5,6,7,8,9,10,11,12,13,14,15,16,17,18,21,31,87,180],mvD [(27,1)] [(15,[0,7,8,9,10,11,12,13,14,15,16,17,18,21,31,87,180]),(50,[0,1,6,8,9,10,11,12,13,14,15,16,17,18,21,31,87,180]),(156,[0,1,6,7,8,9,13,14,15,16,17,18,21,31,87,180]),(78,[0,1,5,6,7,8,9,10,12,13,14,15,16,17,21,31,87,180])]⟩),
(249,⟨[.ro t32,.ro .str],1,t33,.sh,[0,1,2,4,19],mvD [(6,1)] [(15,[0,1,19])]⟩),
(248,⟨[.ro t32],1,t36,.sh,[0,1,2,3,4,5,6,7,8,19,24,41,45],mvD [(18,2)] [(9,[0,2,5,6,7,8,19,24,41,45]),(24,[0,2,6,7,8,19,24,41,45]),(93,[0,2,3,4,5,8,19,24,41,45]),(51,[0,2,3,4,5,19,24,41,45])]⟩),
(181,⟨[.ro .str],1,t36,.sh,[0,2],[(1,4)]⟩),
(257,⟨[],1,t33,.sh,[0],[(1,2)]⟩),
(309,⟨[],1,t38,.sh,[0],[(1,1)]⟩),
(367,⟨[.ro (.int .u32),.ro (.int .i64)],1,t39,.sh,[0,1,4,5],[(2,8)]⟩),
(344,⟨[.ro (.int .u32),.ro (.int .i64)],1,t39,.sh,[0,1,4],[(1,4)]⟩),
(310,⟨[.io (.ptr t32) (.own .sh) (.own .sh) 0 [],.ro .str,.ro (.ptr t37)],0,t40,(.pr (.own .sh) .sh),[0,1,2,6,7,8,9,10,11,12,13,14,15,16,17,18,19,20,21,22,23,24,25,26,61,104,105,106,114,115,194,195,196],mvD [] [(18,[7,8,9,10,11,12,13,14,15,16,17,18,19,20,21,22,23,24,26,61,104,105,106,114,115,194,195,196]),(38,[1,7,9,10,11,12,13,14,15,16,17,18,19,20,21,22,23,24,25,26,61,104,105,106,114,115,194,195,196]),(62,[1,7,8,9,10,12,13,14,15,16,17,18,19,20,21,22,23,24,25,26,61,106,114,115,194,195,196]),(154,[1,7,8,9,10,12,13,14,15,16,17,18,19,20,21,22,23,24,25,26,61,104,105,106,115,194,195,196]),(114,[1,2,6,7,8,9,10,11,12,13,14,15,16,17,18,19,20,21,22,23,24,25,26,61,104,105,106,114,115,196])]⟩),
(258,⟨[.ro t32,.ro .str],1,t33,.sh,[0,1,2,4,5,19],mvD [(8,1)] [(18,[0,19])]⟩),
(311,⟨[.ro .str,.ro (.int .i64)],1,t36,.sh,[],[]⟩),
(259,⟨[.ro t32],1,t36,.sh,[0,1,2,3,4,5,6,8,20,35,36,37],mvD [(13,2)] [(18,[0,2,6,8,20,35,36,37]),(46,[0,1,2,3,4,5,8,20,37])]⟩),
(190,⟨[.ro .str],1,t36,.sh,[0,2],[(1,4)]⟩),
(139,⟨[.ro (.int .i64),.ro (.int .i64)],1,t36,.sh,[0,1,4,5,6,7,8,9],mvD [(7,2)] [(22,[1,4,6,9])]⟩),
(332,⟨[.ro .str],1,t39,.sh,[0,2],[(1,18)]⟩),
(354,⟨[.ro (.int .u32),.ro (.int .u32),.ro (.int .u32),.ro (.int .u32)],4,t41,.sh,[0,1,2,3,8,9,10,11,13,16,17,18],mvD [(9,4),(9,5),(9,6),(9,7)] [(42,[8,9,10,11,13,18])]⟩),
(322,⟨[.ro .str,.ro .str,.ro (.int .i64)],1,t36,.sh,[0,1,2,6,7,8,9,10,11,12,13,14,15,16,17,25,26,41,42,43,44,46,47,95,96],mvD [(28,1)] [(35,[0,1,2,6,10,11,12,13,14,15,16,17,26,41,42,43,44,46,47,95,96]),(198,[0,1,2,6,7,10,11,12,13,14,15,16,17,25,26,42,43,44,46,47,95,96]),(153,[0,1,2,6,7,10,11,12,13,14,15,16,17,25,26,42,44,46,47,95,96]),(90,[0,1,2,6,7,10,12,13,14,15,16,17,25,26,42,44,47,95,96]),(106,[0,1,2,6,7,10,11,12,13,14,15,17,25,26,41,42,43,44,46,47,96])]⟩),
(361,⟨[.ro .str,.ro (.int .i64)],1,t2,.sh,[0,1,4],[(1,25)]⟩),
(382,⟨[.ro (.int .i64),.ro (.int .i64)],1,t2,.sh,[0,1,4],[(1,9)]⟩),
(381,⟨[.ro (.int .i64),.ro (.int .i64),.ro (.int .i64),.ro (.int .i64)],1,t43,.sh,[0,1,2,3,8],[(9,5)]⟩),
(372,⟨[.ro t44,.ro (.int .i64),.ro (.int .i64),.ro (.int .i64),.ro (.int .i64)],1,t45,.sh,[0,1,2,3,4,5,10,11],[(6,1)]⟩),
(349,⟨[.ro .str,.ro .str,.ro (.int .i64)],1,t36,.sh,[0,1,2,6,7,8,9,10,11,12,13,14,15,16,19,28,41,53,57,70,90],mvD [(32,2)] [(15,[6,9,10,11,12,13,14,15,16,19,28,41,53,57,70,90]),(27,[6,8,10,11,12,13,14,15,16,19,28,41,53,57,70,90]),(42,[0,2,6,8,9,11,12,13,14,15,16,19,28,41,53,57,70,90]),(225,[0,1,2,6,8,9,10,13,14,15,16,19,28,41,53,57,70,90]),(66,[0,1,2,6,8,9,10,14,15,16,19,28,41,53,57,70,90]),(78,[0,1,2,6,8,9,10,13,15,16,19,28,41,53,57,70,90]),(93,[0,1,2,6,8,9,10,12,13,14,19,28,41,53,57,70,90])]⟩),
(321,⟨[.ro .str,.ro .str],1,t36,.sh,[0,1,4,5,6,10,11,12],mvD [(7,2)] [(22,[0,4,6,12])]⟩),
(313,⟨[.ro .str,.ro .str,.ro (.int .i64),.ro .str],1,t36,.sh,[0,1,2,3,8,9,10,11,16,21],mvD [(9,2)] [(35,[8,16,21])]⟩),
(60,⟨[.ro t15,.ro (.int .i64)],1,t2,.sh,[0,1,2,4,11,18,25],[(3,0),(6,0),(10,1),(9,0)]⟩),
(122,⟨[.ro (.sl .str),.ro (.int .i64)],1,t2,.sh,[0,1,4,5,11,15,26],[(3,0),(10,1),(9,0)]⟩),
(195,⟨[.ro t16,.ro (.int .i64)],1,t2,.sh,[0,1,2,4,11],[(4,1),(3,0)]⟩),
(123,⟨[.ro (.sl t16),.ro (.int .i64)],1,t2,.sh,[0,1,4,5,11,15,25],[(3,0),(10,1),(9,0)]⟩),
(61,⟨[.ro t17,.ro (.int .i64)],1,t2,.sh,[0,1,2,4,10,16],[(3,0),(7,1),(6,0)]⟩),
(20,⟨[.ro t18,.ro (.int .i64)],1,t2,.sh,[0,1,2,4,11,17,23],[(3,0),(6,0),(10,1),(9,0)]⟩),
(66,⟨[.ro t15],1,t46,.sh,[0,1,2,3],[(9,1)]⟩),
(132,⟨[.ro (.sl .str)],1,t47,(.pr (.own .sh) .sh),[0,2,3,4,11],[(1,2),(6,1)]⟩),
(202,⟨[.ro t16],1,t48,.sh,[0,1,2,3],[(4,1)]⟩),
(133,⟨[.ro (.sl t16)],1,t49,(.pr (.own .sh) .sh),[0,2,3,4,11],[(1,2),(6,1)]⟩),
(67,⟨[.ro t17],1,t50,(.pr (.pr (.own .sh) (.pr (.own .sh) .sh)) .sh),[0,1,2,3],[(4,1)]⟩),
(23,⟨[.ro t18],1,t51,(.pr (.pr .sh (.pr .sh (.pr (.pr (.own .sh) (.pr (.own .sh) .sh)) .sh))) .sh),[0,1,2,3],[(7,1)]⟩),
(102,⟨[.ro (.int .i64),.ro (.int .i64),.ro (.int .i64)],1,t0,.sh,[0,1,2,6],[(1,8)]⟩),
(44,⟨[.ro t1],1,t0,.sh,[0,2,3,7,15],mvD [(6,0),(5,0)] [(18,[2,7,15])]⟩),
(151,⟨[.ro t15],1,t0,.sh,[0,1,2],[(1,56)]⟩),
(214,⟨[.ro (.int .i64)],1,t0,.sh,[0,2],[(1,2)]⟩),
(152,⟨[.ro t17],1,t0,.sh,[0,1,2,3,4,14,19,28,33,53],[(2,0),(7,0),(13,0),(12,0)]⟩),
(80,⟨[.ro t18],1,t0,.sh,[0,1,2],[(1,30)]⟩),
(127,⟨[.ro t18],1,t2,.sh,[0,1,2,3,6],[(5,0),(2,0),(4,0)]⟩),
(312,⟨[.ro (.int .i64)],1,t36,.sh,[0,2,3,4,7],mvD [(6,2)] [(15,[2,7])]⟩),
(264,⟨[.ro (.int .i64),.ro (.int .i64),.ro (.int .i64)],1,t36,.sh,[0,1,2,6],[(1,12)]⟩),
(351,⟨[.ro .str],1,t36,.sh,[0,2,6],mvD [(3,1)] [(5,[2,6])]⟩),
(374,⟨[.ro .str],1,t36,.sh,[0,2,3,4,5,10,20],mvD [(10,2)] [(15,[0,2,5,10,20]),(27,[0,2,4,10,20])]⟩),
(373,⟨[.ro .str],1,t53,.sh,[0,2,3,4,5,6,9,36],mvD [(10,1)] [(49,[5,6,9,36])]⟩),
(377,⟨[.ro t52],1,t53,.sh,[0,1,2,3,4,6,10],mvD [(11,1)] [(63,[0,4,6,10]),(30,[0,6,10])]⟩),
(375,⟨[.ro t52,.ro t52],1,t53,.sh,[0,1,2,3,4,5,6,7,8,11,15,28],mvD [(12,2)] [(72,[0,1,7,8,11,15,28]),(57,[0,1,8,11,15,28])]⟩),
(376,⟨[.ro t52],1,t53,.sh,[0,1,2,3,4,11,32],mvD [(9,1),(11,1)] [(26,[0,11,32])]⟩),
(350,⟨[.ro .str,.ro .str],1,t36,.sh,[0,1,4,5,6,7,8,9,10,11,12,13,14,15,24,38,44,63,77],mvD [(28,2)] [(110,[4,8,9,10,11,12,13,14,15,24,38,44,63,77]),(17,[4,9,10,11,12,13,14,15,24,38,44,63,77]),(39,[4,8,11,12,13,14,15,24,38,44,63,77]),(216,[1,4,5,7,8,9,10,14,15,24,38,44,63,77])]⟩),
(314,⟨[.ro .str,.ro .str,.ro .str,.ro .str],1,t36,.sh,[0,1,2,3,8,9],[(2,15)]⟩),
(103,⟨[.ro t17],1,t50,(.pr (.pr (.own .sh) (.pr (.own .sh) .sh)) .sh),[0,1,2],[(1,9)]⟩),
(65,⟨[.ro t18],1,t51,(.pr (.pr .sh (.pr .sh (.pr (.pr (.own .sh) (.pr (.own .sh) .sh)) .sh))) .sh),[0,1,2],[(2,1)]⟩),
(220,⟨[.ro .str],1,t0,.sh,[0,2],[(1,3)]⟩),
(137,⟨[.ro t15],1,t2,.sh,[0,1,2],[(1,5)]⟩),
(156,⟨[.ro t15],1,t0,.sh,[0,1,2],[(1,51)]⟩),
(254,⟨[.ro .str,.ro (.ptr .fn)],1,t0,.sh,[0,1,3],[(1,4)]⟩),
(308,⟨[.ro (.sl .str),.ro .fn],1,t2,.sh,[0,1,4,5,7,8,9,16],[(7,0),(5,1)]⟩),
(253,⟨[.ro (.sl .str),.ro .fn],1,t0,.sh,[0,1,4],[(1,4)]⟩),
(185,⟨[.ro (.sl .str),.ro .fn],1,t0,.sh,[0,1,3,4],[(1,4)]⟩),
(285,⟨[.ro .str],1,t0,.sh,[0,2],[(1,3)]⟩),
(331,⟨[.ro t16,.ro (.ptr .fn)],1,t0,.sh,[0,1,2,3],[(1,4)]⟩),
(363,⟨[.ro (.sl t16),.ro .fn],1,t2,.sh,[0,1,4,5,7,8,9,16],[(7,0),(5,1)]⟩),
(330,⟨[.ro (.sl t16),.ro .fn],1,t0,.sh,[0,1,4],[(1,4)]⟩),
(286,⟨[.ro (.sl t16),.ro .fn],1,t0,.sh,[0,1,3,4],[(1,4)]⟩),
(288,⟨[.ro (.int .i64)],1,t0,.sh,[0,2],[(1,2)]⟩),
(287,⟨[.ro t16],1,t0,.sh,[0,1,2],[(1,8)]⟩),
(221,⟨[.ro t17],1,t0,.sh,[0,1,2],[(1,20)]⟩),
(157,⟨[.ro t17],1,t0,.sh,[0,1,2],[(1,8)]⟩),
(82,⟨[.ro t18],1,t0,.sh,[0,1,2],[(1,23)]⟩),
(87,⟨[.ro t18],1,t2,.sh,[0,1,2,3,6],[(5,0),(2,0),(4,0)]⟩),
(209,⟨[.ro (.int .i64),.ro (.int .i64),.ro (.int .i64)],1,t36,.sh,[0,1,2,6],[(1,10)]⟩),
(273,⟨[.ro .str,.ro .str,.ro (.int .i64),.ro .str],1,t36,.sh,[],[]⟩),
(325,⟨[.ro .str],1,t36,.sh,[0,2],[(1,8)]⟩),
(356,⟨[.ro .str],1,t36,.sh,[0,2,3,4,5,10,20],mvD [(10,2)] [(15,[0,2,5,10,20]),(27,[0,2,4,10,20])]⟩),
(355,⟨[.ro .str],1,t55,.sh,[0,2,3,4,5,6,7,9,10,11,12,16,17,27],mvD [(13,1)] [(85,[0,4,5,6,7,12,16,17,27]),(57,[0,6,7,12,17,27])]⟩),
(379,⟨[.ro t54],1,t55,.sh,[0,1,2,3,4,5,6,7,8],mvD [(13,1)] [(88,[0,3,4,6,7,8]),(51,[0,4,6,8])]⟩),
(357,⟨[.ro t54,.ro t54],1,t55,.sh,[0,1,2,3,4,5,6,7],mvD [(6,2)] [(18,[0,1,5,7])]⟩),
(358,⟨[.ro t54,.ro t54],1,t55,.sh,[0,1,2,3,4,5,6,7,8,9,10,11,12,15,16,17,23],mvD [(13,2)] [(85,[0,1,2,6,7,8,9,12,15,16,17,23]),(57,[0,1,2,8,9,12,17,23])]⟩),
(359,⟨[.ro t54],1,t55,.sh,[0,1,2,3,4,5,10,19,26,28,29],mvD [(8,1),(14,1)] [(35,[0,5,10,19,26,28,29]),(50,[0,4,5,10,19,26,29])]⟩),
(360,⟨[.ro t54,.ro .str],1,t36,.sh,[0,1,2,4,5,6,7,8,9,10,13,14,15,17,18],mvD [(17,2)] [(143,[0,4,7,8,9,10,15,17,18]),(55,[0,4,9,10,15,18])]⟩),
(324,⟨[.ro .str,.ro .str],1,t36,.sh,[0,1,4,5,6,7,14],mvD [(7,5)] [(18,[4,14])]⟩),
(274,⟨[.ro .str,.ro .str,.ro .str,.ro .str],1,t36,.sh,[0,1,2,3,8],[(1,18)]⟩),
(112,⟨[.ro (.sl .str)],1,t47,(.pr (.own .sh) .sh),[900000,0,2,4],[(3,3),(2,0)]⟩),
(113,⟨[.ro (.sl t16)],1,t49,(.pr (.own .sh) .sh),[900000,0,2,4],[(3,3),(2,0)]⟩),
(48,⟨[.ro t17],1,t50,(.pr (.pr (.own .sh) (.pr (.own .sh) .sh)) .sh),[0,1,2],[(1,7)]⟩),
(71,⟨[.ro t18],1,t51,(.pr (.pr .sh (.pr .sh (.pr (.pr (.own .sh) (.pr (.own .sh) .sh)) .sh))) .sh),[0,1,2],[(2,1)]⟩),
(73,⟨[.ro t15,.ro t15],1,t0,.sh,[0,1,2,3,4,9,14,19,24,29,34,39],[(2,0),(4,0),(6,0),(8,0),(10,0),(12,0),(15,0),(14,0)]⟩),
(114,⟨[.ro (.sl .str),.ro (.sl .str)],1,t0,.sh,[0,1,4,5,10,14,25],[(2,0),(8,0),(7,0)]⟩),
(192,⟨[.ro t16,.ro t16],1,t0,.sh,[0,1,2,3,4,9,14],[(2,0),(5,0),(4,0)]⟩),
(115,⟨[.ro (.sl t16),.ro (.sl t16)],1,t0,.sh,[0,1,4,5,10,14,26],[(2,0),(8,0),(7,0)]⟩),
(49,⟨[.ro t17,.ro t17],1,t0,.sh,[0,1,2,3,4,10,16],[(2,0),(5,0),(4,0)]⟩),
(26,⟨[.ro t18,.ro t18],1,t0,.sh,[0,1,2,3,4,9,15,21,26,31],[(2,0),(4,0),(6,0),(8,0),(11,0),(10,0)]⟩),
(14,⟨[.ro t1,.ro t1],1,t0,.sh,[0,1,4,5,10,14,25],[(2,0),(8,0),(7,0)]⟩),
(193,⟨[.ro (.int .i64)],1,t36,.sh,[0,2,3,5,7],[(2,0),(7,2)]⟩),
(117,⟨[.io (.sl .str) (.own .sh) (.own .sh) 0 [],.ro (.int .i64)],1,t56,(.pr .sh (.pr (.own .sh) .sh)),[0,1,4,5,9],[(6,1)]⟩),
(118,⟨[.io (.sl t16) (.own .sh) (.own .sh) 0 [],.ro (.int .i64)],1,t57,(.pr .sh (.pr (.own .sh) .sh)),[0,1,4,5,9],[(8,1)]⟩),
(52,⟨[.io t17 (.pr (.own .sh) (.pr (.own .sh) .sh)) (.pr (.own .sh) (.pr (.own .sh) .sh)) 2 [.der],.ro (.int .i64)],1,t58,(.pr .sh (.pr (.pr (.own .sh) (.pr (.own .sh) .sh)) .sh)),[0,1,2,4],[(3,1)]⟩),
(28,⟨[.io t18 (.pr .sh (.pr .sh (.pr (.pr (.own .sh) (.pr (.own .sh) .sh)) .sh))) (.pr .sh (.pr .sh (.pr (.pr (.own .sh) (.pr (.own .sh) .sh)) .sh))) 2 [.der],.ro (.int .i64)],1,t59,(.pr .sh (.pr (.pr .sh (.pr .sh (.pr (.pr (.own .sh) (.pr (.own .sh) .sh)) .sh))) .sh)),[0,1,2,4],[(2,1)]⟩),
(15,⟨[.io t1 (.own .sh) (.own .sh) 0 [],.ro (.int .i64)],1,t12,(.pr .sh (.pr (.own .sh) .sh)),[0,1,4,5,9],[(6,1)]⟩),
(119,⟨[.ro (.sl .str),.ro (.int .i64)],1,t2,.sh,[0,1,4,5,9,18],[(7,1),(5,0)]⟩),
(120,⟨[.ro (.sl t16),.ro (.int .i64)],1,t2,.sh,[0,1,4,5,9,18,28],[(10,1),(5,0),(8,0)]⟩),
(55,⟨[.ro t17,.ro (.int .i64)],1,t2,.sh,[0,1,2,4,10,16],[(3,0),(7,1),(6,0)]⟩),
(30,⟨[.ro t18,.ro (.int .i64)],1,t2,.sh,[0,1,2,4,10],[(4,1),(3,0)]⟩),
(278,⟨[.ro t1],1,t60,(.pr (.pr (.own .sh) (.pr (.own .sh) (.pr (.own (.own .sh)) .sh))) .sh),[0,2],[(1,6)]⟩),
(306,⟨[.ro (.int .i64),.ro .str],1,t36,.sh,[0,1,4],[(1,7)]⟩),
(251,⟨[.ro (.sl .str)],1,t47,(.pr (.own .sh) .sh),[0,2,3,4,9],mvD [(6,1)] [(15,[2,9])]⟩),
(307,⟨[.ro .str,.ro .str],1,t36,.sh,[0,1,4],[(1,5)]⟩),
(252,⟨[.ro (.sl .str)],1,t47,(.pr (.own .sh) .sh),[0,2,3,4,10],mvD [(6,1)] [(15,[2,10])]⟩),
(182,⟨[.ro (.sl .str)],1,t36,.sh,[0,2,3,8],mvD [(4,3)] [(7,[0,2,8])]⟩),
(260,⟨[.ro (.int .i64),.ro .str],1,t36,.sh,[0,1,4],[(1,7)]⟩),
(261,⟨[.ro .str,.ro .str],1,t36,.sh,[0,1,4],[(1,5)]⟩),
(191,⟨[.ro (.sl .str)],1,t62,(.pr (.own .sh) .sh),[0,2,3,4,5,6,7,8,9,10,11,12,27,31],mvD [(16,1)] [(22,[0,2,4,5,6,7,8,12,27,31]),(100,[0,2,4,5,7,8,9,10,11,12,27,31]),(39,[0,2,4,5,9,10,11,12,27,31])]⟩),
(111,⟨[.ro (.sl .str)],1,t36,.sh,[0,2],[(1,6)]⟩),
(88,⟨[.ro t12,.ro t12],1,t0,.sh,[0,1,2,3,4,9,15],[(2,0),(5,0),(4,0)]⟩),
(37,⟨[.ro (.sl t12),.ro (.sl t12)],1,t0,.sh,[0,1,4,5,10,14,26],[(2,0),(8,0),(7,0)]⟩),
(38,⟨[.io (.sl t12) (.own (.pr .sh (.pr (.own .sh) .sh))) (.own (.pr .sh (.pr (.own .sh) .sh))) 0 [],.ro (.int .i64)],1,t63,(.pr .sh (.pr (.own (.pr .sh (.pr (.own .sh) .sh))) .sh)),[0,1,4,5,9],[(7,1)]⟩),
(89,⟨[.ro t1,.ro (.int .i64)],1,t2,.sh,[0,1,4,5,9,17],[(7,1),(5,0)]⟩),
(39,⟨[.ro (.sl t12),.ro (.int .i64)],1,t2,.sh,[0,1,4,5,9,18,29],[(10,1),(5,0),(9,0)]⟩),
(215,⟨[.ro t17,.ro (.int .i64)],1,t36,.sh,[0,1,2,4,5,11,21],mvD [(6,5),(5,6)] [(18,[0,4,11,21])]⟩),
(326,⟨[.ro .str,.ro .str],1,t0,.sh,[0,1,4,5,6,14,24],mvD [(2,0),(8,9)] [(21,[4,14,24])]⟩),
(276,⟨[.ro .str,.ro .str,.ro .str,.ro .str],2,t64,.sh,[0,1,2,3,8,9,10,13,29],[(2,0),(2,1),(6,4),(6,5),(5,0),(5,1)]⟩),
(216,⟨[.ro .str,.ro (.int .i64),.ro (.int .i64),.ro (.int .i64),.ro .str],2,t64,.sh,[0,1,2,3,4,10,11,12],[(2,6),(2,7)]⟩),
(327,⟨[.ro .str],2,t65,(.pr (.own .sh) .sh),[0,2,3,4,5,11],mvD [(6,5),(6,6)] [(15,[2,3,11])]⟩),
(284,⟨[.ro t1,.ro (.int .i64)],1,t0,.sh,[0,1,4,5,9,17],mvD [(6,0),(5,0)] [(18,[4,9,17])]⟩),
(328,⟨[.ro t8,.ro t4,.ro t1],1,t0,.sh,[0,1,2,3,4,6],[(1,26)]⟩),
(362,⟨[.ro (.int .i64)],1,t3,(.pr (.own .sh) .sh),[0,2,3,4,16],mvD [(6,1)] [(22,[0,2,16])]⟩),
(329,⟨[.ro (.int .i64),.ro (.int .i64)],1,t0,.sh,[0,1,4,5,6,12,20],mvD [(7,0),(6,0)] [(22,[1,4,12,20])]⟩),
(283,⟨[.ro t8],1,t0,.sh,[0,1,2,3,4,5,6,7,29,35,46,57,66,74,96],mvD [(2,0),(8,0),(22,0),(14,0),(20,0)] [(40,[0,2,5,6,7,29,35,46,57,66,74,96]),(187,[0,2,4,6,7,29,35,46,57,66,74,96]),(117,[0,2,4,7,29,35,46,57,66,74,96])]⟩),
(219,⟨[.ro t11],1,t0,.sh,[0,1,2,3,13,18,47],mvD [(2,0),(8,0),(7,0)] [(26,[0,2,13,18,47])]⟩),
(231,⟨[.ro t12],1,t0,.sh,[0,1,2,3,24,29,38],[(2,0),(8,0),(7,0)]⟩),
(165,⟨[.ro (.sl t12)],1,t0,.sh,[0,2,3,7,15],[(6,3),(5,0)]⟩),
(282,⟨[.ro (.sl t4)],1,t0,.sh,[0,2,3,4,8,30],mvD [(7,3),(6,0)] [(25,[2,4,8,30])]⟩),
(155,⟨[.ro t18],1,t51,.sh,[0,1,2],[(3,1)]⟩),
(158,⟨[.ro t18],1,t47,.sh,[0,1,2],[(1,13)]⟩),
(222,⟨[.ro .str,.ro .str,.ro .str,.ro .str],2,t64,.sh,[0,1,2,3,8,9,10,11,14,31],[(2,0),(2,1),(6,4),(6,5),(5,0),(5,1)]⟩),
(159,⟨[.ro .str,.ro (.int .i64),.ro (.int .i64),.ro (.int .i64),.ro .str],2,t64,.sh,[0,1,2,3,4,10,11],[(1,9),(1,10)]⟩),
(289,⟨[.ro .str],1,t3,(.pr (.own .sh) .sh),[0,2,3,4,8],mvD [(6,1)] [(15,[2,8])]⟩),
(162,⟨[.ro t11],1,t0,.sh,[],[]⟩),
(299,⟨[.ro t12,.ro (.ptr .fn)],1,t0,.sh,[0,1,2,3],[(1,4)]⟩),
(338,⟨[.ro (.sl t12),.ro .fn],1,t2,.sh,[0,1,4,5,7,8,9,16],[(7,0),(5,1)]⟩),
(298,⟨[.ro (.sl t12),.ro .fn],1,t0,.sh,[0,1,4],[(1,4)]⟩),
(238,⟨[.ro (.sl t12),.ro .fn],1,t0,.sh,[0,1,3,4],[(1,4)]⟩),
(300,⟨[.ro (.int .i64)],1,t0,.sh,[0,2],[(1,2)]⟩),
(239,⟨[.ro t12],1,t0,.sh,[0,1,2],[(1,25)]⟩),
(172,⟨[.ro (.sl t12)],1,t0,.sh,[0,2],[(1,7)]⟩),
(85,⟨[.ro t18],1,t51,(.pr (.pr .sh (.pr .sh (.pr (.pr (.own .sh) (.pr (.own .sh) .sh)) .sh))) .sh),[0,1,2],[(3,1)]⟩)]
noncomputable def EE:Env:=⟨Go.Proofs.Tryz.prog,BE5 Bp7⟩
variable (R:Run EE) (L:jU)
noncomputable def sQ (x0 x1 x2:Int):Option d66:=R 149 [⟨(.int .i64),x0⟩,⟨(.int .i64),x1⟩,⟨(.int .i64),x2⟩]
noncomputable def An6 (x0:Int):Option d66:=R 228 [⟨(.int .i64),x0⟩]
noncomputable def hJ (x0:Int) (x1:FnVal):Option d66:=R 268 [⟨(.int .i64),x0⟩,⟨(.ptr .fn),x1⟩]
noncomputable def vQ (x0:List Int) (x1:FnVal):Option d67:=R 315 [⟨t1,x0⟩,⟨.fn,x1⟩]
noncomputable def wL (x0:List Int) (x1:FnVal):Option d66:=R 267 [⟨t1,x0⟩,⟨.fn,x1⟩]
noncomputable def uS (x0:List Int) (x1:FnVal):Option d66:=R 204 [⟨t1,x0⟩,⟨.fn,x1⟩]
noncomputable def kR (x0:Int):Option d66:=R 205 [⟨(.int .i64),x0⟩]
noncomputable def mP (x0:List Int):Option d68:=R 366 [⟨t1,x0⟩]
noncomputable def AM4 (x0:Int):Option d68:=R 336 [⟨(.int .i64),x0⟩]
noncomputable def tZ (x0:List Int) (x1:Int):Option d67:=R 365 [⟨t1,x0⟩,⟨(.int .i64),x1⟩]
noncomputable def rD (x0:List Int) (x1:Int):Option d66:=R 335 [⟨t1,x0⟩,⟨(.int .i64),x1⟩]
noncomputable def gW (x0 x1:Int):Option d66:=R 293 [⟨(.int .i64),x0⟩,⟨(.int .i64),x1⟩]
noncomputable def AT0 (x0:d69) (x1:Int):Option d66:=R 292 [⟨t4,x0⟩,⟨t5,x1⟩]
noncomputable def nZ (x0:d69) (x1:FnVal):Option d66:=R 334 [⟨t4,x0⟩,⟨(.ptr .fn),x1⟩]
noncomputable def xM (x0:List d69) (x1:FnVal):Option d67:=R 364 [⟨(.sl t4),x0⟩,⟨.fn,x1⟩]
noncomputable def yZ (x0:List d69) (x1:FnVal):Option d66:=R 333 [⟨(.sl t4),x0⟩,⟨.fn,x1⟩]
noncomputable def oN (x0:List d69) (x1:FnVal):Option d66:=R 291 [⟨(.sl t4),x0⟩,⟨.fn,x1⟩]
noncomputable def wI (x0:List d69):Option d70:=R 302 [⟨(.sl t4),x0⟩]
noncomputable def rZ (x0:List (List d69)):Option d70:=R 303 [⟨t7,x0⟩]
noncomputable def cV (x0:d71):Option d70:=R 244 [⟨t8,x0⟩]
noncomputable def Aj7 (x0:Int):Option d66:=R 337 [⟨(.int .i64),x0⟩]
noncomputable def dE (x0:Int):Option d66:=R 235 [⟨(.int .i64),x0⟩]
noncomputable def AA1 (x0:d69):Option d66:=R 294 [⟨t4,x0⟩]
noncomputable def Aa9 (x0:d71):Option d66:=R 229 [⟨t8,x0⟩]
noncomputable def mL (x0:Int):Option d66:=R 290 [⟨(.int .i64),x0⟩]
noncomputable def rS (x0:d72):Option d73:=R 227 [⟨(.ptr t9),x0⟩]
noncomputable def eB (x0:List UInt8):Option d76:=R 160 [⟨.str,x0⟩]
noncomputable def gN (x0:List UInt8):Option d77:=R 161 [⟨.str,x0⟩]
noncomputable def jY (x0:d81):Option d76:=R 83 [⟨t18,x0⟩]
noncomputable def mA (x0:d81):Option d82:=R 36 [⟨t18,x0⟩]
noncomputable def nC (x0:d81):Option d66:=R 8 [⟨t18,x0⟩]
noncomputable def gF (x0:List UInt8):Option d76:=R 217 [⟨.str,x0⟩]
noncomputable def aY (x0:d81):Option d76:=R 153 [⟨t18,x0⟩]
noncomputable def mI (x0:List UInt8) (x1:Int):Option d83:=R 223 [⟨.str,x0⟩,⟨(.int .i64),x1⟩]
noncomputable def yP (x0:d72) (x1 x2:Int):Option d84:=R 226 [⟨(.ptr t9),x0⟩,⟨(.int .i64),x1⟩,⟨(.int .i64),x2⟩]
noncomputable def xL (x0:d72) (x1 x2 x3:Int):Option d85:=R 224 [⟨(.ptr t9),x0⟩,⟨(.int .i64),x1⟩,⟨(.int .i64),x2⟩,⟨(.int .i64),x3⟩]
noncomputable def wO (x0:d72) (x1:Int):Option d86:=R 225 [⟨(.ptr t9),x0⟩,⟨(.int .i64),x1⟩]
noncomputable def kG (x0:List UInt8) (x1:Int):Option d88:=R 277 [⟨.str,x0⟩,⟨(.int .i64),x1⟩]
noncomputable def zO (x0:d87):Option d89:=R 279 [⟨(.ptr t24),x0⟩]
noncomputable def yR (x0:d87) (x1:Int):Option d89:=R 280 [⟨(.ptr t24),x0⟩,⟨(.int .i64),x1⟩]
noncomputable def tI (x0:d87):Option d90:=R 281 [⟨(.ptr t24),x0⟩]
noncomputable def iC (x0:List UInt8):Option d77:=R 218 [⟨.str,x0⟩]
noncomputable def gI (x0:d81):Option d82:=R 86 [⟨t18,x0⟩]
noncomputable def jR (x0:d81):Option d82:=R 35 [⟨t18,x0⟩]
noncomputable def cW (x0:List Int) (x1:Int):Option d68:=R 263 [⟨t28,x0⟩,⟨(.int .i64),x1⟩]
noncomputable def AI5:Option d68:=R 305 []
noncomputable def AD1:Option d92:=R 250 []
noncomputable def AB5 (x0:List UInt8) (x1:Int):Option d67:=R 341 [⟨.str,x0⟩,⟨(.int .i64),x1⟩]
noncomputable def yJ (x0 x1:Int):Option d67:=R 342 [⟨(.int .i64),x0⟩,⟨(.int .i64),x1⟩]
noncomputable def AJ0:Option d68:=R 343 []
noncomputable def cY (x0:List Int) (x1:List UInt8):Option d68:=R 304 [⟨t30,x0⟩,⟨.str,x1⟩]
noncomputable def kK (x0:d91) (x1:List UInt8):Option d92:=R 249 [⟨t32,x0⟩,⟨.str,x1⟩]
noncomputable def AL3 (x0:d91):Option d93:=R 248 [⟨t32,x0⟩]
noncomputable def AF9 (x0:List UInt8):Option d93:=R 181 [⟨.str,x0⟩]
noncomputable def AT5:Option d92:=R 257 []
noncomputable def AC1:Option d68:=R 309 []
noncomputable def yX (x0 x1:Int):Option d67:=R 367 [⟨(.int .u32),x0⟩,⟨(.int .i64),x1⟩]
noncomputable def xQ (x0 x1:Int):Option d67:=R 344 [⟨(.int .u32),x0⟩,⟨(.int .i64),x1⟩]
noncomputable def nJ (x0:d91) (x1:List UInt8) (x2:List Int):Option d92:=R 310 [⟨(.ptr t32),x0⟩,⟨.str,x1⟩,⟨(.ptr t37),x2⟩]
noncomputable def oQ (x0:d91) (x1:List UInt8):Option d92:=R 258 [⟨t32,x0⟩,⟨.str,x1⟩]
noncomputable def oW (x0:List UInt8) (x1:Int):Option d93:=R 311 [⟨.str,x0⟩,⟨(.int .i64),x1⟩]
noncomputable def bB (x0:d91):Option d93:=R 259 [⟨t32,x0⟩]
noncomputable def aO (x0:List UInt8):Option d93:=R 190 [⟨.str,x0⟩]
noncomputable def vJ (x0 x1:Int):Option d93:=R 139 [⟨(.int .i64),x0⟩,⟨(.int .i64),x1⟩]
noncomputable def lQ (x0:List UInt8):Option d67:=R 332 [⟨.str,x0⟩]
noncomputable def aX (x0 x1 x2 x3:Int):Option d94:=R 354 [⟨(.int .u32),x0⟩,⟨(.int .u32),x1⟩,⟨(.int .u32),x2⟩,⟨(.int .u32),x3⟩]
noncomputable def bS (x0 x1:List UInt8) (x2:Int):Option d93:=R 322 [⟨.str,x0⟩,⟨.str,x1⟩,⟨(.int .i64),x2⟩]
noncomputable def nU (x0:List UInt8) (x1:Int):Option d67:=R 361 [⟨.str,x0⟩,⟨(.int .i64),x1⟩]
noncomputable def rQ (x0 x1:Int):Option d67:=R 382 [⟨(.int .i64),x0⟩,⟨(.int .i64),x1⟩]
noncomputable def gA (x0 x1 x2 x3:Int):Option d68:=R 381 [⟨(.int .i64),x0⟩,⟨(.int .i64),x1⟩,⟨(.int .i64),x2⟩,⟨(.int .i64),x3⟩]
noncomputable def gZ (x0:List Int) (x1 x2 x3 x4:Int):Option d68:=R 372 [⟨t44,x0⟩,⟨(.int .i64),x1⟩,⟨(.int .i64),x2⟩,⟨(.int .i64),x3⟩,⟨(.int .i64),x4⟩]
noncomputable def oC (x0 x1:List UInt8) (x2:Int):Option d93:=R 349 [⟨.str,x0⟩,⟨.str,x1⟩,⟨(.int .i64),x2⟩]
noncomputable def A5E (x0 x1:List UInt8):Option d93:=R 321 [⟨.str,x0⟩,⟨.str,x1⟩]
noncomputable def aA (x0 x1:List UInt8) (x2:Int) (x3:List UInt8):Option d93:=R 313 [⟨.str,x0⟩,⟨.str,x1⟩,⟨(.int .i64),x2⟩,⟨.str,x3⟩]
noncomputable def gL (x0:d78) (x1:Int):Option d67:=R 60 [⟨t15,x0⟩,⟨(.int .i64),x1⟩]
noncomputable def eG (x0:List (List UInt8)) (x1:Int):Option d67:=R 122 [⟨(.sl .str),x0⟩,⟨(.int .i64),x1⟩]
noncomputable def Al4 (x0:d79) (x1:Int):Option d67:=R 195 [⟨t16,x0⟩,⟨(.int .i64),x1⟩]
noncomputable def AX7 (x0:List d79) (x1:Int):Option d67:=R 123 [⟨(.sl t16),x0⟩,⟨(.int .i64),x1⟩]
noncomputable def cX (x0:d80) (x1:Int):Option d67:=R 61 [⟨t17,x0⟩,⟨(.int .i64),x1⟩]
noncomputable def AB7 (x0:d81) (x1:Int):Option d67:=R 20 [⟨t18,x0⟩,⟨(.int .i64),x1⟩]
noncomputable def gJ (x0:d78):Option d95:=R 66 [⟨t15,x0⟩]
noncomputable def fW (x0:List (List UInt8)):Option d96:=R 132 [⟨(.sl .str),x0⟩]
noncomputable def Ak1 (x0:d79):Option d97:=R 202 [⟨t16,x0⟩]
noncomputable def AW7 (x0:List d79):Option d98:=R 133 [⟨(.sl t16),x0⟩]
noncomputable def bA (x0:d80):Option d99:=R 67 [⟨t17,x0⟩]
noncomputable def kM (x0:d81):Option Bi8:=R 23 [⟨t18,x0⟩]
noncomputable def tL (x0 x1 x2:Int):Option d66:=R 102 [⟨(.int .i64),x0⟩,⟨(.int .i64),x1⟩,⟨(.int .i64),x2⟩]
noncomputable def fZ (x0:List Int):Option d66:=R 44 [⟨t1,x0⟩]
noncomputable def gB (x0:d78):Option d66:=R 151 [⟨t15,x0⟩]
noncomputable def AW8 (x0:Int):Option d66:=R 214 [⟨(.int .i64),x0⟩]
noncomputable def cJ (x0:d80):Option d66:=R 152 [⟨t17,x0⟩]
noncomputable def aS (x0:d81):Option d66:=R 80 [⟨t18,x0⟩]
noncomputable def AK0 (x0:d81):Option d67:=R 127 [⟨t18,x0⟩]
noncomputable def kV (x0:Int):Option d93:=R 312 [⟨(.int .i64),x0⟩]
noncomputable def cU (x0 x1 x2:Int):Option d93:=R 264 [⟨(.int .i64),x0⟩,⟨(.int .i64),x1⟩,⟨(.int .i64),x2⟩]
noncomputable def aD (x0:List UInt8):Option d93:=R 351 [⟨.str,x0⟩]
noncomputable def cK (x0:List UInt8):Option d93:=R 374 [⟨.str,x0⟩]
noncomputable def kU (x0:List UInt8):Option d68:=R 373 [⟨.str,x0⟩]
noncomputable def mQ (x0:List Int):Option d68:=R 377 [⟨t52,x0⟩]
noncomputable def kO (x0 x1:List Int):Option d68:=R 375 [⟨t52,x0⟩,⟨t52,x1⟩]
noncomputable def AA8 (x0:List Int):Option d68:=R 376 [⟨t52,x0⟩]
noncomputable def eJ (x0 x1:List UInt8):Option d93:=R 350 [⟨.str,x0⟩,⟨.str,x1⟩]
noncomputable def AM1 (x0 x1 x2 x3:List UInt8):Option d93:=R 314 [⟨.str,x0⟩,⟨.str,x1⟩,⟨.str,x2⟩,⟨.str,x3⟩]
noncomputable def AJ9 (x0:d80):Option d99:=R 103 [⟨t17,x0⟩]
noncomputable def AM8 (x0:d81):Option Bi8:=R 65 [⟨t18,x0⟩]
noncomputable def kS (x0:List UInt8):Option d66:=R 220 [⟨.str,x0⟩]
noncomputable def lK (x0:d78):Option d67:=R 137 [⟨t15,x0⟩]
noncomputable def hU (x0:d78):Option d66:=R 156 [⟨t15,x0⟩]
noncomputable def lM (x0:List UInt8) (x1:FnVal):Option d66:=R 254 [⟨.str,x0⟩,⟨(.ptr .fn),x1⟩]
noncomputable def xX (x0:List (List UInt8)) (x1:FnVal):Option d67:=R 308 [⟨(.sl .str),x0⟩,⟨.fn,x1⟩]
noncomputable def xK (x0:List (List UInt8)) (x1:FnVal):Option d66:=R 253 [⟨(.sl .str),x0⟩,⟨.fn,x1⟩]
noncomputable def nN (x0:List (List UInt8)) (x1:FnVal):Option d66:=R 185 [⟨(.sl .str),x0⟩,⟨.fn,x1⟩]
noncomputable def jV (x0:List UInt8):Option d66:=R 285 [⟨.str,x0⟩]
noncomputable def jE (x0:d79) (x1:FnVal):Option d66:=R 331 [⟨t16,x0⟩,⟨(.ptr .fn),x1⟩]
noncomputable def wV (x0:List d79) (x1:FnVal):Option d67:=R 363 [⟨(.sl t16),x0⟩,⟨.fn,x1⟩]
noncomputable def wD (x0:List d79) (x1:FnVal):Option d66:=R 330 [⟨(.sl t16),x0⟩,⟨.fn,x1⟩]
noncomputable def kD (x0:List d79) (x1:FnVal):Option d66:=R 286 [⟨(.sl t16),x0⟩,⟨.fn,x1⟩]
noncomputable def cZ (x0:Int):Option d66:=R 288 [⟨(.int .i64),x0⟩]
noncomputable def gH (x0:d79):Option d66:=R 287 [⟨t16,x0⟩]
noncomputable def cA (x0:d80):Option d66:=R 221 [⟨t17,x0⟩]
noncomputable def AL9 (x0:d80):Option d66:=R 157 [⟨t17,x0⟩]
noncomputable def AB2 (x0:d81):Option d66:=R 82 [⟨t18,x0⟩]
noncomputable def lZ (x0:d81):Option d67:=R 87 [⟨t18,x0⟩]
noncomputable def AA9 (x0 x1 x2:Int):Option d93:=R 209 [⟨(.int .i64),x0⟩,⟨(.int .i64),x1⟩,⟨(.int .i64),x2⟩]
noncomputable def Ad9 (x0 x1:List UInt8) (x2:Int) (x3:List UInt8):Option d93:=R 273 [⟨.str,x0⟩,⟨.str,x1⟩,⟨(.int .i64),x2⟩,⟨.str,x3⟩]
noncomputable def aH (x0:List UInt8):Option d93:=R 325 [⟨.str,x0⟩]
noncomputable def AD2 (x0:List UInt8):Option d93:=R 356 [⟨.str,x0⟩]
noncomputable def iK (x0:List UInt8):Option d68:=R 355 [⟨.str,x0⟩]
noncomputable def wG (x0:List Int):Option d68:=R 379 [⟨t54,x0⟩]
noncomputable def gP (x0 x1:List Int):Option d68:=R 357 [⟨t54,x0⟩,⟨t54,x1⟩]
noncomputable def jH (x0 x1:List Int):Option d68:=R 358 [⟨t54,x0⟩,⟨t54,x1⟩]
noncomputable def mU (x0:List Int):Option d68:=R 359 [⟨t54,x0⟩]
noncomputable def jJ (x0:List Int) (x1:List UInt8):Option d93:=R 360 [⟨t54,x0⟩,⟨.str,x1⟩]
noncomputable def Aq0 (x0 x1:List UInt8):Option d93:=R 324 [⟨.str,x0⟩,⟨.str,x1⟩]
noncomputable def AM2 (x0 x1 x2 x3:List UInt8):Option d93:=R 274 [⟨.str,x0⟩,⟨.str,x1⟩,⟨.str,x2⟩,⟨.str,x3⟩]
noncomputable def wW (x0:List (List UInt8)):Option d96:=R 112 [⟨(.sl .str),x0⟩]
noncomputable def uM (x0:List d79):Option d98:=R 113 [⟨(.sl t16),x0⟩]
noncomputable def gK (x0:d80):Option d99:=R 48 [⟨t17,x0⟩]
noncomputable def mV (x0:d81):Option Bi8:=R 71 [⟨t18,x0⟩]
noncomputable def gE (x0 x1:d78):Option d66:=R 73 [⟨t15,x0⟩,⟨t15,x1⟩]
noncomputable def eH (x0 x1:List (List UInt8)):Option d66:=R 114 [⟨(.sl .str),x0⟩,⟨(.sl .str),x1⟩]
noncomputable def Ak9 (x0 x1:d79):Option d66:=R 192 [⟨t16,x0⟩,⟨t16,x1⟩]
noncomputable def AZ0 (x0 x1:List d79):Option d66:=R 115 [⟨(.sl t16),x0⟩,⟨(.sl t16),x1⟩]
noncomputable def cF (x0 x1:d80):Option d66:=R 49 [⟨t17,x0⟩,⟨t17,x1⟩]
noncomputable def kF (x0 x1:d81):Option d66:=R 26 [⟨t18,x0⟩,⟨t18,x1⟩]
noncomputable def AK3 (x0 x1:List Int):Option d66:=R 14 [⟨t1,x0⟩,⟨t1,x1⟩]
noncomputable def qO (x0:Int):Option d93:=R 193 [⟨(.int .i64),x0⟩]
noncomputable def jS (x0:List (List UInt8)) (x1:Int):Option Bt9:=R 117 [⟨(.sl .str),x0⟩,⟨(.int .i64),x1⟩]
noncomputable def AC5 (x0:List d79) (x1:Int):Option Bw0:=R 118 [⟨(.sl t16),x0⟩,⟨(.int .i64),x1⟩]
noncomputable def gD (x0:d80) (x1:Int):Option Bx6:=R 52 [⟨t17,x0⟩,⟨(.int .i64),x1⟩]
noncomputable def qH (x0:d81) (x1:Int):Option Bw7:=R 28 [⟨t18,x0⟩,⟨(.int .i64),x1⟩]
noncomputable def cH (x0:List Int) (x1:Int):Option d75:=R 15 [⟨t1,x0⟩,⟨(.int .i64),x1⟩]
noncomputable def jW (x0:List (List UInt8)) (x1:Int):Option d67:=R 119 [⟨(.sl .str),x0⟩,⟨(.int .i64),x1⟩]
noncomputable def AB6 (x0:List d79) (x1:Int):Option d67:=R 120 [⟨(.sl t16),x0⟩,⟨(.int .i64),x1⟩]
noncomputable def hP (x0:d80) (x1:Int):Option d67:=R 55 [⟨t17,x0⟩,⟨(.int .i64),x1⟩]
noncomputable def oJ (x0:d81) (x1:Int):Option d67:=R 30 [⟨t18,x0⟩,⟨(.int .i64),x1⟩]
noncomputable def AL0 (x0:List Int):Option Bx4:=R 278 [⟨t1,x0⟩]
noncomputable def AA2 (x0:Int) (x1:List UInt8):Option d93:=R 306 [⟨(.int .i64),x0⟩,⟨.str,x1⟩]
noncomputable def fT (x0:List (List UInt8)):Option d96:=R 251 [⟨(.sl .str),x0⟩]
noncomputable def aQ (x0 x1:List UInt8):Option d93:=R 307 [⟨.str,x0⟩,⟨.str,x1⟩]
noncomputable def cN (x0:List (List UInt8)):Option d96:=R 252 [⟨(.sl .str),x0⟩]
noncomputable def AB4 (x0:List (List UInt8)):Option d93:=R 182 [⟨(.sl .str),x0⟩]
noncomputable def gQ (x0:Int) (x1:List UInt8):Option d93:=R 260 [⟨(.int .i64),x0⟩,⟨.str,x1⟩]
noncomputable def Al1 (x0 x1:List UInt8):Option d93:=R 261 [⟨.str,x0⟩,⟨.str,x1⟩]
noncomputable def Ak0 (x0:List (List UInt8)):Option Bp6:=R 191 [⟨(.sl .str),x0⟩]
noncomputable def Ak7 (x0:List (List UInt8)):Option d93:=R 111 [⟨(.sl .str),x0⟩]
noncomputable def cI (x0 x1:d75):Option d66:=R 88 [⟨t12,x0⟩,⟨t12,x1⟩]
noncomputable def lI (x0 x1:List d75):Option d66:=R 37 [⟨(.sl t12),x0⟩,⟨(.sl t12),x1⟩]
noncomputable def mM (x0:List d75) (x1:Int):Option Bv1:=R 38 [⟨(.sl t12),x0⟩,⟨(.int .i64),x1⟩]
noncomputable def cT (x0:List Int) (x1:Int):Option d67:=R 89 [⟨t1,x0⟩,⟨(.int .i64),x1⟩]
noncomputable def pL (x0:List d75) (x1:Int):Option d67:=R 39 [⟨(.sl t12),x0⟩,⟨(.int .i64),x1⟩]
noncomputable def AA3 (x0:d80) (x1:Int):Option d93:=R 215 [⟨t17,x0⟩,⟨(.int .i64),x1⟩]
noncomputable def dZ (x0 x1:List UInt8):Option d66:=R 326 [⟨.str,x0⟩,⟨.str,x1⟩]
noncomputable def iV (x0 x1 x2 x3:List UInt8):Option Bp3:=R 276 [⟨.str,x0⟩,⟨.str,x1⟩,⟨.str,x2⟩,⟨.str,x3⟩]
noncomputable def kJ (x0:List UInt8) (x1 x2 x3:Int) (x4:List UInt8):Option Bp3:=R 216 [⟨.str,x0⟩,⟨(.int .i64),x1⟩,⟨(.int .i64),x2⟩,⟨(.int .i64),x3⟩,⟨.str,x4⟩]
noncomputable def eA (x0:List UInt8):Option Bv6:=R 327 [⟨.str,x0⟩]
noncomputable def AI1 (x0:List Int) (x1:Int):Option d66:=R 284 [⟨t1,x0⟩,⟨(.int .i64),x1⟩]
noncomputable def fA (x0:d71) (x1:d69) (x2:List Int):Option d66:=R 328 [⟨t8,x0⟩,⟨t4,x1⟩,⟨t1,x2⟩]
noncomputable def aT (x0:Int):Option d68:=R 362 [⟨(.int .i64),x0⟩]
noncomputable def AX2 (x0 x1:Int):Option d66:=R 329 [⟨(.int .i64),x0⟩,⟨(.int .i64),x1⟩]
noncomputable def AM5 (x0:d71):Option d66:=R 283 [⟨t8,x0⟩]
noncomputable def AI0 (x0:d74):Option d66:=R 219 [⟨t11,x0⟩]
noncomputable def jN (x0:d75):Option d66:=R 231 [⟨t12,x0⟩]
noncomputable def gG (x0:List d75):Option d66:=R 165 [⟨(.sl t12),x0⟩]
noncomputable def fU (x0:List d69):Option d66:=R 282 [⟨(.sl t4),x0⟩]
noncomputable def AR9 (x0:d81):Option Bi8:=R 155 [⟨t18,x0⟩]
noncomputable def lE (x0:d81):Option d96:=R 158 [⟨t18,x0⟩]
noncomputable def AM6 (x0 x1 x2 x3:List UInt8):Option Bp3:=R 222 [⟨.str,x0⟩,⟨.str,x1⟩,⟨.str,x2⟩,⟨.str,x3⟩]
noncomputable def hM (x0:List UInt8) (x1 x2 x3:Int) (x4:List UInt8):Option Bp3:=R 159 [⟨.str,x0⟩,⟨(.int .i64),x1⟩,⟨(.int .i64),x2⟩,⟨(.int .i64),x3⟩,⟨.str,x4⟩]
noncomputable def cM (x0:List UInt8):Option d68:=R 289 [⟨.str,x0⟩]
noncomputable def At1 (x0:d74):Option d66:=R 162 [⟨t11,x0⟩]
noncomputable def nD (x0:d75) (x1:FnVal):Option d66:=R 299 [⟨t12,x0⟩,⟨(.ptr .fn),x1⟩]
noncomputable def xF (x0:List d75) (x1:FnVal):Option d67:=R 338 [⟨(.sl t12),x0⟩,⟨.fn,x1⟩]
noncomputable def yU (x0:List d75) (x1:FnVal):Option d66:=R 298 [⟨(.sl t12),x0⟩,⟨.fn,x1⟩]
noncomputable def qZ (x0:List d75) (x1:FnVal):Option d66:=R 238 [⟨(.sl t12),x0⟩,⟨.fn,x1⟩]
noncomputable def AL7 (x0:Int):Option d66:=R 300 [⟨(.int .i64),x0⟩]
noncomputable def cS (x0:d75):Option d66:=R 239 [⟨t12,x0⟩]
noncomputable def gO (x0:List d75):Option d66:=R 172 [⟨(.sl t12),x0⟩]
noncomputable def kC (x0:d81):Option Bi8:=R 85 [⟨t18,x0⟩]
noncomputable def tG (v0:List Int) (v1:FnVal) (v4 v7 v8:Int) (p:List Nat:=[1,0,1,0]):Option d67:=zT EE R L 315 Go.Proofs.Tryz.f315 p (mk 19 [(0,.dat ⟨t1,v0,.sh⟩),(1,.dat ⟨.fn,v1,.sh⟩),(4,.dat ⟨(.int .i64),v4,.sh⟩),(7,.dat ⟨(.int .i64),v7,.sh⟩),(8,.dat ⟨(.int .i64),v8,.sh⟩)])
noncomputable def zN (v0:List Int) (v1:FnVal) (v4 v5 v7 v8:Int) (p:List Nat:=[1,0,1,0]):Option d67:=zT EE R L 315 Go.Proofs.Tryz.f315 p (mk 19 [(0,.dat ⟨t1,v0,.sh⟩),(1,.dat ⟨.fn,v1,.sh⟩),(4,.dat ⟨(.int .i64),v4,.sh⟩),(5,.dat ⟨(.int .i64),v5,.sh⟩),(7,.dat ⟨(.int .i64),v7,.sh⟩),(8,.dat ⟨(.int .i64),v8,.sh⟩)])
noncomputable def jC (v3:List Int) (v4:Int) (p:List Nat:=[1,1,1,0]):Option d68:=zT EE R L 336 Go.Proofs.Tryz.f336 p (mk 19 [(3,.dat ⟨t1,v3,(.own .sh)⟩),(4,.dat ⟨(.int .i64),v4,.sh⟩)])
noncomputable def xI (v0:List Int) (v1 v7 v8:Int) (p:List Nat:=[1,0,1,0]):Option d67:=zT EE R L 365 Go.Proofs.Tryz.f365 p (mk 19 [(0,.dat ⟨t1,v0,.sh⟩),(1,.dat ⟨(.int .i64),v1,.sh⟩),(7,.dat ⟨(.int .i64),v7,.sh⟩),(8,.dat ⟨(.int .i64),v8,.sh⟩)])
noncomputable def zH (v0:List d69) (v1:FnVal) (v7 v8:Int) (p:List Nat:=[1,0,1,0]):Option d67:=zT EE R L 364 Go.Proofs.Tryz.f364 p (mk 19 [(0,.dat ⟨(.sl t4),v0,.sh⟩),(1,.dat ⟨.fn,v1,.sh⟩),(7,.dat ⟨(.int .i64),v7,.sh⟩),(8,.dat ⟨(.int .i64),v8,.sh⟩)])
noncomputable def oH (v1:d71) (v25:List (List d69)) (v26 v27:Int) (p:List Nat:=[1,1,0,1,0]):Option d66:=zT EE R L 229 Go.Proofs.Tryz.f229 p (mk 73 [(1,.dat ⟨(.ptr t8),v1,(.own .sh)⟩),(25,.dat ⟨t7,v25,.sh⟩),(26,.dat ⟨(.int .i64),v26,.sh⟩),(27,.dat ⟨(.int .i64),v27,.sh⟩)])
noncomputable def lG (v1:d71) (v5:List Bool) (v43:List d69) (v44 v45:Int) (p:List Nat:=[1,1,1,1,0,1,0]):Option d66:=zT EE R L 229 Go.Proofs.Tryz.f229 p (mk 73 [(1,.dat ⟨(.ptr t8),v1,(.own .sh)⟩),(5,.dat ⟨(.ptr By3),v5,(.own .sh)⟩),(43,.dat ⟨(.sl t4),v43,(.own .sh)⟩),(44,.dat ⟨(.int .i64),v44,.sh⟩),(45,.dat ⟨(.int .i64),v45,.sh⟩)])
noncomputable def qD (v2:d74) (v5:d72) (v7:d74) (v8:List d75) (v23 v24:Int) (p:List Nat:=[1,1,1,1,1,0,1,0]):Option d76:=zT EE R L 160 Go.Proofs.Tryz.f160 p (mk 54 [(2,.dat ⟨(.ptr t11),v2,(.own (.pr (.own .sh) (.pr (.pr (.own .sh) (.pr (.own .sh) (.pr (.own .sh) .sh))) .sh)))⟩),(5,.dat ⟨(.ptr t9),v5,(.own (.pr (.own .sh) .sh))⟩),(7,.dat ⟨(.ptr t11),v7,(.own (.pr (.own .sh) (.pr (.pr (.own .sh) (.pr (.own .sh) (.pr (.own (.own .sh)) .sh))) .sh)))⟩),(8,.dat ⟨(.sl t12),v8,(.own (.pr .sh (.pr (.own .sh) .sh)))⟩),(23,.dat ⟨(.int .i64),v23,.sh⟩),(24,.dat ⟨(.int .i64),v24,.sh⟩)])
noncomputable def sM (v1:d81) (v2:d74) (v5:List (List UInt8)) (v6:Int) (v9:d74) (v10:List d75) (v59 v60:Int) (p:List Nat:=[1,1,1,1,1,1,1,0,1,0]):Option d76:=zT EE R L 83 Go.Proofs.Tryz.f83 p (mk 104 [(1,.dat ⟨(.ptr t18),v1,(.own .sh)⟩),(2,.dat ⟨(.ptr t11),v2,(.own (.pr (.own .sh) (.pr (.pr (.own .sh) (.pr (.own .sh) (.pr (.own .sh) .sh))) .sh)))⟩),(5,.dat ⟨(.sl .str),v5,.sh⟩),(6,.dat ⟨(.int .i64),v6,.sh⟩),(9,.dat ⟨(.ptr t11),v9,(.own (.pr (.own .sh) (.pr (.pr (.own .sh) (.pr (.own .sh) (.pr (.own (.own .sh)) .sh))) .sh)))⟩),(10,.dat ⟨(.sl t12),v10,(.own (.pr .sh (.pr (.own .sh) .sh)))⟩),(59,.dat ⟨(.int .i64),v59,.sh⟩),(60,.dat ⟨(.int .i64),v60,.sh⟩)])
noncomputable def wF (v2:d74) (v5:d87) (v6:d74) (v7:Int) (p:List Nat:=[1,1,1,0,1,0]):Option d76:=zT EE R L 217 Go.Proofs.Tryz.f217 p (mk 107 [(2,.dat ⟨(.ptr t11),v2,(.own (.pr (.own .sh) (.pr (.pr (.own .sh) (.pr (.own .sh) (.pr (.own .sh) .sh))) .sh)))⟩),(5,.dat ⟨(.ptr t24),v5,(.own (.pr (.own .sh) .sh))⟩),(6,.dat ⟨(.ptr t11),v6,(.own (.pr (.own .sh) (.pr (.pr (.own .sh) (.pr (.own .sh) (.pr (.own (.own .sh)) .sh))) .sh)))⟩),(7,.dat ⟨(.int .i64),v7,.sh⟩)])
noncomputable def uB (v2:d74) (v5:d87) (v6:d74) (v8:Int) (p:List Nat:=[1,1,1,1,0,1,0]):Option d76:=zT EE R L 217 Go.Proofs.Tryz.f217 p (mk 107 [(2,.dat ⟨(.ptr t11),v2,(.own (.pr (.own .sh) (.pr (.pr (.own .sh) (.pr (.own .sh) (.pr (.own .sh) .sh))) .sh)))⟩),(5,.dat ⟨(.ptr t24),v5,(.own (.pr (.own .sh) .sh))⟩),(6,.dat ⟨(.ptr t11),v6,(.own (.pr (.own .sh) (.pr (.pr (.own .sh) (.pr (.own .sh) (.pr (.own (.own .sh)) .sh))) .sh)))⟩),(8,.dat ⟨(.int .i64),v8,.sh⟩)])
noncomputable def yO (v2:d74) (v5:d87) (v6:d74) (v10:Int) (p:List Nat:=[1,1,1,1,1,0,1,0]):Option d76:=zT EE R L 217 Go.Proofs.Tryz.f217 p (mk 107 [(2,.dat ⟨(.ptr t11),v2,(.own (.pr (.own .sh) (.pr (.pr (.own .sh) (.pr (.own .sh) (.pr (.own .sh) .sh))) .sh)))⟩),(5,.dat ⟨(.ptr t24),v5,(.own (.pr (.own .sh) .sh))⟩),(6,.dat ⟨(.ptr t11),v6,(.own (.pr (.own .sh) (.pr (.pr (.own .sh) (.pr (.own .sh) (.pr (.own (.own .sh)) .sh))) .sh)))⟩),(10,.dat ⟨(.int .i64),v10,.sh⟩)])
noncomputable def tN (v2:d74) (v5:d87) (v6:d74) (v11:List d75) (v12:Int) (p:List Nat:=[1,1,1,1,1,1,1,0,1,0]):Option d76:=zT EE R L 217 Go.Proofs.Tryz.f217 p (mk 107 [(2,.dat ⟨(.ptr t11),v2,(.own (.pr (.own .sh) (.pr (.pr (.own .sh) (.pr (.own .sh) (.pr (.own .sh) .sh))) .sh)))⟩),(5,.dat ⟨(.ptr t24),v5,(.own (.pr (.own .sh) .sh))⟩),(6,.dat ⟨(.ptr t11),v6,(.own (.pr (.own .sh) (.pr (.pr (.own .sh) (.pr (.own .sh) (.pr (.own (.own .sh)) .sh))) .sh)))⟩),(11,.dat ⟨(.sl t12),v11,(.own (.pr .sh (.pr (.own .sh) .sh)))⟩),(12,.dat ⟨(.int .i64),v12,.sh⟩)])
noncomputable def vX (v2:d74) (v5:d87) (v6:d74) (v11:List d75) (v12:Int) (v13:d75) (v14:Int) (p:List Nat:=[1,1,1,1,1,1,1,0,1,0,0,1,0,0,1,0,1,0]):Option d76:=zT EE R L 217 Go.Proofs.Tryz.f217 p (mk 107 [(2,.dat ⟨(.ptr t11),v2,(.own (.pr (.own .sh) (.pr (.pr (.own .sh) (.pr (.own .sh) (.pr (.own .sh) .sh))) .sh)))⟩),(5,.dat ⟨(.ptr t24),v5,(.own (.pr (.own .sh) .sh))⟩),(6,.dat ⟨(.ptr t11),v6,(.own (.pr (.own .sh) (.pr (.pr (.own .sh) (.pr (.own .sh) (.pr (.own (.own .sh)) .sh))) .sh)))⟩),(11,.dat ⟨(.sl t12),v11,(.own (.pr .sh (.pr (.own .sh) .sh)))⟩),(12,.dat ⟨(.int .i64),v12,.sh⟩),(13,.dat ⟨(.ptr t12),v13,(.own (.pr .sh (.pr (.own .sh) .sh)))⟩),(14,.dat ⟨(.int .i64),v14,.sh⟩)])
noncomputable def rL (v1:d81) (v2:d74) (v5:List (List UInt8)) (v6:Int) (p:List Nat:=[1,1,0,1,0]):Option d76:=zT EE R L 153 Go.Proofs.Tryz.f153 p (mk 120 [(1,.dat ⟨(.ptr t18),v1,(.own .sh)⟩),(2,.dat ⟨(.ptr t11),v2,(.own (.pr (.own .sh) (.pr (.pr (.own .sh) (.pr (.own .sh) (.pr (.own .sh) .sh))) .sh)))⟩),(5,.dat ⟨(.sl .str),v5,(.own .sh)⟩),(6,.dat ⟨(.int .i64),v6,.sh⟩)])
noncomputable def nB (v1:d81) (v2:d74) (v5:List (List UInt8)) (v9:d74) (v10:List d75) (v12:Int) (p:List Nat:=[1,1,1,1,1,1,1,0,1,0]):Option d76:=zT EE R L 153 Go.Proofs.Tryz.f153 p (mk 120 [(1,.dat ⟨(.ptr t18),v1,(.own .sh)⟩),(2,.dat ⟨(.ptr t11),v2,(.own (.pr (.own .sh) (.pr (.pr (.own .sh) (.pr (.own .sh) (.pr (.own .sh) .sh))) .sh)))⟩),(5,.dat ⟨(.sl .str),v5,(.own .sh)⟩),(9,.dat ⟨(.ptr t11),v9,(.own (.pr (.own .sh) (.pr (.pr (.own .sh) (.pr (.own .sh) (.pr (.own (.own .sh)) .sh))) .sh)))⟩),(10,.dat ⟨(.sl t12),v10,(.own (.pr .sh (.pr (.own .sh) .sh)))⟩),(12,.dat ⟨(.int .i64),v12,.sh⟩)])
noncomputable def wE (v0:d72) (v2 v3:Int) (v9:List Int) (v10 v11:Int) (p:List Nat:=[1,1,0,1,0]):Option d85:=zT EE R L 224 Go.Proofs.Tryz.f224 p (mk 22 [(0,.dat ⟨(.ptr t9),v0,(.pin 0 (.own (.pr (.own .sh) .sh)))⟩),(2,.dat ⟨(.int .i64),v2,.sh⟩),(3,.dat ⟨(.int .i64),v3,.sh⟩),(9,.dat ⟨t1,v9,(.own .sh)⟩),(10,.dat ⟨(.int .i64),v10,.sh⟩),(11,.dat ⟨(.int .i64),v11,.sh⟩)])
noncomputable def wJ (v0:d72) (v5:List d69) (v8 v9:Int) (p:List Nat:=[1,1,0,1,0]):Option d86:=zT EE R L 225 Go.Proofs.Tryz.f225 p (mk 23 [(0,.dat ⟨(.ptr t9),v0,(.pin 0 (.own (.pr (.own .sh) .sh)))⟩),(5,.dat ⟨(.sl t4),v5,(.own .sh)⟩),(8,.dat ⟨(.int .i64),v8,.sh⟩),(9,.dat ⟨(.int .i64),v9,.sh⟩)])
noncomputable def yS (v0:d87) (v3:Int) (p:List Nat:=[1,0,1,0]):Option d90:=zT EE R L 281 Go.Proofs.Tryz.f281 p (mk 35 [(0,.dat ⟨(.ptr t24),v0,(.pin 0 (.own (.pr (.own .sh) .sh)))⟩),(3,.dat ⟨(.int .i64),v3,.sh⟩)])
noncomputable def vG (v4:d87) (v5:List d69) (v6:Int) (p:List Nat:=[1,1,1,0,1,0]):Option d77:=zT EE R L 218 Go.Proofs.Tryz.f218 p (mk 37 [(4,.dat ⟨(.ptr t24),v4,(.own (.pr (.own .sh) .sh))⟩),(5,.dat ⟨(.sl t4),v5,(.own .sh)⟩),(6,.dat ⟨(.int .i64),v6,.sh⟩)])
noncomputable def uQ (v1:List UInt8) (v2 v4 v5:List Int) (v6:Int) (p:List Nat:=[1,1,0,1,0]):Option d68:=zT EE R L 304 Go.Proofs.Tryz.f304 p (mk 194 [(1,.dat ⟨.str,v1,.sh⟩),(2,.dat ⟨(.ptr t30),v2,(.own .sh)⟩),(4,.dat ⟨(.ptr t30),v4,(.own .sh)⟩),(5,.dat ⟨(.ptr t34),v5,(.own .sh)⟩),(6,.dat ⟨(.int .i64),v6,.sh⟩)])
noncomputable def xR (v2 v4 v5:List Int) (v7:Int) (p:List Nat:=[1,1,1,0,1,0]):Option d68:=zT EE R L 304 Go.Proofs.Tryz.f304 p (mk 194 [(2,.dat ⟨(.ptr t30),v2,(.own .sh)⟩),(4,.dat ⟨(.ptr t30),v4,(.own .sh)⟩),(5,.dat ⟨(.ptr t34),v5,(.own .sh)⟩),(7,.dat ⟨(.int .i64),v7,.sh⟩)])
noncomputable def xY (v2 v4 v5 v10 v11:List Int) (v12:Int) (p:List Nat:=[1,1,1,1,1,1,0,1,0]):Option d68:=zT EE R L 304 Go.Proofs.Tryz.f304 p (mk 194 [(2,.dat ⟨(.ptr t30),v2,(.own .sh)⟩),(4,.dat ⟨(.ptr t30),v4,(.own .sh)⟩),(5,.dat ⟨(.ptr t34),v5,(.own .sh)⟩),(10,.dat ⟨(.ptr t34),v10,(.own .sh)⟩),(11,.dat ⟨(.ptr t30),v11,(.own .sh)⟩),(12,.dat ⟨(.int .i64),v12,.sh⟩)])
noncomputable def wM (v2 v4 v11:List Int) (v18:Int) (p:List Nat:=[1,1,1,1,1,1,1,0,1,0]):Option d68:=zT EE R L 304 Go.Proofs.Tryz.f304 p (mk 194 [(2,.dat ⟨(.ptr t30),v2,(.own .sh)⟩),(4,.dat ⟨(.ptr t30),v4,(.own .sh)⟩),(11,.dat ⟨(.ptr t30),v11,(.own .sh)⟩),(18,.dat ⟨(.int .i64),v18,.sh⟩)])
noncomputable def qU (v2 v4:d91) (p:List Nat:=[1,1,1,0,0]):Option d92:=zT EE R L 249 Go.Proofs.Tryz.f249 p (mk 31 [(2,.dat ⟨(.ptr t32),v2,(.own .sh)⟩),(4,.dat ⟨(.ptr t32),v4,(.own .sh)⟩)])
noncomputable def oM (v1:d91) (v3:Int) (v4:List Int) (p:List Nat:=[1,1,1,0,0]):Option d93:=zT EE R L 248 Go.Proofs.Tryz.f248 p (mk 61 [(1,.dat ⟨(.ptr t32),v1,(.own .sh)⟩),(3,.dat ⟨(.int .i64),v3,.sh⟩),(4,.dat ⟨t28,v4,(.own .sh)⟩)])
noncomputable def vS (v1:d91) (v3:Int) (v4:List Int) (v5:Int) (p:List Nat:=[1,1,1,1,0,1,0]):Option d93:=zT EE R L 248 Go.Proofs.Tryz.f248 p (mk 61 [(1,.dat ⟨(.ptr t32),v1,(.own .sh)⟩),(3,.dat ⟨(.int .i64),v3,.sh⟩),(4,.dat ⟨t28,v4,(.own .sh)⟩),(5,.dat ⟨(.int .i64),v5,.sh⟩)])
noncomputable def vT (v1:d91) (v6:List Int) (v7:Int) (p:List Nat:=[1,1,1,1,1,1,1,0,1,0]):Option d93:=zT EE R L 248 Go.Proofs.Tryz.f248 p (mk 61 [(1,.dat ⟨(.ptr t32),v1,(.own .sh)⟩),(6,.dat ⟨t28,v6,(.own .sh)⟩),(7,.dat ⟨(.int .i64),v7,.sh⟩)])
noncomputable def sA (v1:d91) (v6:List Int) (v7 v8:Int) (p:List Nat:=[1,1,1,1,1,1,1,0,1,0,0,1,0,0,1,0]):Option d93:=zT EE R L 248 Go.Proofs.Tryz.f248 p (mk 61 [(1,.dat ⟨(.ptr t32),v1,(.own .sh)⟩),(6,.dat ⟨t28,v6,(.own .sh)⟩),(7,.dat ⟨(.int .i64),v7,.sh⟩),(8,.dat ⟨(.int .i64),v8,.sh⟩)])
noncomputable def xE (v0:d91) (v1:List UInt8) (v2 v6:List Int) (v25:Int) (p:List Nat:=[1,0,1,0]):Option d92:=zT EE R L 310 Go.Proofs.Tryz.f310 p (mk 215 [(0,.dat ⟨(.ptr t32),v0,(.pin 0 (.own .sh))⟩),(1,.dat ⟨.str,v1,.sh⟩),(2,.dat ⟨(.ptr t37),v2,.sh⟩),(6,.dat ⟨(.ptr t37),v6,(.own .sh)⟩),(25,.dat ⟨(.int .i64),v25,.sh⟩)])
noncomputable def zV (v0:d91) (v2 v6:List Int) (v8:Int) (p:List Nat:=[1,1,0,1,0]):Option d92:=zT EE R L 310 Go.Proofs.Tryz.f310 p (mk 215 [(0,.dat ⟨(.ptr t32),v0,(.pin 0 (.own .sh))⟩),(2,.dat ⟨(.ptr t37),v2,.sh⟩),(6,.dat ⟨(.ptr t37),v6,(.own .sh)⟩),(8,.dat ⟨(.int .i64),v8,.sh⟩)])
noncomputable def zY (v0:d91) (v2 v6 v11 v104:List Int) (v105:Int) (p:List Nat:=[1,1,1,1,0,1,0]):Option d92:=zT EE R L 310 Go.Proofs.Tryz.f310 p (mk 215 [(0,.dat ⟨(.ptr t32),v0,(.pin 0 (.own .sh))⟩),(2,.dat ⟨(.ptr t37),v2,.sh⟩),(6,.dat ⟨(.ptr t37),v6,(.own .sh)⟩),(11,.dat ⟨(.ptr Bs5),v11,(.own .sh)⟩),(104,.dat ⟨t30,v104,.sh⟩),(105,.dat ⟨(.int .i64),v105,.sh⟩)])
noncomputable def yH (v0:d91) (v2 v6 v11:List Int) (v114:Int) (p:List Nat:=[1,1,1,1,1,0,1,0]):Option d92:=zT EE R L 310 Go.Proofs.Tryz.f310 p (mk 215 [(0,.dat ⟨(.ptr t32),v0,(.pin 0 (.own .sh))⟩),(2,.dat ⟨(.ptr t37),v2,.sh⟩),(6,.dat ⟨(.ptr t37),v6,(.own .sh)⟩),(11,.dat ⟨(.ptr Bs5),v11,(.own .sh)⟩),(114,.dat ⟨(.int .i64),v114,.sh⟩)])
noncomputable def yI (v0:d91) (v194:List Int) (v195:Int) (p:List Nat:=[1,1,1,1,1,1,1,0]):Option d92:=zT EE R L 310 Go.Proofs.Tryz.f310 p (mk 215 [(0,.dat ⟨(.ptr t32),v0,(.pin 0 (.own .sh))⟩),(194,.dat ⟨Bs5,v194,.sh⟩),(195,.dat ⟨(.int .i64),v195,.sh⟩)])
noncomputable def sX (v1:List UInt8) (v2 v4:d91) (v5:List Int) (p:List Nat:=[1,1,1,1,0,0]):Option d92:=zT EE R L 258 Go.Proofs.Tryz.f258 p (mk 28 [(1,.dat ⟨.str,v1,.sh⟩),(2,.dat ⟨(.ptr t32),v2,(.own .sh)⟩),(4,.dat ⟨(.ptr t32),v4,(.own .sh)⟩),(5,.dat ⟨(.ptr t37),v5,(.own .sh)⟩)])
noncomputable def wB (v1:d91) (v3:Int) (v4:List UInt8) (v5:Int) (p:List Nat:=[1,1,1,0,1,0]):Option d93:=zT EE R L 259 Go.Proofs.Tryz.f259 p (mk 56 [(1,.dat ⟨(.ptr t32),v1,(.own .sh)⟩),(3,.dat ⟨(.int .i64),v3,.sh⟩),(4,.dat ⟨.str,v4,.sh⟩),(5,.dat ⟨(.int .i64),v5,.sh⟩)])
noncomputable def vK (v6 v35:List Int) (v36:Int) (p:List Nat:=[1,1,1,1,1,0,1,0]):Option d93:=zT EE R L 259 Go.Proofs.Tryz.f259 p (mk 56 [(6,.dat ⟨t28,v6,(.own .sh)⟩),(35,.dat ⟨t30,v35,.sh⟩),(36,.dat ⟨(.int .i64),v36,.sh⟩)])
noncomputable def rC (v0:Int) (v5:List Int) (v7 v8:Int) (p:List Nat:=[1,1,0,1,0]):Option d93:=zT EE R L 139 Go.Proofs.Tryz.f139 p (mk 22 [(0,.dat ⟨(.int .i64),v0,.sh⟩),(5,.dat ⟨t28,v5,(.own .sh)⟩),(7,.dat ⟨(.int .i64),v7,.sh⟩),(8,.dat ⟨(.int .i64),v8,.sh⟩)])
noncomputable def sD (v0 v1 v2 v3:Int) (v16:List (List Int)) (v17:Int) (p:List Nat:=[1,0,1,0]):Option d94:=zT EE R L 354 Go.Proofs.Tryz.f354 p (mk 43 [(0,.dat ⟨(.int .u32),v0,.sh⟩),(1,.dat ⟨(.int .u32),v1,.sh⟩),(2,.dat ⟨(.int .u32),v2,.sh⟩),(3,.dat ⟨(.int .u32),v3,.sh⟩),(16,.dat ⟨By5,v16,.sh⟩),(17,.dat ⟨(.int .i64),v17,.sh⟩)])
noncomputable def tY (v7:List UInt8) (v8 v9:List Int) (v25:Int) (p:List Nat:=[1,1,1,0,1,0]):Option d93:=zT EE R L 322 Go.Proofs.Tryz.f322 p (mk 111 [(7,.dat ⟨.str,v7,.sh⟩),(8,.dat ⟨(.ptr BH9),v8,(.own .sh)⟩),(9,.dat ⟨(.ptr BH9),v9,(.own .sh)⟩),(25,.dat ⟨(.int .i64),v25,.sh⟩)])
noncomputable def uU (v8 v9:List Int) (v41:Int) (p:List Nat:=[1,1,1,1,0,1,0]):Option d93:=zT EE R L 322 Go.Proofs.Tryz.f322 p (mk 111 [(8,.dat ⟨(.ptr BH9),v8,(.own .sh)⟩),(9,.dat ⟨(.ptr BH9),v9,(.own .sh)⟩),(41,.dat ⟨(.int .i64),v41,.sh⟩)])
noncomputable def mY (v8 v9:List Int) (v41 v43:Int) (p:List Nat:=[1,1,1,1,0,1,0,0,1,1,0,0,1,0]):Option d93:=zT EE R L 322 Go.Proofs.Tryz.f322 p (mk 111 [(8,.dat ⟨(.ptr BH9),v8,(.own .sh)⟩),(9,.dat ⟨(.ptr BH9),v9,(.own .sh)⟩),(41,.dat ⟨(.int .i64),v41,.sh⟩),(43,.dat ⟨(.int .i64),v43,.sh⟩)])
noncomputable def uT (v8 v9:List Int) (v16:List UInt8) (v95:Int) (p:List Nat:=[1,1,1,1,1,1,0,1,0]):Option d93:=zT EE R L 322 Go.Proofs.Tryz.f322 p (mk 111 [(8,.dat ⟨(.ptr BH9),v8,(.own .sh)⟩),(9,.dat ⟨(.ptr BH9),v9,(.own .sh)⟩),(16,.dat ⟨.str,v16,.sh⟩),(95,.dat ⟨(.int .i64),v95,.sh⟩)])
noncomputable def rI (v8 v9:List Int) (v11 v41 v43 v46:Int) (p:List Nat:=[1,1,1,1,0,1,0,0,1,1,0,0,1,0,0,1,1,0,0,1,1,0]):Option d93:=zT EE R L 322 Go.Proofs.Tryz.f322 p (mk 111 [(8,.dat ⟨(.ptr BH9),v8,(.own .sh)⟩),(9,.dat ⟨(.ptr BH9),v9,(.own .sh)⟩),(11,.dat ⟨(.int .i64),v11,.sh⟩),(41,.dat ⟨(.int .i64),v41,.sh⟩),(43,.dat ⟨(.int .i64),v43,.sh⟩),(46,.dat ⟨(.int .i64),v46,.sh⟩)])
noncomputable def uJ (v0 v1:List UInt8) (v2:Int) (v7:List Int) (v8:Int) (p:List Nat:=[1,1,0,1,0]):Option d93:=zT EE R L 349 Go.Proofs.Tryz.f349 p (mk 105 [(0,.dat ⟨.str,v0,.sh⟩),(1,.dat ⟨.str,v1,.sh⟩),(2,.dat ⟨(.int .i64),v2,.sh⟩),(7,.dat ⟨(.ptr t44),v7,(.own .sh)⟩),(8,.dat ⟨(.int .i64),v8,.sh⟩)])
noncomputable def wP (v0 v1:List UInt8) (v2:Int) (v7:List Int) (v9:Int) (p:List Nat:=[1,1,1,0,1,0]):Option d93:=zT EE R L 349 Go.Proofs.Tryz.f349 p (mk 105 [(0,.dat ⟨.str,v0,.sh⟩),(1,.dat ⟨.str,v1,.sh⟩),(2,.dat ⟨(.int .i64),v2,.sh⟩),(7,.dat ⟨(.ptr t44),v7,(.own .sh)⟩),(9,.dat ⟨(.int .i64),v9,.sh⟩)])
noncomputable def wR (v1:List UInt8) (v7:List Int) (v10:Int) (p:List Nat:=[1,1,1,1,1,0,1,0]):Option d93:=zT EE R L 349 Go.Proofs.Tryz.f349 p (mk 105 [(1,.dat ⟨.str,v1,.sh⟩),(7,.dat ⟨(.ptr t44),v7,(.own .sh)⟩),(10,.dat ⟨(.int .i64),v10,.sh⟩)])
noncomputable def xC (v7 v11:List Int) (v12:Int) (p:List Nat:=[1,1,1,1,1,1,1,0,1,0]):Option d93:=zT EE R L 349 Go.Proofs.Tryz.f349 p (mk 105 [(7,.dat ⟨(.ptr t44),v7,(.own .sh)⟩),(11,.dat ⟨(.ptr t44),v11,(.own .sh)⟩),(12,.dat ⟨(.int .i64),v12,.sh⟩)])
noncomputable def uP (v7 v11:List Int) (v12 v13:Int) (p:List Nat:=[1,1,1,1,1,1,1,0,1,0,0,1,0,0,0,1,0]):Option d93:=zT EE R L 349 Go.Proofs.Tryz.f349 p (mk 105 [(7,.dat ⟨(.ptr t44),v7,(.own .sh)⟩),(11,.dat ⟨(.ptr t44),v11,(.own .sh)⟩),(12,.dat ⟨(.int .i64),v12,.sh⟩),(13,.dat ⟨(.int .i64),v13,.sh⟩)])
noncomputable def wN (v7 v11 v15:List Int) (v16:Int) (p:List Nat:=[1,1,1,1,1,1,1,1,1,0,1,0]):Option d93:=zT EE R L 349 Go.Proofs.Tryz.f349 p (mk 105 [(7,.dat ⟨(.ptr t44),v7,(.own .sh)⟩),(11,.dat ⟨(.ptr t44),v11,(.own .sh)⟩),(15,.dat ⟨t28,v15,(.own .sh)⟩),(16,.dat ⟨(.int .i64),v16,.sh⟩)])
noncomputable def wQ (v7 v11:List Int) (v12 v14:Int) (p:List Nat:=[1,1,1,1,1,1,1,0,1,0,0,1,0,0,1,1,0]):Option d93:=zT EE R L 349 Go.Proofs.Tryz.f349 p (mk 105 [(7,.dat ⟨(.ptr t44),v7,(.own .sh)⟩),(11,.dat ⟨(.ptr t44),v11,(.own .sh)⟩),(12,.dat ⟨(.int .i64),v12,.sh⟩),(14,.dat ⟨(.int .i64),v14,.sh⟩)])
noncomputable def kW (v1:List UInt8) (v5:List Int) (v10 v11:Int) (p:List Nat:=[1,1,0,1,0]):Option d93:=zT EE R L 321 Go.Proofs.Tryz.f321 p (mk 26 [(1,.dat ⟨.str,v1,.sh⟩),(5,.dat ⟨t28,v5,(.own .sh)⟩),(10,.dat ⟨(.int .i64),v10,.sh⟩),(11,.dat ⟨(.int .i64),v11,.sh⟩)])
noncomputable def rF (v0 v1:List UInt8) (v2:Int) (v3:List UInt8) (v9:List Int) (v10:List UInt8) (v11:Int) (p:List Nat:=[1,1,1,0,1,0]):Option d93:=zT EE R L 313 Go.Proofs.Tryz.f313 p (mk 42 [(0,.dat ⟨.str,v0,.sh⟩),(1,.dat ⟨.str,v1,.sh⟩),(2,.dat ⟨(.int .i64),v2,.sh⟩),(3,.dat ⟨.str,v3,.sh⟩),(9,.dat ⟨t28,v9,(.own .sh)⟩),(10,.dat ⟨.str,v10,.sh⟩),(11,.dat ⟨(.int .i64),v11,.sh⟩)])
noncomputable def vR (v0:List (List UInt8)) (v1 v4 v5:Int) (p:List Nat:=[1,1,1,0,1,0]):Option d67:=zT EE R L 122 Go.Proofs.Tryz.f122 p (mk 28 [(0,.dat ⟨(.sl .str),v0,.sh⟩),(1,.dat ⟨(.int .i64),v1,.sh⟩),(4,.dat ⟨(.int .i64),v4,.sh⟩),(5,.dat ⟨(.int .i64),v5,.sh⟩)])
noncomputable def pX (v0:List d79) (v1 v4 v5:Int) (p:List Nat:=[1,1,1,0,1,0]):Option d67:=zT EE R L 123 Go.Proofs.Tryz.f123 p (mk 27 [(0,.dat ⟨(.sl t16),v0,.sh⟩),(1,.dat ⟨(.int .i64),v1,.sh⟩),(4,.dat ⟨(.int .i64),v4,.sh⟩),(5,.dat ⟨(.int .i64),v5,.sh⟩)])
noncomputable def tD (v0 v2 v3:List (List UInt8)) (v4:Int) (p:List Nat:=[1,1,0,1,0]):Option d96:=zT EE R L 132 Go.Proofs.Tryz.f132 p (mk 22 [(0,.dat ⟨(.sl .str),v0,.sh⟩),(2,.dat ⟨(.sl .str),v2,(.own .sh)⟩),(3,.dat ⟨(.sl .str),v3,(.own .sh)⟩),(4,.dat ⟨(.int .i64),v4,.sh⟩)])
noncomputable def oF (v0 v2 v3:List d79) (v4:Int) (p:List Nat:=[1,1,0,1,0]):Option d98:=zT EE R L 133 Go.Proofs.Tryz.f133 p (mk 23 [(0,.dat ⟨(.sl t16),v0,.sh⟩),(2,.dat ⟨(.sl t16),v2,(.own .sh)⟩),(3,.dat ⟨(.sl t16),v3,(.own .sh)⟩),(4,.dat ⟨(.int .i64),v4,.sh⟩)])
noncomputable def qF (v0:List Int) (v3:Int) (p:List Nat:=[1,0,1,0]):Option d66:=zT EE R L 44 Go.Proofs.Tryz.f44 p (mk 16 [(0,.dat ⟨t1,v0,.sh⟩),(3,.dat ⟨(.int .i64),v3,.sh⟩)])
noncomputable def pQ (v0 v1:d80) (v2:Bool) (v3:Int) (p:List Nat:=[1,1,0,1,0]):Option d66:=zT EE R L 152 Go.Proofs.Tryz.f152 p (mk 54 [(0,.dat ⟨t17,v0,.sh⟩),(1,.dat ⟨(.ptr t17),v1,(.own .sh)⟩),(2,.dat ⟨.bool,v2,.sh⟩),(3,.dat ⟨(.int .i64),v3,.sh⟩)])
noncomputable def pC (v0 v1:d80) (v2:Bool) (v3 v4:Int) (p:List Nat:=[1,1,1,0,1,0]):Option d66:=zT EE R L 152 Go.Proofs.Tryz.f152 p (mk 54 [(0,.dat ⟨t17,v0,.sh⟩),(1,.dat ⟨(.ptr t17),v1,(.own .sh)⟩),(2,.dat ⟨.bool,v2,.sh⟩),(3,.dat ⟨(.int .i64),v3,.sh⟩),(4,.dat ⟨(.int .i64),v4,.sh⟩)])
noncomputable def sF (v0:Int) (v3:List Int) (v4:Int) (p:List Nat:=[1,1,0,1,0]):Option d93:=zT EE R L 312 Go.Proofs.Tryz.f312 p (mk 20 [(0,.dat ⟨(.int .i64),v0,.sh⟩),(3,.dat ⟨t28,v3,(.own .sh)⟩),(4,.dat ⟨(.int .i64),v4,.sh⟩)])
noncomputable def kZ (v0:List UInt8) (p:List Nat:=[1,0,0]):Option d93:=zT EE R L 351 Go.Proofs.Tryz.f351 p (mk 10 [(0,.dat ⟨.str,v0,.sh⟩)])
noncomputable def uR (v3:List Int) (v4:Int) (p:List Nat:=[1,1,0,1,0]):Option d93:=zT EE R L 374 Go.Proofs.Tryz.f374 p (mk 31 [(3,.dat ⟨t28,v3,(.own .sh)⟩),(4,.dat ⟨(.int .i64),v4,.sh⟩)])
noncomputable def uX (v3:List Int) (v5:Int) (p:List Nat:=[1,1,1,0,1,0]):Option d93:=zT EE R L 374 Go.Proofs.Tryz.f374 p (mk 31 [(3,.dat ⟨t28,v3,(.own .sh)⟩),(5,.dat ⟨(.int .i64),v5,.sh⟩)])
noncomputable def vM (v0:List UInt8) (v2 v3:List Int) (v4:Int) (p:List Nat:=[1,1,0,1,0]):Option d68:=zT EE R L 373 Go.Proofs.Tryz.f373 p (mk 50 [(0,.dat ⟨.str,v0,.sh⟩),(2,.dat ⟨(.ptr t52),v2,(.own .sh)⟩),(3,.dat ⟨(.ptr t52),v3,(.own .sh)⟩),(4,.dat ⟨(.int .i64),v4,.sh⟩)])
noncomputable def pO (v1 v2:List Int) (v3:Int) (p:List Nat:=[1,0,1,0]):Option d68:=zT EE R L 377 Go.Proofs.Tryz.f377 p (mk 41 [(1,.dat ⟨(.ptr t52),v1,(.own .sh)⟩),(2,.dat ⟨(.ptr t52),v2,(.own .sh)⟩),(3,.dat ⟨(.int .i64),v3,.sh⟩)])
noncomputable def uK (v1 v2:List Int) (v3 v4:Int) (p:List Nat:=[1,0,1,0,0,1,0,0,0,1,0]):Option d68:=zT EE R L 377 Go.Proofs.Tryz.f377 p (mk 41 [(1,.dat ⟨(.ptr t52),v1,(.own .sh)⟩),(2,.dat ⟨(.ptr t52),v2,(.own .sh)⟩),(3,.dat ⟨(.int .i64),v3,.sh⟩),(4,.dat ⟨(.int .i64),v4,.sh⟩)])
noncomputable def vO (v2 v3 v4 v5:List Int) (v6:Int) (p:List Nat:=[1,1,0,1,0]):Option d68:=zT EE R L 375 Go.Proofs.Tryz.f375 p (mk 42 [(2,.dat ⟨(.ptr t52),v2,(.own .sh)⟩),(3,.dat ⟨(.ptr t52),v3,(.own .sh)⟩),(4,.dat ⟨(.ptr t52),v4,(.own .sh)⟩),(5,.dat ⟨(.ptr t52),v5,(.own .sh)⟩),(6,.dat ⟨(.int .i64),v6,.sh⟩)])
noncomputable def vN (v2 v3 v4 v5:List Int) (v6 v7:Int) (p:List Nat:=[1,1,0,1,0,0,1,0,0,1,0]):Option d68:=zT EE R L 375 Go.Proofs.Tryz.f375 p (mk 42 [(2,.dat ⟨(.ptr t52),v2,(.own .sh)⟩),(3,.dat ⟨(.ptr t52),v3,(.own .sh)⟩),(4,.dat ⟨(.ptr t52),v4,(.own .sh)⟩),(5,.dat ⟨(.ptr t52),v5,(.own .sh)⟩),(6,.dat ⟨(.int .i64),v6,.sh⟩),(7,.dat ⟨(.int .i64),v7,.sh⟩)])
noncomputable def rK (v1 v2 v3:List Int) (v4:Int) (p:List Nat:=[1,1,1,0,1,0]):Option d68:=zT EE R L 376 Go.Proofs.Tryz.f376 p (mk 39 [(1,.dat ⟨(.ptr t52),v1,(.own .sh)⟩),(2,.dat ⟨(.ptr t52),v2,(.own .sh)⟩),(3,.dat ⟨(.ptr t52),v3,(.own .sh)⟩),(4,.dat ⟨(.int .i64),v4,.sh⟩)])
noncomputable def rH (v0 v1:List UInt8) (v5 v6:List Int) (v7:Int) (p:List Nat:=[1,1,1,0,1,0]):Option d93:=zT EE R L 350 Go.Proofs.Tryz.f350 p (mk 108 [(0,.dat ⟨.str,v0,.sh⟩),(1,.dat ⟨.str,v1,.sh⟩),(5,.dat ⟨(.ptr t52),v5,(.own .sh)⟩),(6,.dat ⟨(.ptr t52),v6,(.own .sh)⟩),(7,.dat ⟨(.int .i64),v7,.sh⟩)])
noncomputable def oK (v0 v1:List UInt8) (v5 v6:List Int) (v7:Int) (v8:List UInt8) (p:List Nat:=[1,1,1,0,1,0,0,1,0,0,1,0,0]):Option d93:=zT EE R L 350 Go.Proofs.Tryz.f350 p (mk 108 [(0,.dat ⟨.str,v0,.sh⟩),(1,.dat ⟨.str,v1,.sh⟩),(5,.dat ⟨(.ptr t52),v5,(.own .sh)⟩),(6,.dat ⟨(.ptr t52),v6,(.own .sh)⟩),(7,.dat ⟨(.int .i64),v7,.sh⟩),(8,.dat ⟨.str,v8,.sh⟩)])
noncomputable def uO (v0:List UInt8) (v6 v11:List Int) (v12 v13:Int) (p:List Nat:=[1,1,1,1,1,1,1,0,1,0]):Option d93:=zT EE R L 350 Go.Proofs.Tryz.f350 p (mk 108 [(0,.dat ⟨.str,v0,.sh⟩),(6,.dat ⟨(.ptr t52),v6,(.own .sh)⟩),(11,.dat ⟨t28,v11,(.own .sh)⟩),(12,.dat ⟨(.int .i64),v12,.sh⟩),(13,.dat ⟨(.int .i64),v13,.sh⟩)])
noncomputable def tW (v0 v1:List UInt8) (v5 v6:List Int) (v7:Int) (v9:List Int) (v10:Int) (p:List Nat:=[1,1,1,0,1,0,0,1,0,0,1,1,1,0,1,0]):Option d93:=zT EE R L 350 Go.Proofs.Tryz.f350 p (mk 108 [(0,.dat ⟨.str,v0,.sh⟩),(1,.dat ⟨.str,v1,.sh⟩),(5,.dat ⟨(.ptr t52),v5,(.own .sh)⟩),(6,.dat ⟨(.ptr t52),v6,(.own .sh)⟩),(7,.dat ⟨(.int .i64),v7,.sh⟩),(9,.dat ⟨(.ptr t52),v9,(.own .sh)⟩),(10,.dat ⟨(.int .i64),v10,.sh⟩)])
noncomputable def wT (v0:List (List UInt8)) (v1:FnVal) (v4 v7 v8:Int) (p:List Nat:=[1,0,1,0]):Option d67:=zT EE R L 308 Go.Proofs.Tryz.f308 p (mk 19 [(0,.dat ⟨(.sl .str),v0,.sh⟩),(1,.dat ⟨.fn,v1,.sh⟩),(4,.dat ⟨(.int .i64),v4,.sh⟩),(7,.dat ⟨(.int .i64),v7,.sh⟩),(8,.dat ⟨(.int .i64),v8,.sh⟩)])
noncomputable def zG (v0:List (List UInt8)) (v1:FnVal) (v4 v5 v7 v8:Int) (p:List Nat:=[1,0,1,0]):Option d67:=zT EE R L 308 Go.Proofs.Tryz.f308 p (mk 19 [(0,.dat ⟨(.sl .str),v0,.sh⟩),(1,.dat ⟨.fn,v1,.sh⟩),(4,.dat ⟨(.int .i64),v4,.sh⟩),(5,.dat ⟨(.int .i64),v5,.sh⟩),(7,.dat ⟨(.int .i64),v7,.sh⟩),(8,.dat ⟨(.int .i64),v8,.sh⟩)])
noncomputable def uG (v0:List d79) (v1:FnVal) (v4 v7 v8:Int) (p:List Nat:=[1,0,1,0]):Option d67:=zT EE R L 363 Go.Proofs.Tryz.f363 p (mk 19 [(0,.dat ⟨(.sl t16),v0,.sh⟩),(1,.dat ⟨.fn,v1,.sh⟩),(4,.dat ⟨(.int .i64),v4,.sh⟩),(7,.dat ⟨(.int .i64),v7,.sh⟩),(8,.dat ⟨(.int .i64),v8,.sh⟩)])
noncomputable def zK (v0:List d79) (v1:FnVal) (v4 v5 v7 v8:Int) (p:List Nat:=[1,0,1,0]):Option d67:=zT EE R L 363 Go.Proofs.Tryz.f363 p (mk 19 [(0,.dat ⟨(.sl t16),v0,.sh⟩),(1,.dat ⟨.fn,v1,.sh⟩),(4,.dat ⟨(.int .i64),v4,.sh⟩),(5,.dat ⟨(.int .i64),v5,.sh⟩),(7,.dat ⟨(.int .i64),v7,.sh⟩),(8,.dat ⟨(.int .i64),v8,.sh⟩)])
noncomputable def tU (v3:List Int) (v4:Int) (p:List Nat:=[1,1,0,1,0]):Option d93:=zT EE R L 356 Go.Proofs.Tryz.f356 p (mk 31 [(3,.dat ⟨t28,v3,(.own .sh)⟩),(4,.dat ⟨(.int .i64),v4,.sh⟩)])
noncomputable def tV (v3:List Int) (v5:Int) (p:List Nat:=[1,1,1,0,1,0]):Option d93:=zT EE R L 356 Go.Proofs.Tryz.f356 p (mk 31 [(3,.dat ⟨t28,v3,(.own .sh)⟩),(5,.dat ⟨(.int .i64),v5,.sh⟩)])
noncomputable def wS (v2 v3 v9:List Int) (v10 v11:Int) (p:List Nat:=[1,1,0,1,0]):Option d68:=zT EE R L 355 Go.Proofs.Tryz.f355 p (mk 40 [(2,.dat ⟨(.ptr t54),v2,(.own .sh)⟩),(3,.dat ⟨(.ptr t54),v3,(.own .sh)⟩),(9,.dat ⟨t28,v9,(.own .sh)⟩),(10,.dat ⟨(.int .i64),v10,.sh⟩),(11,.dat ⟨(.int .i64),v11,.sh⟩)])
noncomputable def vL (v2 v3:List Int) (v4 v5:Int) (v9:List Int) (v10 v11 v16:Int) (p:List Nat:=[1,1,0,1,0,0,1,1,0,0,1,1,0]):Option d68:=zT EE R L 355 Go.Proofs.Tryz.f355 p (mk 40 [(2,.dat ⟨(.ptr t54),v2,(.own .sh)⟩),(3,.dat ⟨(.ptr t54),v3,(.own .sh)⟩),(4,.dat ⟨(.int .i64),v4,.sh⟩),(5,.dat ⟨(.int .u8),v5,.sh⟩),(9,.dat ⟨t28,v9,(.own .sh)⟩),(10,.dat ⟨(.int .i64),v10,.sh⟩),(11,.dat ⟨(.int .i64),v11,.sh⟩),(16,.dat ⟨(.int .i64),v16,.sh⟩)])
noncomputable def uY (v1 v2:List Int) (v5:Int) (p:List Nat:=[1,0,1,0]):Option d68:=zT EE R L 379 Go.Proofs.Tryz.f379 p (mk 34 [(1,.dat ⟨(.ptr t54),v1,(.own .sh)⟩),(2,.dat ⟨(.ptr t54),v2,(.own .sh)⟩),(5,.dat ⟨(.int .i64),v5,.sh⟩)])
noncomputable def xO (v1 v2:List Int) (v3 v5 v7:Int) (p:List Nat:=[1,0,1,0,0,1,1,0,0,1,0,1,0]):Option d68:=zT EE R L 379 Go.Proofs.Tryz.f379 p (mk 34 [(1,.dat ⟨(.ptr t54),v1,(.own .sh)⟩),(2,.dat ⟨(.ptr t54),v2,(.own .sh)⟩),(3,.dat ⟨(.int .u64),v3,.sh⟩),(5,.dat ⟨(.int .i64),v5,.sh⟩),(7,.dat ⟨(.int .i64),v7,.sh⟩)])
noncomputable def uA (v2 v3 v4:List Int) (v6:Int) (p:List Nat:=[1,0,1,0]):Option d68:=zT EE R L 357 Go.Proofs.Tryz.f357 p (mk 20 [(2,.dat ⟨(.ptr t54),v2,(.own .sh)⟩),(3,.dat ⟨(.ptr t54),v3,(.own .sh)⟩),(4,.dat ⟨(.ptr t54),v4,(.own .sh)⟩),(6,.dat ⟨(.int .i64),v6,.sh⟩)])
noncomputable def xV (v3 v4 v5 v10:List Int) (v11:Int) (p:List Nat:=[1,1,0,1,0]):Option d68:=zT EE R L 358 Go.Proofs.Tryz.f358 p (mk 50 [(3,.dat ⟨(.ptr t54),v3,(.own .sh)⟩),(4,.dat ⟨(.ptr t54),v4,(.own .sh)⟩),(5,.dat ⟨(.ptr t54),v5,(.own .sh)⟩),(10,.dat ⟨t54,v10,.sh⟩),(11,.dat ⟨(.int .i64),v11,.sh⟩)])
noncomputable def xU (v3 v4 v5:List Int) (v6 v7:Int) (v10:List Int) (v11:Int) (v15:List Int) (v16:Int) (p:List Nat:=[1,1,0,1,0,0,1,1,0,0,1,1,0]):Option d68:=zT EE R L 358 Go.Proofs.Tryz.f358 p (mk 50 [(3,.dat ⟨(.ptr t54),v3,(.own .sh)⟩),(4,.dat ⟨(.ptr t54),v4,(.own .sh)⟩),(5,.dat ⟨(.ptr t54),v5,(.own .sh)⟩),(6,.dat ⟨(.int .i64),v6,.sh⟩),(7,.dat ⟨(.int .u64),v7,.sh⟩),(10,.dat ⟨t54,v10,.sh⟩),(11,.dat ⟨(.int .i64),v11,.sh⟩),(15,.dat ⟨t54,v15,.sh⟩),(16,.dat ⟨(.int .i64),v16,.sh⟩)])
noncomputable def xN (v1 v2 v3:List Int) (v4:Int) (p:List Nat:=[1,1,1,0,1,0]):Option d68:=zT EE R L 359 Go.Proofs.Tryz.f359 p (mk 41 [(1,.dat ⟨(.ptr t54),v1,(.own .sh)⟩),(2,.dat ⟨(.ptr t54),v2,(.own .sh)⟩),(3,.dat ⟨(.ptr t54),v3,(.own .sh)⟩),(4,.dat ⟨(.int .i64),v4,.sh⟩)])
noncomputable def zW (v1 v2 v3:List Int) (v28:Int) (p:List Nat:=[1,1,1,1,0,1,0]):Option d68:=zT EE R L 359 Go.Proofs.Tryz.f359 p (mk 41 [(1,.dat ⟨(.ptr t54),v1,(.own .sh)⟩),(2,.dat ⟨(.ptr t54),v2,(.own .sh)⟩),(3,.dat ⟨(.ptr t54),v3,(.own .sh)⟩),(28,.dat ⟨(.int .i64),v28,.sh⟩)])
noncomputable def xD (v1:List UInt8) (v2 v5:List Int) (v6 v13 v14:Int) (p:List Nat:=[1,1,1,0,1,0]):Option d93:=zT EE R L 360 Go.Proofs.Tryz.f360 p (mk 56 [(1,.dat ⟨.str,v1,.sh⟩),(2,.dat ⟨(.ptr t54),v2,(.own .sh)⟩),(5,.dat ⟨t28,v5,(.own .sh)⟩),(6,.dat ⟨(.int .i64),v6,.sh⟩),(13,.dat ⟨(.int .i64),v13,.sh⟩),(14,.dat ⟨(.int .i64),v14,.sh⟩)])
noncomputable def xW (v1:List UInt8) (v2 v5:List Int) (v6 v7 v8 v13 v14 v17:Int) (p:List Nat:=[1,1,1,0,1,0,0,1,1,0,0,1,1,0,1,0]):Option d93:=zT EE R L 360 Go.Proofs.Tryz.f360 p (mk 56 [(1,.dat ⟨.str,v1,.sh⟩),(2,.dat ⟨(.ptr t54),v2,(.own .sh)⟩),(5,.dat ⟨t28,v5,(.own .sh)⟩),(6,.dat ⟨(.int .i64),v6,.sh⟩),(7,.dat ⟨(.int .i64),v7,.sh⟩),(8,.dat ⟨(.int .i64),v8,.sh⟩),(13,.dat ⟨(.int .i64),v13,.sh⟩),(14,.dat ⟨(.int .i64),v14,.sh⟩),(17,.dat ⟨(.int .i64),v17,.sh⟩)])
noncomputable def iO (v0 v1:List UInt8) (v5 v6:List Int) (v7:Int) (p:List Nat:=[1,1,1,0,1,0]):Option d93:=zT EE R L 324 Go.Proofs.Tryz.f324 p (mk 36 [(0,.dat ⟨.str,v0,.sh⟩),(1,.dat ⟨.str,v1,.sh⟩),(5,.dat ⟨(.ptr t54),v5,(.own .sh)⟩),(6,.dat ⟨(.ptr t54),v6,(.own .sh)⟩),(7,.dat ⟨(.int .i64),v7,.sh⟩)])
noncomputable def tA (v0 v1:List (List UInt8)) (v4:Bool) (v5:Int) (p:List Nat:=[1,1,0,1,0]):Option d66:=zT EE R L 114 Go.Proofs.Tryz.f114 p (mk 26 [(0,.dat ⟨(.sl .str),v0,.sh⟩),(1,.dat ⟨(.sl .str),v1,.sh⟩),(4,.dat ⟨.bool,v4,.sh⟩),(5,.dat ⟨(.int .i64),v5,.sh⟩)])
noncomputable def oA (v0 v1:List d79) (v4:Bool) (v5:Int) (p:List Nat:=[1,1,0,1,0]):Option d66:=zT EE R L 115 Go.Proofs.Tryz.f115 p (mk 27 [(0,.dat ⟨(.sl t16),v0,.sh⟩),(1,.dat ⟨(.sl t16),v1,.sh⟩),(4,.dat ⟨.bool,v4,.sh⟩),(5,.dat ⟨(.int .i64),v5,.sh⟩)])
noncomputable def qJ (v0 v1:List Int) (v4:Bool) (v5:Int) (p:List Nat:=[1,1,0,1,0]):Option d66:=zT EE R L 14 Go.Proofs.Tryz.f14 p (mk 26 [(0,.dat ⟨t1,v0,.sh⟩),(1,.dat ⟨t1,v1,.sh⟩),(4,.dat ⟨.bool,v4,.sh⟩),(5,.dat ⟨(.int .i64),v5,.sh⟩)])
noncomputable def pD (v0:Int) (v2 v3:List UInt8) (p:List Nat:=[1,1,1,0,0]):Option d93:=zT EE R L 193 Go.Proofs.Tryz.f193 p (mk 20 [(0,.dat ⟨(.int .i64),v0,.sh⟩),(2,.dat ⟨.str,v2,.sh⟩),(3,.dat ⟨.str,v3,.sh⟩)])
noncomputable def vH (v0:List (List UInt8)) (v1 v4 v5:Int) (p:List Nat:=[1,0,1,0]):Option Bt9:=zT EE R L 117 Go.Proofs.Tryz.f117 p (mk 20 [(0,.dat ⟨(.sl .str),v0,(.pin 0 (.own .sh))⟩),(1,.dat ⟨(.int .i64),v1,.sh⟩),(4,.dat ⟨(.int .i64),v4,.sh⟩),(5,.dat ⟨(.int .i64),v5,.sh⟩)])
noncomputable def rN (v0:List d79) (v1 v4 v5:Int) (p:List Nat:=[1,0,1,0]):Option Bw0:=zT EE R L 118 Go.Proofs.Tryz.f118 p (mk 28 [(0,.dat ⟨(.sl t16),v0,(.pin 0 (.own .sh))⟩),(1,.dat ⟨(.int .i64),v1,.sh⟩),(4,.dat ⟨(.int .i64),v4,.sh⟩),(5,.dat ⟨(.int .i64),v5,.sh⟩)])
noncomputable def sG (v0:List Int) (v1 v4 v5:Int) (p:List Nat:=[1,0,1,0]):Option d75:=zT EE R L 15 Go.Proofs.Tryz.f15 p (mk 19 [(0,.dat ⟨t1,v0,(.pin 0 (.own .sh))⟩),(1,.dat ⟨(.int .i64),v1,.sh⟩),(4,.dat ⟨(.int .i64),v4,.sh⟩),(5,.dat ⟨(.int .i64),v5,.sh⟩)])
noncomputable def vD (v0:List (List UInt8)) (v1 v4 v5:Int) (p:List Nat:=[1,0,1,0]):Option d67:=zT EE R L 119 Go.Proofs.Tryz.f119 p (mk 22 [(0,.dat ⟨(.sl .str),v0,.sh⟩),(1,.dat ⟨(.int .i64),v1,.sh⟩),(4,.dat ⟨(.int .i64),v4,.sh⟩),(5,.dat ⟨(.int .i64),v5,.sh⟩)])
noncomputable def rM (v0:List d79) (v1 v4 v5:Int) (p:List Nat:=[1,0,1,0]):Option d67:=zT EE R L 120 Go.Proofs.Tryz.f120 p (mk 32 [(0,.dat ⟨(.sl t16),v0,.sh⟩),(1,.dat ⟨(.int .i64),v1,.sh⟩),(4,.dat ⟨(.int .i64),v4,.sh⟩),(5,.dat ⟨(.int .i64),v5,.sh⟩)])
noncomputable def qC (v0 v3:List (List UInt8)) (v4:Int) (p:List Nat:=[1,1,0,1,0]):Option d96:=zT EE R L 251 Go.Proofs.Tryz.f251 p (mk 22 [(0,.dat ⟨(.sl .str),v0,.sh⟩),(3,.dat ⟨(.sl .str),v3,(.own .sh)⟩),(4,.dat ⟨(.int .i64),v4,.sh⟩)])
noncomputable def pP (v0 v3:List (List UInt8)) (v4:Int) (p:List Nat:=[1,1,0,1,0]):Option d96:=zT EE R L 252 Go.Proofs.Tryz.f252 p (mk 27 [(0,.dat ⟨(.sl .str),v0,.sh⟩),(3,.dat ⟨(.sl .str),v3,(.own .sh)⟩),(4,.dat ⟨(.int .i64),v4,.sh⟩)])
noncomputable def qR (v3:List (List UInt8)) (p:List Nat:=[1,1,0,0]):Option d93:=zT EE R L 182 Go.Proofs.Tryz.f182 p (mk 14 [(3,.dat ⟨(.sl .str),v3,(.own .sh)⟩)])
noncomputable def kH (v3 v9:List (List UInt8)) (v10 v11:Int) (p:List Nat:=[1,1,0,1,0]):Option Bp6:=zT EE R L 191 Go.Proofs.Tryz.f191 p (mk 53 [(3,.dat ⟨(.sl .str),v3,(.own .sh)⟩),(9,.dat ⟨(.sl .str),v9,.sh⟩),(10,.dat ⟨(.int .i64),v10,.sh⟩),(11,.dat ⟨(.int .i64),v11,.sh⟩)])
noncomputable def qV (v3:List (List UInt8)) (v6:List (List (List UInt8))) (p:List Nat:=[1,1,1,1,0,0]):Option Bp6:=zT EE R L 191 Go.Proofs.Tryz.f191 p (mk 53 [(3,.dat ⟨(.sl .str),v3,.sh⟩),(6,.dat ⟨t61,v6,(.own .sh)⟩)])
noncomputable def iM (v3:List (List UInt8)) (v6:List (List (List UInt8))) (v7:List (List UInt8)) (v8:Int) (p:List Nat:=[1,1,1,1,0,0,0,1,0,1,0,1,0]):Option Bp6:=zT EE R L 191 Go.Proofs.Tryz.f191 p (mk 53 [(3,.dat ⟨(.sl .str),v3,.sh⟩),(6,.dat ⟨t61,v6,(.own .sh)⟩),(7,.dat ⟨(.sl .str),v7,(.own .sh)⟩),(8,.dat ⟨(.int .i64),v8,.sh⟩)])
noncomputable def tC (v0 v1:List d75) (v4:Bool) (v5:Int) (p:List Nat:=[1,1,0,1,0]):Option d66:=zT EE R L 37 Go.Proofs.Tryz.f37 p (mk 27 [(0,.dat ⟨(.sl t12),v0,.sh⟩),(1,.dat ⟨(.sl t12),v1,.sh⟩),(4,.dat ⟨.bool,v4,.sh⟩),(5,.dat ⟨(.int .i64),v5,.sh⟩)])
noncomputable def vB (v0:List d75) (v1 v4 v5:Int) (p:List Nat:=[1,0,1,0]):Option Bv1:=zT EE R L 38 Go.Proofs.Tryz.f38 p (mk 27 [(0,.dat ⟨(.sl t12),v0,(.pin 0 (.own (.pr .sh (.pr (.own .sh) .sh))))⟩),(1,.dat ⟨(.int .i64),v1,.sh⟩),(4,.dat ⟨(.int .i64),v4,.sh⟩),(5,.dat ⟨(.int .i64),v5,.sh⟩)])
noncomputable def sH (v0:List Int) (v1 v4 v5:Int) (p:List Nat:=[1,0,1,0]):Option d67:=zT EE R L 89 Go.Proofs.Tryz.f89 p (mk 21 [(0,.dat ⟨t1,v0,.sh⟩),(1,.dat ⟨(.int .i64),v1,.sh⟩),(4,.dat ⟨(.int .i64),v4,.sh⟩),(5,.dat ⟨(.int .i64),v5,.sh⟩)])
noncomputable def vF (v0:List d75) (v1 v4 v5:Int) (p:List Nat:=[1,0,1,0]):Option d67:=zT EE R L 39 Go.Proofs.Tryz.f39 p (mk 31 [(0,.dat ⟨(.sl t12),v0,.sh⟩),(1,.dat ⟨(.int .i64),v1,.sh⟩),(4,.dat ⟨(.int .i64),v4,.sh⟩),(5,.dat ⟨(.int .i64),v5,.sh⟩)])
noncomputable def lR (v1:Int) (v2:d80) (v5:Int) (p:List Nat:=[1,0,1,0]):Option d93:=zT EE R L 215 Go.Proofs.Tryz.f215 p (mk 33 [(1,.dat ⟨(.int .i64),v1,.sh⟩),(2,.dat ⟨(.ptr t17),v2,(.own .sh)⟩),(5,.dat ⟨(.int .i64),v5,.sh⟩)])
noncomputable def pM (v0 v1:List UInt8) (v5 v6:Int) (p:List Nat:=[1,1,1,0,1,0]):Option d66:=zT EE R L 326 Go.Proofs.Tryz.f326 p (mk 46 [(0,.dat ⟨.str,v0,.sh⟩),(1,.dat ⟨.str,v1,.sh⟩),(5,.dat ⟨(.int .i64),v5,.sh⟩),(6,.dat ⟨(.int .i64),v6,.sh⟩)])
noncomputable def qG (v0:List UInt8) (v4:List Int) (v5:Int) (p:List Nat:=[1,1,0,1,0]):Option Bv6:=zT EE R L 327 Go.Proofs.Tryz.f327 p (mk 25 [(0,.dat ⟨.str,v0,.sh⟩),(4,.dat ⟨t1,v4,(.own .sh)⟩),(5,.dat ⟨(.int .i64),v5,.sh⟩)])
noncomputable def oB (v0:List Int) (v1 v5:Int) (p:List Nat:=[1,0,1,0]):Option d66:=zT EE R L 284 Go.Proofs.Tryz.f284 p (mk 18 [(0,.dat ⟨t1,v0,.sh⟩),(1,.dat ⟨(.int .i64),v1,.sh⟩),(5,.dat ⟨(.int .i64),v5,.sh⟩)])
noncomputable def lS (v3:List Int) (v4:Int) (p:List Nat:=[1,1,1,0]):Option d68:=zT EE R L 362 Go.Proofs.Tryz.f362 p (mk 18 [(3,.dat ⟨t1,v3,(.own .sh)⟩),(4,.dat ⟨(.int .i64),v4,.sh⟩)])
noncomputable def oD (v0:Int) (v5:List Int) (v6:Int) (p:List Nat:=[1,1,0,1,0]):Option d66:=zT EE R L 329 Go.Proofs.Tryz.f329 p (mk 21 [(0,.dat ⟨(.int .i64),v0,.sh⟩),(5,.dat ⟨t1,v5,(.own .sh)⟩),(6,.dat ⟨(.int .i64),v6,.sh⟩)])
noncomputable def lB (v1:d71) (v3:List Int) (v4:Int) (p:List Nat:=[1,1,1,0,1,0]):Option d66:=zT EE R L 283 Go.Proofs.Tryz.f283 p (mk 102 [(1,.dat ⟨(.ptr t8),v1,(.own .sh)⟩),(3,.dat ⟨t1,v3,(.own .sh)⟩),(4,.dat ⟨(.int .i64),v4,.sh⟩)])
noncomputable def oP (v1:d71) (v3:List Int) (v5:Int) (p:List Nat:=[1,1,1,1,0,1,0]):Option d66:=zT EE R L 283 Go.Proofs.Tryz.f283 p (mk 102 [(1,.dat ⟨(.ptr t8),v1,(.own .sh)⟩),(3,.dat ⟨t1,v3,(.own .sh)⟩),(5,.dat ⟨(.int .i64),v5,.sh⟩)])
noncomputable def mX (v1:d71) (v3:List Int) (v5 v6:Int) (p:List Nat:=[1,1,1,1,0,1,0,0,1,0,0,1,1,0]):Option d66:=zT EE R L 283 Go.Proofs.Tryz.f283 p (mk 102 [(1,.dat ⟨(.ptr t8),v1,(.own .sh)⟩),(3,.dat ⟨t1,v3,(.own .sh)⟩),(5,.dat ⟨(.int .i64),v5,.sh⟩),(6,.dat ⟨(.int .i64),v6,.sh⟩)])
noncomputable def oE (v1:d74) (v3:Int) (p:List Nat:=[1,1,0,1,0]):Option d66:=zT EE R L 219 Go.Proofs.Tryz.f219 p (mk 48 [(1,.dat ⟨(.ptr t11),v1,(.own .sh)⟩),(3,.dat ⟨(.int .i64),v3,.sh⟩)])
noncomputable def xT (v0 v1:d75) (v2:Bool) (v3:Int) (p:List Nat:=[1,1,0,1,0]):Option d66:=zT EE R L 231 Go.Proofs.Tryz.f231 p (mk 39 [(0,.dat ⟨t12,v0,.sh⟩),(1,.dat ⟨(.ptr t12),v1,(.own .sh)⟩),(2,.dat ⟨.bool,v2,.sh⟩),(3,.dat ⟨(.int .i64),v3,.sh⟩)])
noncomputable def vY (v0:List d75) (v2:Bool) (v3:Int) (p:List Nat:=[1,0,1,0]):Option d66:=zT EE R L 165 Go.Proofs.Tryz.f165 p (mk 19 [(0,.dat ⟨(.sl t12),v0,.sh⟩),(2,.dat ⟨.bool,v2,.sh⟩),(3,.dat ⟨(.int .i64),v3,.sh⟩)])
noncomputable def uZ (v0:List d69) (v3:Int) (p:List Nat:=[1,0,1,0]):Option d66:=zT EE R L 282 Go.Proofs.Tryz.f282 p (mk 34 [(0,.dat ⟨(.sl t4),v0,.sh⟩),(3,.dat ⟨(.int .i64),v3,.sh⟩)])
noncomputable def pJ (v0:List UInt8) (v3:List Int) (v4:Int) (p:List Nat:=[1,1,0,1,0]):Option d68:=zT EE R L 289 Go.Proofs.Tryz.f289 p (mk 20 [(0,.dat ⟨.str,v0,.sh⟩),(3,.dat ⟨t1,v3,(.own .sh)⟩),(4,.dat ⟨(.int .i64),v4,.sh⟩)])
noncomputable def wC (v0:List d75) (v1:FnVal) (v4 v7 v8:Int) (p:List Nat:=[1,0,1,0]):Option d67:=zT EE R L 338 Go.Proofs.Tryz.f338 p (mk 19 [(0,.dat ⟨(.sl t12),v0,.sh⟩),(1,.dat ⟨.fn,v1,.sh⟩),(4,.dat ⟨(.int .i64),v4,.sh⟩),(7,.dat ⟨(.int .i64),v7,.sh⟩),(8,.dat ⟨(.int .i64),v8,.sh⟩)])
noncomputable def zE (v0:List d75) (v1:FnVal) (v4 v5 v7 v8:Int) (p:List Nat:=[1,0,1,0]):Option d67:=zT EE R L 338 Go.Proofs.Tryz.f338 p (mk 19 [(0,.dat ⟨(.sl t12),v0,.sh⟩),(1,.dat ⟨.fn,v1,.sh⟩),(4,.dat ⟨(.int .i64),v4,.sh⟩),(5,.dat ⟨(.int .i64),v5,.sh⟩),(7,.dat ⟨(.int .i64),v7,.sh⟩),(8,.dat ⟨(.int .i64),v8,.sh⟩)])
theorem A7E (x0 x1 x2 : Int) : @Eq _ (sQ (zD EE R L) x0 x1 x2) (cond (decide (x1 ≤ x0))
 (some (decide (x0 ≤ x2), ()))
 (some (false, ()))) := by kernel_rfl
theorem A95 (x0 : Int) : @Eq _ (An6 (zD EE R L) x0) ((sQ R x0 1 9999).bind fun r0 =>
 some (r0.1, ())) := by kernel_rfl
theorem Aa6 (x0 : Int) (x1 : FnVal) : @Eq _ (hJ (zD EE R L) x0 x1) ((uC EE R x1 [⟨(.int .i64), (x0 : Int)⟩]).bind fun (r0 : Bool) =>
 some (!r0, ())) := by kernel_rfl
theorem fE (x0:List Int) (x1:FnVal):@Eq _ (vQ (zD EE R L) x0 x1) (tG R L x0 x1 0 (x0.length:Int) 0):=by kernel_rfl
theorem iJ (v0 : List Int) (v1 : FnVal) (v4 v7 v8 : Int) : @Eq _ (tG R L v0 v1 v4 v7 v8 ([1, 0, 1, 0] ++ [0])) (cond (decide (v8 < v7))
 (cond (zA v8)
 (cond (Nat.blt v8.toNat v0.length)
 ((uC EE R v1 [⟨(.int .i64), (v0.getD v8.toNat 0 : Int)⟩]).bind fun (r0 : Bool) =>
 cond r0
 (some (v8, ()))
 (zN R L v0 v1 v4 v8 v7 (IntKind.wrap .i64 (v8 + 1))))
 none)
 none)
 (some (-1, ()))) := by kernel_rfl
theorem tS (v0 : List Int) (v1 : FnVal) (v4 v5 v7 v8 : Int) : @Eq _ (zN R L v0 v1 v4 v5 v7 v8 ([1, 0, 1, 0] ++ [0])) (cond (decide (v8 < v7))
 (cond (zA v8)
 (cond (Nat.blt v8.toNat v0.length)
 ((uC EE R v1 [⟨(.int .i64), (v0.getD v8.toNat 0 : Int)⟩]).bind fun (r0 : Bool) =>
 cond r0
 (some (v8, ()))
 (zN R L v0 v1 v4 v8 v7 (IntKind.wrap .i64 (v8 + 1))))
 none)
 none)
 (some (-1, ()))) := by kernel_rfl
theorem iD (x0 : List Int) (x1 : FnVal) : @Eq _ (wL (zD EE R L) x0 x1) ((vQ R x0 x1).bind fun r0 =>
 some (decide (0 ≤ r0.1), ())) := by kernel_rfl
theorem Ap3 (x0 : List Int) (x1 : FnVal) : @Eq _ (uS (zD EE R L) x0 x1) ((wL R x0 (FnVal.mk (268 : Nat) (FCaps.fn x1 FCaps.nil))).bind fun r0 =>
 some (!r0.1, ())) := by kernel_rfl
theorem A0X (x0 : Int) : @Eq _ (kR (zD EE R L) x0) ((sQ R x0 0 7).bind fun r0 =>
 some (r0.1, ())) := by kernel_rfl
theorem A7u (x0:Int):@Eq _ (AM4 (zD EE R L) x0) (jC R L [] (IntKind.wrap .i64 (7 + x0))):=by kernel_rfl
theorem A2G (v3 : List Int) (v4 : Int) : @Eq _ (jC R L v3 v4 ([1, 1, 1, 0] ++ [0])) (cond (yT (v3.length + ([v4]).length))
 (cond (eqI v4 0)
 ((mP R (v3 ++ [v4])).bind fun r0 =>
 some (r0.1, ()))
 (jC R L (v3 ++ [v4]) (IntKind.wrap .i64 (Int.tdiv (IntKind.wrap .i64 (v4 - 1)) 2))))
 none) := by kernel_rfl
theorem bD (x0:List Int) (x1:Int):@Eq _ (tZ (zD EE R L) x0 x1) (xI R L x0 x1 (x0.length:Int) 0):=by kernel_rfl
theorem mF (v0 : List Int) (v1 v7 v8 : Int) : @Eq _ (xI R L v0 v1 v7 v8 ([1, 0, 1, 0] ++ [0])) (cond (decide (v8 < v7))
 (cond (zA v8)
 (cond (Nat.blt v8.toNat v0.length)
 (cond (eqI v1 (v0.getD v8.toNat 0))
 (some (v8, ()))
 (xI R L v0 v1 v7 (IntKind.wrap .i64 (v8 + 1))))
 none)
 none)
 (some (-1, ()))) := by kernel_rfl
theorem eF (x0 : List Int) (x1 : Int) : @Eq _ (rD (zD EE R L) x0 x1) ((tZ R x0 x1).bind fun r0 =>
 some (decide (0 ≤ r0.1), ())) := by kernel_rfl
theorem A18 (x0 x1 : Int) : @Eq _ (gW (zD EE R L) x0 x1) ((AM4 R x1).bind fun r0 =>
 (rD R r0.1 x0).bind fun r1 =>
 some (r1.1, ())) := by kernel_rfl
theorem A4q (x0 : d69) (x1 : Int) : @Eq _ (AT0 (zD EE R L) x0 x1) ((kR R x0.2.1).bind fun r0 =>
 cond r0.1
 ((gW R x1 x0.2.1).bind fun r1 =>
 some (r1.1, ()))
 (some (false, ()))) := by kernel_rfl
theorem AH2 (x0 : d69) (x1 : FnVal) : @Eq _ (nZ (zD EE R L) x0 x1) ((uC EE R x1 [⟨t4, (x0 : d69)⟩]).bind fun (r0 : Bool) =>
 some (!r0, ())) := by kernel_rfl
theorem lO (x0:List d69) (x1:FnVal):@Eq _ (xM (zD EE R L) x0 x1) (zH R L x0 x1 (x0.length:Int) 0):=by kernel_rfl
theorem sI (v0 : List d69) (v1 : FnVal) (v7 v8 : Int) : @Eq _ (zH R L v0 v1 v7 v8 ([1, 0, 1, 0] ++ [0])) (cond (decide (v8 < v7))
 (cond (zA v8)
 (cond (Nat.blt v8.toNat v0.length)
 ((uC EE R v1 [⟨t4, (v0.getD v8.toNat (0, (0, (0, ()))) : d69)⟩]).bind fun (r0 : Bool) =>
 cond r0
 (some (v8, ()))
 (zH R L v0 v1 v7 (IntKind.wrap .i64 (v8 + 1))))
 none)
 none)
 (some (-1, ()))) := by kernel_rfl
theorem nP (x0 : List d69) (x1 : FnVal) : @Eq _ (yZ (zD EE R L) x0 x1) ((xM R x0 x1).bind fun r0 =>
 some (decide (0 ≤ r0.1), ())) := by kernel_rfl
theorem AS1 (x0 : List d69) (x1 : FnVal) : @Eq _ (oN (zD EE R L) x0 x1) ((yZ R x0 (FnVal.mk (334 : Nat) (FCaps.fn x1 FCaps.nil))).bind fun r0 =>
 some (!r0.1, ())) := by kernel_rfl
theorem iB (x0 : List d69) : @Eq _ (wI (zD EE R L) x0) (cond (Nat.beq x0.length 0)
 (A3L
 (some ([], ()))
 (cond (yT (([] : List d69).length + x0.length))
 (some ([] ++ x0, ()))
 none))
 (cond (yT (([] : List d69).length + x0.length))
 (some ([] ++ x0, ()))
 none)) := by kernel_rfl
theorem A3d (x0 : d71) : @Eq _ (cV (zD EE R L) x0) ((wI R x0.2.1).bind fun r0 =>
 (rZ R x0.2.2.1).bind fun r1 =>
 cond (yT (r0.1.length + r1.1.length))
 (some (r0.1 ++ r1.1, ()))
 none) := by kernel_rfl
theorem BQ3 (x0 : Int) : @Eq _ (Aj7 (zD EE R L) x0) ((sQ R x0 0 11).bind fun r0 =>
 some (r0.1, ())) := by kernel_rfl
theorem A5N (x0 : Int) : @Eq _ (dE (zD EE R L) x0) ((sQ R x0 0 999999).bind fun r0 =>
 some (r0.1, ())) := by kernel_rfl
theorem A5j (x0 : d69) : @Eq _ (AA1 (zD EE R L) x0) ((Aj7 R x0.1).bind fun r0 =>
 cond r0.1
 ((kR R x0.2.1).bind fun r1 =>
 cond r1.1
 ((dE R x0.2.2.1).bind fun r2 =>
 some (r2.1, ()))
 (some (false, ())))
 (some (false, ()))) := by kernel_rfl
theorem A7H (x0 : d71) : @Eq _ (Aa9 (zD EE R L) x0) (cond (!(eqI (x0.1.length : Int) 12))
 (some (false, ()))
 ((uS R x0.1 (FnVal.mk (205 : Nat) FCaps.nil)).bind fun r0 =>
 cond (!r0.1)
 (some (false, ()))
 (cond (!(eqI (x0.2.2.1.length : Int) 15))
 (some (false, ()))
 (oH R L x0 x0.2.2.1 (x0.2.2.1.length : Int) 0)))) := by kernel_rfl
theorem Af8 (v1 : d71) (v25 : List (List d69)) (v26 v27 : Int) : @Eq _ (oH R L v1 v25 v26 v27 ([1, 1, 0, 1, 0] ++ [0])) (cond (decide (v27 < v26))
 (cond (zA v27)
 (cond (Nat.blt v27.toNat v25.length)
 (cond (decide (2 < ((v25.getD v27.toNat []).length : Int)))
 (some (false, ()))
 ((oN R (v25.getD v27.toNat []) (FnVal.mk (292 : Nat) (FCaps.int .i64 v27 FCaps.nil))).bind fun r0 =>
 cond (!r0.1)
 (some (false, ()))
 (oH R L v1 v25 v26 (IntKind.wrap .i64 (v27 + 1)))))
 none)
 none)
 ((cV R v1).bind fun r0 =>
 lG R L v1 (List.replicate 12 false) r0.1 (r0.1.length : Int) 0)) := by kernel_rfl
theorem Af9 (v1 : d71) (v5 : List Bool) (v43 : List d69) (v44 v45 : Int) : @Eq _ (lG R L v1 v5 v43 v44 v45 ([1, 1, 1, 1, 0, 1, 0] ++ [0])) (cond (decide (v45 < v44))
 (cond (zA v45)
 (cond (Nat.blt v45.toNat v43.length)
 ((AA1 R (v43.getD v45.toNat (0, (0, (0, ()))))).bind fun r0 =>
 cond (!r0.1)
 (some (false, ()))
 (cond (zA (v43.getD v45.toNat (0, (0, (0, ())))).1)
 (cond (Nat.blt (v43.getD v45.toNat (0, (0, (0, ())))).1.toNat v1.1.length)
 (cond (!(eqI (v43.getD v45.toNat (0, (0, (0, ())))).2.1 (v1.1.getD (v43.getD v45.toNat (0, (0, (0, ())))).1.toNat 0)))
 (some (false, ()))
 (cond (zA (v43.getD v45.toNat (0, (0, (0, ())))).1)
 (cond (Nat.blt (v43.getD v45.toNat (0, (0, (0, ())))).1.toNat 12)
 (cond (v5.getD (v43.getD v45.toNat (0, (0, (0, ())))).1.toNat false)
 (some (false, ()))
 (cond (zA (v43.getD v45.toNat (0, (0, (0, ())))).1)
 (cond (Nat.blt (v43.getD v45.toNat (0, (0, (0, ())))).1.toNat 12)
 (lG R L v1 (v5.set (v43.getD v45.toNat (0, (0, (0, ())))).1.toNat true) v43 v44 (IntKind.wrap .i64 (v45 + 1)))
 none)
 none))
 none)
 none))
 none)
 none))
 none)
 none)
 (some (true, ()))) := by kernel_rfl
theorem AJ4 (x0:Int):@Eq _ (mL (zD EE R L) x0) (some (eqI x0 0,())):=by kernel_rfl
theorem AS7 (x0 : d72) : @Eq _ (rS (zD EE R L) x0) (cond (!x0.2.2.1)
 (cond (zA x0.2.1)
 (cond (Nat.ble x0.1.length x0.1.length)
 (cond (Nat.ble x0.2.1.toNat x0.1.length)
 ((uS R (List.drop x0.2.1.toNat (List.take x0.1.length x0.1)) (FnVal.mk (290 : Nat) FCaps.nil)).bind fun r0 =>
 some (r0.1, (x0, ())))
 none)
 none)
 none)
 (some (false, (x0, ())))) := by kernel_rfl
theorem A0r (x0 : List UInt8) : @Eq _ (eB (zD EE R L) x0) ((mI R x0 140).bind fun r0 =>
 (xL R r0.1 12 0 7).bind fun r1 =>
 (wO R r1.2.1 12).bind fun r2 =>
 (xL R r2.2.1 11 0 9999).bind fun r3 =>
 (yP R r3.2.1 0 2).bind fun r4 =>
 qD R L ([], (([], ([], ([], ()))), ())) r4.2.1 (r3.1, ((r1.1, (r2.1, (List.replicate (15 : Int).toNat [], ()))), ())) [] r4.1 0) := by kernel_rfl
theorem AG1 (v2 : d74) (v5 : d72) (v7 : d74) (v8 : List d75) (v23 v24 : Int) : @Eq _ (qD R L v2 v5 v7 v8 v23 v24 ([1, 1, 1, 1, 1, 0, 1, 0] ++ [0])) (cond (decide (v24 < v23))
 ((yP R v5 0 19).bind fun r0 =>
 (yP R r0.2.1 0 32).bind fun r1 =>
 (xL R r1.2.1 r1.1 0 999999).bind fun r2 =>
 cond (yT (v8.length + ([(r0.1, (r2.1, ()))]).length))
 (qD R L v2 r2.2.1 v7 (v8 ++ [(r0.1, (r2.1, ()))]) v23 (IntKind.wrap .i64 (v24 + 1)))
 none)
 ((rS R v5).bind fun r0 =>
 cond (!r0.1)
 (some (([], (([], ([], ([], ()))), ())), ([], (false, ()))))
 ((At1 R v7).bind fun r1 =>
 cond (!r1.1)
 (some (([], (([], ([], ([], ()))), ())), ([], (false, ()))))
 ((gO R v8).bind fun r2 =>
 cond (!r2.1)
 (some (([], (([], ([], ([], ()))), ())), ([], (false, ()))))
 (some (v7, (v8, (true, ())))))))) := by kernel_rfl
theorem At9 (x0 : List UInt8) : @Eq _ (gN (zD EE R L) x0) ((mI R x0 7).bind fun r0 =>
 (wO R r0.1 2).bind fun r1 =>
 (rS R r1.2.1).bind fun r2 =>
 some (r1.1, (r2.1, ()))) := by kernel_rfl
theorem At3 (x0 : d81) : @Eq _ (jY (zD EE R L) x0) ((lE R x0).bind fun r0 =>
 (Ak7 R r0.1).bind fun r1 =>
 cond (!(eqS r1.1 x0.2.1.2.2.2.2.2.2.1))
 (some (([], (([], ([], ([], ()))), ())), ([], (false, ()))))
 (cond (Nat.blt (0 : Int).toNat r0.1.length)
 ((hM R x0.1 1 (IntKind.wrap .i64 (16 * x0.2.1.2.1)) x0.2.1.1 (r0.1.getD (0 : Int).toNat [])).bind fun r2 =>
 (eB R r2.1).bind fun r3 =>
 cond (!r2.2.1)
 (some (([], (([], ([], ([], ()))), ())), ([], (false, ()))))
 (cond (!r3.2.2.1)
 (some (([], (([], ([], ([], ()))), ())), ([], (false, ()))))
 (sM R L x0 ([], (([], ([], ([], ()))), ())) r0.1 (IntKind.wrap .i64 (16 * x0.2.1.2.1)) r3.1 r3.2.1 (r3.1.2.1.2.2.1.length : Int) 0)))
 none)) := by kernel_rfl
theorem aM (v1 : d81) (v2 : d74) (v5 : List (List UInt8)) (v6 : Int) (v9 : d74) (v10 : List d75) (v59 v60 : Int) : @Eq _ (sM R L v1 v2 v5 v6 v9 v10 v59 v60 ([1, 1, 1, 1, 1, 1, 1, 0, 1, 0] ++ [0])) (cond (decide (v60 < v59))
 (cond (zA (IntKind.wrap .i64 (1 + v60)))
 (cond (Nat.blt (IntKind.wrap .i64 (1 + v60)).toNat v5.length)
 ((hM R v1.1 2 (IntKind.wrap .i64 ((IntKind.wrap .i64 (v6 + 1)) + v60)) v1.2.1.1 (v5.getD (IntKind.wrap .i64 (1 + v60)).toNat [])).bind fun r0 =>
 (gN R r0.1).bind fun r1 =>
 cond (!r0.2.1)
 (some (([], (([], ([], ([], ()))), ())), ([], (false, ()))))
 (cond (!r1.2.1)
 (some (([], (([], ([], ([], ()))), ())), ([], (false, ()))))
 (cond (zA v60)
 (cond (Nat.blt v60.toNat v9.2.1.2.2.1.length)
 (sM R L v1 v2 v5 v6 (v9.1, ((v9.2.1.1, (v9.2.1.2.1, (v9.2.1.2.2.1.set v60.toNat r1.1, v9.2.1.2.2.2))), v9.2.2)) v10 v59 (IntKind.wrap .i64 (v60 + 1)))
 none)
 none)))
 none)
 none)
 ((At1 R v9).bind fun r0 =>
 some (v9, (v10, (r0.1, ()))))) := by kernel_rfl
theorem As5 (x0 : d81) : @Eq _ (mA (zD EE R L) x0) ((AB2 R x0).bind fun r0 =>
 cond (!r0.1)
 (some (([], ((0, (0, (0, (0, ([], ([], ([], ()))))))), (([], ([], ())), (false, (false, ()))))), ([], (1, ()))))
 ((lZ R x0).bind fun r1 =>
 cond (!(eqI r1.1 0))
 ((mV R x0).bind fun r2 =>
 some (r2.1, ([], (r1.1, ()))))
 ((jY R x0).bind fun r2 =>
 cond (!r2.2.2.1)
 ((kC R x0).bind fun r3 =>
 some (r3.1, ([], (10, ()))))
 ((mV R x0).bind fun r3 =>
 some (r3.1, (r2.2.1, (0, ()))))))) := by kernel_rfl
theorem AE8 (x0 : d81) : @Eq _ (nC (zD EE R L) x0) ((AB7 R x0 1048576).bind fun r0 =>
 cond (decide (r0.1 < 0))
 (some (true, ()))
 ((kM R x0).bind fun r1 =>
 (jR R r1.1).bind fun r2 =>
 (kM R x0).bind fun r3 =>
 (mA R r3.1).bind fun r4 =>
 (kF R r4.1 r2.1).bind fun r5 =>
 cond (!r5.1)
 (some (false, ()))
 ((lI R r4.2.1 r2.2.1).bind fun r6 =>
 cond (!r6.1)
 (some (false, ()))
 (cond (!(eqI r4.2.2.1 r2.2.2.1))
 (some (false, ()))
 ((kM R x0).bind fun r7 =>
 (kF R r3.1 r7.1).bind fun r8 =>
 cond (!r8.1)
 (some (false, ()))
 ((qH R r3.1 1).bind fun r9 =>
 cond (decide (r9.1 < 0))
 (some (false, ()))
 ((kF R r4.1 r2.1).bind fun r10 =>
 cond (!r10.1)
 (some (false, ()))
 ((lI R r4.2.1 r2.2.1).bind fun r11 =>
 cond (!r11.1)
 (some (false, ()))
 (cond (!(eqI r4.2.2.1 r2.2.2.1))
 (some (false, ()))
 ((qH R r4.1 1).bind fun r12 =>
 (mM R r4.2.1 r12.1).bind fun r13 =>
 (oJ R r12.2.1 1).bind fun r14 =>
 cond (decide (r14.1 < 0))
 (some (false, ()))
 ((pL R r13.2.1 r14.1).bind fun r15 =>
 cond (decide (r15.1 < 0))
 (some (false, ()))
 (cond (!(eqI r15.1 r13.1))
 (some (false, ()))
 ((kM R x0).bind fun r16 =>
 (mA R r16.1).bind fun r17 =>
 (kF R r17.1 r2.1).bind fun r18 =>
 cond (!r18.1)
 (some (false, ()))
 ((lI R r17.2.1 r2.2.1).bind fun r19 =>
 cond (!r19.1)
 (some (false, ()))
 (cond (!(eqI r17.2.2.1 r2.2.2.1))
 (some (false, ()))
 ((oJ R r12.2.1 1).bind fun r20 =>
 cond (decide (r20.1 < 0))
 (some (false, ()))
 ((pL R r13.2.1 r20.1).bind fun r21 =>
 cond (decide (r21.1 < 0))
 (some (false, ()))
 (cond (!(eqI r21.1 r13.1))
 (some (false, ()))
 (some (true, ())))))))))))))))))))) := by kernel_rfl
theorem Aw2 (x0 : List UInt8) : @Eq _ (gF (zD EE R L) x0) ((kG R x0 140).bind fun r0 =>
 (AL0 R []).bind fun r1 =>
 wF R L ([], (([], ([], ([], ()))), ())) r0.1 ([], (r1.1, ())) 0) := by kernel_rfl
theorem AE0 (v2 : d74) (v5 : d87) (v6 : d74) (v7 : Int) : @Eq _ (wF R L v2 v5 v6 v7 ([1, 1, 1, 0, 1, 0] ++ [0])) (cond (decide (v7 < 12))
 ((zO R v5).bind fun r0 =>
 cond (yT (v6.2.1.1.length + ([r0.1]).length))
 (wF R L v2 r0.2.1 (v6.1, ((v6.2.1.1 ++ [r0.1], v6.2.1.2), v6.2.2)) (IntKind.wrap .i64 (v7 + 1)))
 none)
 ((yR R v5 12).bind fun r0 =>
 uB R L v2 r0.2.1 v6 r0.1)) := by kernel_rfl
theorem AD6 (v2 : d74) (v5 : d87) (v6 : d74) (v8 : Int) : @Eq _ (uB R L v2 v5 v6 v8 ([1, 1, 1, 1, 0, 1, 0] ++ [0])) (cond (decide (0 < v8))
 ((zO R v5).bind fun r0 =>
 (zO R r0.2.1).bind fun r1 =>
 (zO R r1.2.1).bind fun r2 =>
 cond (yT (v6.2.1.2.1.length + ([(r0.1, (r1.1, (r2.1, ())))]).length))
 (uB R L v2 r2.2.1 (v6.1, ((v6.2.1.1, (v6.2.1.2.1 ++ [(r0.1, (r1.1, (r2.1, ())))], v6.2.1.2.2)), v6.2.2)) (IntKind.wrap .i64 (v8 - 1)))
 none)
 (yO R L v2 v5 v6 0)) := by kernel_rfl
theorem AE4 (v2 : d74) (v5 : d87) (v6 : d74) (v10 : Int) : @Eq _ (yO R L v2 v5 v6 v10 ([1, 1, 1, 1, 1, 0, 1, 0] ++ [0])) (cond (decide (v10 < 11))
 ((zO R v5).bind fun r0 =>
 cond (yT (v6.1.length + ([r0.1]).length))
 (yO R L v2 r0.2.1 (v6.1 ++ [r0.1], v6.2) (IntKind.wrap .i64 (v10 + 1)))
 none)
 ((yR R v5 2).bind fun r0 =>
 tN R L v2 r0.2.1 v6 [] r0.1)) := by kernel_rfl
theorem AD7 (v2 : d74) (v5 : d87) (v6 : d74) (v11 : List d75) (v12 : Int) : @Eq _ (tN R L v2 v5 v6 v11 v12 ([1, 1, 1, 1, 1, 1, 1, 0, 1, 0] ++ [0])) (cond (decide (0 < v12))
 ((zO R v5).bind fun r0 =>
 (yR R r0.2.1 32).bind fun r1 =>
 vX R L v2 r1.2.1 v6 v11 v12 (r0.1, ([], ())) r1.1)
 ((tI R v5).bind fun r0 =>
 cond r0.1
 ((AI0 R v6).bind fun r1 =>
 cond r1.1
 ((gG R v11).bind fun r2 =>
 some (v6, (v11, (r2.1, ()))))
 (some (v6, (v11, (false, ())))))
 (some (v6, (v11, (false, ())))))) := by kernel_rfl
theorem AE3 (v2 : d74) (v5 : d87) (v6 : d74) (v11 : List d75) (v12 : Int) (v13 : d75) (v14 : Int) : @Eq _ (vX R L v2 v5 v6 v11 v12 v13 v14 ([1, 1, 1, 1, 1, 1, 1, 0, 1, 0, 0, 1, 0, 0, 1, 0, 1, 0] ++ [0])) (cond (decide (0 < v14))
 ((zO R v5).bind fun r0 =>
 cond (yT (v13.2.1.length + ([r0.1]).length))
 (vX R L v2 r0.2.1 v6 v11 v12 (v13.1, (v13.2.1 ++ [r0.1], v13.2.2)) (IntKind.wrap .i64 (v14 - 1)))
 none)
 (cond (yT (v11.length + ([v13]).length))
 (tN R L v2 v5 v6 (v11 ++ [v13]) (IntKind.wrap .i64 (v12 - 1)))
 none)) := by kernel_rfl
theorem A41 (x0:d81):@Eq _ (aY (zD EE R L) x0) (rL R L x0 ([],(([],([],([],()))),())) [] 0):=by kernel_rfl
theorem AX0 (v1 : d81) (v2 : d74) (v5 : List (List UInt8)) (v6 : Int) : @Eq _ (rL R L v1 v2 v5 v6 ([1, 1, 0, 1, 0] ++ [0])) (cond (decide (v6 < 16))
 ((AA3 R v1.2.2.1 (IntKind.wrap .i64 ((IntKind.wrap .i64 (16 * v1.2.1.2.1)) + v6))).bind fun r0 =>
 cond (yT (v5.length + ([r0.1]).length))
 (rL R L v1 v2 (v5 ++ [r0.1]) (IntKind.wrap .i64 (v6 + 1)))
 none)
 ((AB4 R v5).bind fun r0 =>
 cond (!(eqS r0.1 v1.2.1.2.2.2.2.2.2.1))
 (some (([], (([], ([], ([], ()))), ())), ([], (false, ()))))
 (cond (Nat.blt (0 : Int).toNat v5.length)
 ((kJ R v1.1 1 (IntKind.wrap .i64 (16 * v1.2.1.2.1)) v1.2.1.1 (v5.getD (0 : Int).toNat [])).bind fun r1 =>
 (gF R r1.1).bind fun r2 =>
 cond (!r1.2.1)
 (some (([], (([], ([], ([], ()))), ())), ([], (false, ()))))
 (cond (!r2.2.2.1)
 (some (([], (([], ([], ([], ()))), ())), ([], (false, ()))))
 (nB R L v1 v2 v5 r2.1 r2.2.1 0)))
 none))) := by kernel_rfl
theorem AZ2 (v1 : d81) (v2 : d74) (v5 : List (List UInt8)) (v9 : d74) (v10 : List d75) (v12 : Int) : @Eq _ (nB R L v1 v2 v5 v9 v10 v12 ([1, 1, 1, 1, 1, 1, 1, 0, 1, 0] ++ [0])) (cond (decide (v12 < 15))
 (cond (zA (IntKind.wrap .i64 (1 + v12)))
 (cond (Nat.blt (IntKind.wrap .i64 (1 + v12)).toNat v5.length)
 ((kJ R v1.1 2 (IntKind.wrap .i64 ((IntKind.wrap .i64 ((IntKind.wrap .i64 (16 * v1.2.1.2.1)) + 1)) + v12)) v1.2.1.1 (v5.getD (IntKind.wrap .i64 (1 + v12)).toNat [])).bind fun r0 =>
 (iC R r0.1).bind fun r1 =>
 cond (!r0.2.1)
 (some (([], (([], ([], ([], ()))), ())), ([], (false, ()))))
 (cond (!r1.2.1)
 (some (([], (([], ([], ([], ()))), ())), ([], (false, ()))))
 (cond (zA v12)
 (cond (Nat.blt v12.toNat v9.2.1.2.2.1.length)
 (nB R L v1 v2 v5 (v9.1, ((v9.2.1.1, (v9.2.1.2.1, (v9.2.1.2.2.1.set v12.toNat r1.1, v9.2.1.2.2.2))), v9.2.2)) v10 (IntKind.wrap .i64 (v12 + 1)))
 none)
 none)))
 none)
 none)
 ((AI0 R v9).bind fun r0 =>
 some (v9, (v10, (r0.1, ()))))) := by kernel_rfl
theorem A2O (x0 : List UInt8) (x1 : Int) : @Eq _ (mI (zD EE R L) x0 x1) (cond (!(eqI (x0.length : Int) (IntKind.wrap .i64 (4 * x1))))
 (some (([], (0, (true, ()))), ()))
 ((cM R x0).bind fun r0 =>
 some ((r0.1, (0, (false, ()))), ()))) := by kernel_rfl
theorem AU0 (x0 : d72) (x1 x2 : Int) : @Eq _ (yP (zD EE R L) x0 x1 x2) (cond x0.2.2.1
 (some (0, ((x0.1, (x0.2.1, (true, x0.2.2.2))), ())))
 (cond (eqI x0.2.1 (x0.1.length : Int))
 (some (0, ((x0.1, (x0.2.1, (true, x0.2.2.2))), ())))
 (cond (zA x0.2.1)
 (cond (Nat.blt x0.2.1.toNat x0.1.length)
 ((sQ R (x0.1.getD x0.2.1.toNat 0) x1 x2).bind fun r0 =>
 cond (!r0.1)
 (some (0, ((x0.1, (x0.2.1, (true, x0.2.2.2))), ())))
 (cond (zA (IntKind.wrap .i64 ((IntKind.wrap .i64 (x0.2.1 + 1)) - 1)))
 (cond (Nat.blt (IntKind.wrap .i64 ((IntKind.wrap .i64 (x0.2.1 + 1)) - 1)).toNat x0.1.length)
 (some (x0.1.getD (IntKind.wrap .i64 ((IntKind.wrap .i64 (x0.2.1 + 1)) - 1)).toNat 0, ((x0.1, (IntKind.wrap .i64 (x0.2.1 + 1), x0.2.2)), ())))
 none)
 none))
 none)
 none))) := by kernel_rfl
theorem AF2 (x0:d72) (x1 x2 x3:Int):@Eq _ (xL (zD EE R L) x0 x1 x2 x3) (wE R L x0 x2 x3 [] x1 0):=by kernel_rfl
theorem kP (v0 : d72) (v2 v3 : Int) (v9 : List Int) (v10 v11 : Int) : @Eq _ (wE R L v0 v2 v3 v9 v10 v11 ([1, 1, 0, 1, 0] ++ [0])) (cond (decide (v11 < v10))
 ((yP R v0 v2 v3).bind fun r0 =>
 cond (yT (v9.length + ([r0.1]).length))
 (wE R L r0.2.1 v2 v3 (v9 ++ [r0.1]) v10 (IntKind.wrap .i64 (v11 + 1)))
 none)
 (some (v9, (v0, ())))) := by kernel_rfl
theorem AG6 (x0 : d72) (x1 : Int) : @Eq _ (wO (zD EE R L) x0 x1) ((yP R x0 0 x1).bind fun r0 =>
 wJ R L r0.2.1 [] r0.1 0) := by kernel_rfl
theorem jT (v0 : d72) (v5 : List d69) (v8 v9 : Int) : @Eq _ (wJ R L v0 v5 v8 v9 ([1, 1, 0, 1, 0] ++ [0])) (cond (decide (v9 < v8))
 ((yP R v0 0 11).bind fun r0 =>
 (yP R r0.2.1 0 7).bind fun r1 =>
 (yP R r1.2.1 0 999999).bind fun r2 =>
 cond (yT (v5.length + ([(r0.1, (r1.1, (r2.1, ())))]).length))
 (wJ R L r2.2.1 (v5 ++ [(r0.1, (r1.1, (r2.1, ())))]) v8 (IntKind.wrap .i64 (v9 + 1)))
 none)
 (some (v5, (v0, ())))) := by kernel_rfl
theorem A4z (x0 : List UInt8) (x1 : Int) : @Eq _ (kG (zD EE R L) x0 x1) ((eA R x0).bind fun r0 =>
 cond (!r0.2.1)
 (some (([], (1, ())), ()))
 (cond (!(eqI (r0.1.length : Int) x1))
 (some (([], (1, ())), ()))
 (some ((r0.1, (0, ())), ())))) := by kernel_rfl
theorem AF5 (x0 : d87) : @Eq _ (zO (zD EE R L) x0) (cond (decide ((x0.1.length : Int) ≤ x0.2.1))
 (some (-1, (x0, ())))
 (cond (zA (IntKind.wrap .i64 ((IntKind.wrap .i64 (x0.2.1 + 1)) - 1)))
 (cond (Nat.blt (IntKind.wrap .i64 ((IntKind.wrap .i64 (x0.2.1 + 1)) - 1)).toNat x0.1.length)
 (some (x0.1.getD (IntKind.wrap .i64 ((IntKind.wrap .i64 (x0.2.1 + 1)) - 1)).toNat 0, ((x0.1, (IntKind.wrap .i64 (x0.2.1 + 1), x0.2.2)), ())))
 none)
 none)) := by kernel_rfl
theorem AA7 (x0 : d87) (x1 : Int) : @Eq _ (yR (zD EE R L) x0 x1) ((zO R x0).bind fun r0 =>
 (tL R r0.1 0 x1).bind fun r1 =>
 cond (!r1.1)
 (some (0, ((r0.2.1.1, (IntKind.wrap .i64 ((r0.2.1.1.length : Int) + 1), r0.2.1.2.2)), ())))
 (some (r0.1, (r0.2.1, ())))) := by kernel_rfl
theorem AF0 (x0:d87):@Eq _ (tI (zD EE R L) x0) (yS R L x0 x0.2.1):=by kernel_rfl
theorem pH (v0 : d87) (v3 : Int) : @Eq _ (yS R L v0 v3 ([1, 0, 1, 0] ++ [0])) (cond (decide (v3 < (v0.1.length : Int)))
 (cond (zA v3)
 (cond (Nat.blt v3.toNat v0.1.length)
 (cond (!(eqI (v0.1.getD v3.toNat 0) 0))
 (some (false, (v0, ())))
 (yS R L v0 (IntKind.wrap .i64 (v3 + 1))))
 none)
 none)
 (some (decide (v0.2.1 ≤ (v0.1.length : Int)), (v0, ())))) := by kernel_rfl
theorem Am9 (x0 : List UInt8) : @Eq _ (iC (zD EE R L) x0) ((kG R x0 7).bind fun r0 =>
 (yR R r0.1 2).bind fun r1 =>
 vG R L r1.2.1 [] r1.1) := by kernel_rfl
theorem bY (v4 : d87) (v5 : List d69) (v6 : Int) : @Eq _ (vG R L v4 v5 v6 ([1, 1, 1, 0, 1, 0] ++ [0])) (cond (decide (0 < v6))
 ((zO R v4).bind fun r0 =>
 (zO R r0.2.1).bind fun r1 =>
 (zO R r1.2.1).bind fun r2 =>
 cond (yT (v5.length + ([(r0.1, (r1.1, (r2.1, ())))]).length))
 (vG R L r2.2.1 (v5 ++ [(r0.1, (r1.1, (r2.1, ())))]) (IntKind.wrap .i64 (v6 - 1)))
 none)
 ((tI R v4).bind fun r0 =>
 cond r0.1
 ((fU R v5).bind fun r1 =>
 some (v5, (r1.1, ())))
 (some (v5, (false, ()))))) := by kernel_rfl
theorem Aw9 (x0 : d81) : @Eq _ (gI (zD EE R L) x0) ((AK0 R x0).bind fun r0 =>
 cond (!(eqI r0.1 0))
 (some (x0, ([], (r0.1, ()))))
 ((aY R x0).bind fun r1 =>
 cond (!r1.2.2.1)
 ((AR9 R x0).bind fun r2 =>
 some (r2.1, ([], (10, ()))))
 (some (x0, (r1.2.1, (0, ())))))) := by kernel_rfl
theorem As4 (x0 : d81) : @Eq _ (jR (zD EE R L) x0) ((aS R x0).bind fun r0 =>
 cond (!r0.1)
 (some (([], ((0, (0, (0, (0, ([], ([], ([], ()))))))), (([], ([], ())), (false, (false, ()))))), ([], (1, ()))))
 ((gI R x0).bind fun r1 =>
 (AM8 R r1.1).bind fun r2 =>
 some (r2.1, (r1.2.1, (r1.2.2.1, ()))))) := by kernel_rfl
theorem A2d (x0 : List Int) (x1 : Int) : @Eq _ (cW (zD EE R L) x0 x1) (cond (yT (x0.length + ([IntKind.wrap .u8 x1, IntKind.wrap .u8 (Int.fdiv x1 (2 ^ (Min.min (8 : Int).toNat (IntKind.bits .i64)))), IntKind.wrap .u8 (Int.fdiv x1 (2 ^ (Min.min (16 : Int).toNat (IntKind.bits .i64)))), IntKind.wrap .u8 (Int.fdiv x1 (2 ^ (Min.min (24 : Int).toNat (IntKind.bits .i64))))]).length))
 (some (x0 ++ [IntKind.wrap .u8 x1, IntKind.wrap .u8 (Int.fdiv x1 (2 ^ (Min.min (8 : Int).toNat (IntKind.bits .i64)))), IntKind.wrap .u8 (Int.fdiv x1 (2 ^ (Min.min (16 : Int).toNat (IntKind.bits .i64)))), IntKind.wrap .u8 (Int.fdiv x1 (2 ^ (Min.min (24 : Int).toNat (IntKind.bits .i64))))], ()))
 none) := by kernel_rfl
theorem A2n:@Eq _ (AI5 (zD EE R L)) (some ([1779033703,3144134277,1013904242,2773480762,1359893119,2600822924,528734635,1541459225],())):=by kernel_rfl
theorem A4h : @Eq _ (AD1 (zD EE R L)) ((AI5 R).bind fun r0 =>
 some ((r0.1, ([], (0, ()))), ())) := by kernel_rfl
theorem A4O (x0 : List UInt8) (x1 : Int) : @Eq _ (AB5 (zD EE R L) x0 x1) (cond (zA x1)
 (cond (Nat.blt x1.toNat x0.length)
 (cond (zA (IntKind.wrap .i64 (x1 + 1)))
 (cond (Nat.blt (IntKind.wrap .i64 (x1 + 1)).toNat x0.length)
 (cond (zA (IntKind.wrap .i64 (x1 + 2)))
 (cond (Nat.blt (IntKind.wrap .i64 (x1 + 2)).toNat x0.length)
 (cond (zA (IntKind.wrap .i64 (x1 + 3)))
 (cond (Nat.blt (IntKind.wrap .i64 (x1 + 3)).toNat x0.length)
 (some (xH .or .i64 (xH .or .i64 (xH .or .i64 (IntKind.wrap .i64 ((IntKind.wrap .i64 (UInt8.toNat (x0.getD x1.toNat 0) : Int)) * (2 ^ (Min.min (24 : Int).toNat (IntKind.bits .i64))))) (IntKind.wrap .i64 ((IntKind.wrap .i64 (UInt8.toNat (x0.getD (IntKind.wrap .i64 (x1 + 1)).toNat 0) : Int)) * (2 ^ (Min.min (16 : Int).toNat (IntKind.bits .i64)))))) (IntKind.wrap .i64 ((IntKind.wrap .i64 (UInt8.toNat (x0.getD (IntKind.wrap .i64 (x1 + 2)).toNat 0) : Int)) * (2 ^ (Min.min (8 : Int).toNat (IntKind.bits .i64)))))) (IntKind.wrap .i64 (UInt8.toNat (x0.getD (IntKind.wrap .i64 (x1 + 3)).toNat 0) : Int)), ()))
 none)
 none)
 none)
 none)
 none)
 none)
 none)
 none) := by kernel_rfl
theorem A3s (x0 x1 : Int) : @Eq _ (yJ (zD EE R L) x0 x1) (cond (decide (x1 < 0))
 none
 (cond (decide ((IntKind.wrap .i64 (32 - x1)) < 0))
 none
 (some (xH .and .i64 (xH .or .i64 (Int.fdiv x0 (2 ^ (Min.min x1.toNat (IntKind.bits .i64)))) (IntKind.wrap .i64 (x0 * (2 ^ (Min.min (IntKind.wrap .i64 (32 - x1)).toNat (IntKind.bits .i64)))))) 4294967295, ())))) := by kernel_rfl
theorem A2q:@Eq _ (AJ0 (zD EE R L)) (some ([1116352408,1899447441,3049323471,3921009573,961987163,1508970993,2453635748,2870763221,3624381080,310598401,607225278,1426881987,1925078388,2162078206,2614888103,3248222580,3835390401,4022224774,264347078,604807628,770255983,1249150122,1555081692,1996064986,2554220882,2821834349,2952996808,3210313671,3336571891,3584528711,113926993,338241895,666307205,773529912,1294757372,1396182291,1695183700,1986661051,2177026350,2456956037,2730485921,2820302411,3259730800,3345764771,3516065817,3600352804,4094571909,275423344,430227734,506948616,659060556,883997877,958139571,1322822218,1537002063,1747873779,1955562222,2024104815,2227730452,2361852424,2428436474,2756734187,3204031479,3329325298],())):=by kernel_rfl
theorem A2u (x0:List Int) (x1:List UInt8):@Eq _ (cY (zD EE R L) x0 x1) (uQ R L x1 x0 (List.replicate 8 0) [0,0,0,0,0,0,0,0,0,0,0,0,0,0,0,0,0,0,0,0,0,0,0,0,0,0,0,0,0,0,0,0,0,0,0,0,0,0,0,0,0,0,0,0,0,0,0,0,0,0,0,0,0,0,0,0,0,0,0,0,0,0,0,0] 0):=by kernel_rfl
theorem AO6 (v1 : List UInt8) (v2 v4 v5 : List Int) (v6 : Int) : @Eq _ (uQ R L v1 v2 v4 v5 v6 ([1, 1, 0, 1, 0] ++ [0])) (cond (decide (v6 < 16))
 ((AB5 R v1 (IntKind.wrap .i64 (4 * v6))).bind fun r0 =>
 cond (zA v6)
 (cond (Nat.blt v6.toNat 64)
 (uQ R L v1 v2 v4 (v5.set v6.toNat r0.1) (IntKind.wrap .i64 (v6 + 1)))
 none)
 none)
 (xR R L v2 v4 v5 16)) := by kernel_rfl
theorem AN9 (v2 v4 v5 : List Int) (v7 : Int) : @Eq _ (xR R L v2 v4 v5 v7 ([1, 1, 1, 0, 1, 0] ++ [0])) (cond (decide (v7 < 64))
 (cond (zA (IntKind.wrap .i64 (v7 - 15)))
 (cond (Nat.blt (IntKind.wrap .i64 (v7 - 15)).toNat 64)
 ((yJ R (v5.getD (IntKind.wrap .i64 (v7 - 15)).toNat 0) 7).bind fun r0 =>
 cond (zA (IntKind.wrap .i64 (v7 - 15)))
 (cond (Nat.blt (IntKind.wrap .i64 (v7 - 15)).toNat 64)
 ((yJ R (v5.getD (IntKind.wrap .i64 (v7 - 15)).toNat 0) 18).bind fun r1 =>
 cond (zA (IntKind.wrap .i64 (v7 - 15)))
 (cond (Nat.blt (IntKind.wrap .i64 (v7 - 15)).toNat 64)
 (cond (zA (IntKind.wrap .i64 (v7 - 2)))
 (cond (Nat.blt (IntKind.wrap .i64 (v7 - 2)).toNat 64)
 ((yJ R (v5.getD (IntKind.wrap .i64 (v7 - 2)).toNat 0) 17).bind fun r2 =>
 cond (zA (IntKind.wrap .i64 (v7 - 2)))
 (cond (Nat.blt (IntKind.wrap .i64 (v7 - 2)).toNat 64)
 ((yJ R (v5.getD (IntKind.wrap .i64 (v7 - 2)).toNat 0) 19).bind fun r3 =>
 cond (zA (IntKind.wrap .i64 (v7 - 2)))
 (cond (Nat.blt (IntKind.wrap .i64 (v7 - 2)).toNat 64)
 (cond (zA (IntKind.wrap .i64 (v7 - 16)))
 (cond (Nat.blt (IntKind.wrap .i64 (v7 - 16)).toNat 64)
 (cond (zA (IntKind.wrap .i64 (v7 - 7)))
 (cond (Nat.blt (IntKind.wrap .i64 (v7 - 7)).toNat 64)
 (cond (zA v7)
 (cond (Nat.blt v7.toNat 64)
 (xR R L v2 v4 (v5.set v7.toNat (xH .and .i64 (IntKind.wrap .i64 ((IntKind.wrap .i64 ((IntKind.wrap .i64 ((v5.getD (IntKind.wrap .i64 (v7 - 16)).toNat 0) + (xH .xor .i64 (xH .xor .i64 r0.1 r1.1) (Int.fdiv (v5.getD (IntKind.wrap .i64 (v7 - 15)).toNat 0) (2 ^ (Min.min (3 : Int).toNat (IntKind.bits .i64))))))) + (v5.getD (IntKind.wrap .i64 (v7 - 7)).toNat 0))) + (xH .xor .i64 (xH .xor .i64 r2.1 r3.1) (Int.fdiv (v5.getD (IntKind.wrap .i64 (v7 - 2)).toNat 0) (2 ^ (Min.min (10 : Int).toNat (IntKind.bits .i64))))))) 4294967295)) (IntKind.wrap .i64 (v7 + 1)))
 none)
 none)
 none)
 none)
 none)
 none)
 none)
 none)
 none)
 none)
 none)
 none)
 none)
 none)
 none)
 none)
 none)
 none)
 ((AJ0 R).bind fun r0 =>
 xY R L v2 v4 v5 r0.1 v2 0)) := by kernel_rfl
theorem AQ9 (v2 v4 v5 v10 v11 : List Int) (v12 : Int) : @Eq _ (xY R L v2 v4 v5 v10 v11 v12 ([1, 1, 1, 1, 1, 1, 0, 1, 0] ++ [0])) (cond (decide (v12 < 64))
 ((yJ R (v11.getD (4 : Int).toNat 0) 6).bind fun r0 =>
 (yJ R (v11.getD (4 : Int).toNat 0) 11).bind fun r1 =>
 (yJ R (v11.getD (4 : Int).toNat 0) 25).bind fun r2 =>
 cond (zA v12)
 (cond (Nat.blt v12.toNat 64)
 (cond (zA v12)
 (cond (Nat.blt v12.toNat 64)
 ((yJ R (v11.getD (0 : Int).toNat 0) 2).bind fun r3 =>
 (yJ R (v11.getD (0 : Int).toNat 0) 13).bind fun r4 =>
 (yJ R (v11.getD (0 : Int).toNat 0) 22).bind fun r5 =>
 xY R L v2 v4 v5 v10 [xH .and .i64 (IntKind.wrap .i64 ((IntKind.wrap .i64 ((IntKind.wrap .i64 ((IntKind.wrap .i64 ((IntKind.wrap .i64 ((IntKind.wrap .i64 ((v11.getD (7 : Int).toNat 0) + (xH .xor .i64 (xH .xor .i64 r0.1 r1.1) r2.1))) + (xH .xor .i64 (xH .and .i64 (v11.getD (4 : Int).toNat 0) (v11.getD (5 : Int).toNat 0)) (xH .and .i64 (xH .xor .i64 4294967295 (v11.getD (4 : Int).toNat 0)) (v11.getD (6 : Int).toNat 0))))) + (v10.getD v12.toNat 0))) + (v5.getD v12.toNat 0))) + (xH .xor .i64 (xH .xor .i64 r3.1 r4.1) r5.1))) + (xH .xor .i64 (xH .xor .i64 (xH .and .i64 (v11.getD (0 : Int).toNat 0) (v11.getD (1 : Int).toNat 0)) (xH .and .i64 (v11.getD (0 : Int).toNat 0) (v11.getD (2 : Int).toNat 0))) (xH .and .i64 (v11.getD (1 : Int).toNat 0) (v11.getD (2 : Int).toNat 0))))) 4294967295, v11.getD (0 : Int).toNat 0, v11.getD (1 : Int).toNat 0, v11.getD (2 : Int).toNat 0, xH .and .i64 (IntKind.wrap .i64 ((v11.getD (3 : Int).toNat 0) + (IntKind.wrap .i64 ((IntKind.wrap .i64 ((IntKind.wrap .i64 ((IntKind.wrap .i64 ((v11.getD (7 : Int).toNat 0) + (xH .xor .i64 (xH .xor .i64 r0.1 r1.1) r2.1))) + (xH .xor .i64 (xH .and .i64 (v11.getD (4 : Int).toNat 0) (v11.getD (5 : Int).toNat 0)) (xH .and .i64 (xH .xor .i64 4294967295 (v11.getD (4 : Int).toNat 0)) (v11.getD (6 : Int).toNat 0))))) + (v10.getD v12.toNat 0))) + (v5.getD v12.toNat 0))))) 4294967295, v11.getD (4 : Int).toNat 0, v11.getD (5 : Int).toNat 0, v11.getD (6 : Int).toNat 0] (IntKind.wrap .i64 (v12 + 1)))
 none)
 none)
 none)
 none)
 (wM R L v2 v4 v11 0)) := by kernel_rfl
theorem AN8 (v2 v4 v11 : List Int) (v18 : Int) : @Eq _ (wM R L v2 v4 v11 v18 ([1, 1, 1, 1, 1, 1, 1, 0, 1, 0] ++ [0])) (cond (decide (v18 < 8))
 (cond (zA v18)
 (cond (Nat.blt v18.toNat 8)
 (cond (zA v18)
 (cond (Nat.blt v18.toNat 8)
 (cond (zA v18)
 (cond (Nat.blt v18.toNat 8)
 (wM R L (v2.set v18.toNat (xH .and .i64 (IntKind.wrap .i64 ((v2.getD v18.toNat 0) + (v11.getD v18.toNat 0))) 4294967295)) v4 v11 (IntKind.wrap .i64 (v18 + 1)))
 none)
 none)
 none)
 none)
 none)
 none)
 (some (v2, ()))) := by kernel_rfl
theorem A48 (x0 : d91) (x1 : List UInt8) : @Eq _ (kK (zD EE R L) x0 x1) (cond (yT (x0.2.1.length + x1.length))
 (qU R L (x0.1, (x0.2.1 ++ x1, (IntKind.wrap .i64 (x0.2.2.1 + (x1.length : Int)), x0.2.2.2))) (List.replicate 8 0, ([], (0, ()))))
 none) := by kernel_rfl
theorem AY6 (v2 v4 : d91) : @Eq _ (qU R L v2 v4 ([1, 1, 1, 0, 0] ++ [0])) (cond (decide (64 ≤ (v2.2.1.length : Int)))
 ((cY R v2.1 v2.2.1).bind fun r0 =>
 cond (Nat.ble v2.2.1.length v2.2.1.length)
 (cond (Nat.ble (64 : Int).toNat v2.2.1.length)
 (qU R L (r0.1, (List.drop (64 : Int).toNat (List.take v2.2.1.length v2.2.1), v2.2.2)) v4)
 none)
 none)
 (some (v2, ()))) := by kernel_rfl
theorem A7X (x0:d91):@Eq _ (AL3 (zD EE R L) x0) (oM R L x0 (IntKind.wrap .i64 (8 * x0.2.2.1)) [128]):=by kernel_rfl
theorem Ah3 (v1 : d91) (v3 : Int) (v4 : List Int) : @Eq _ (oM R L v1 v3 v4 ([1, 1, 1, 0, 0] ++ [0])) (cond (!(eqI (Int.tmod (IntKind.wrap .i64 (v1.2.2.1 + (v4.length : Int))) 64) 56))
 (cond (yT (v4.length + ([(0 : Int)]).length))
 (oM R L v1 v3 (v4 ++ [0]))
 none)
 (vS R L v1 v3 v4 7)) := by kernel_rfl
theorem Ai3 (v1 : d91) (v3 : Int) (v4 : List Int) (v5 : Int) : @Eq _ (vS R L v1 v3 v4 v5 ([1, 1, 1, 1, 0, 1, 0] ++ [0])) (cond (decide (0 ≤ v5))
 (cond (decide ((IntKind.wrap .i64 (8 * v5)) < 0))
 none
 (cond (yT (v4.length + ([IntKind.wrap .u8 (Int.fdiv v3 (2 ^ (Min.min (IntKind.wrap .i64 (8 * v5)).toNat (IntKind.bits .i64))))]).length))
 (vS R L v1 v3 (v4 ++ [IntKind.wrap .u8 (Int.fdiv v3 (2 ^ (Min.min (IntKind.wrap .i64 (8 * v5)).toNat (IntKind.bits .i64))))]) (IntKind.wrap .i64 (v5 - 1)))
 none))
 ((kK R v1 (List.map (fun (n : Int) => UInt8.ofNat n.toNat) v4)).bind fun r0 =>
 vT R L r0.1 [] 0)) := by kernel_rfl
theorem Ah2 (v1 : d91) (v6 : List Int) (v7 : Int) : @Eq _ (vT R L v1 v6 v7 ([1, 1, 1, 1, 1, 1, 1, 0, 1, 0] ++ [0])) (cond (decide (v7 < 8))
 (sA R L v1 v6 v7 3)
 (some (List.map (fun (n : Int) => UInt8.ofNat n.toNat) v6, ()))) := by kernel_rfl
theorem Ah8 (v1 : d91) (v6 : List Int) (v7 v8 : Int) : @Eq _ (sA R L v1 v6 v7 v8 ([1, 1, 1, 1, 1, 1, 1, 0, 1, 0, 0, 1, 0, 0, 1, 0] ++ [0])) (cond (decide (0 ≤ v8))
 (cond (zA v7)
 (cond (Nat.blt v7.toNat 8)
 (cond (decide ((IntKind.wrap .i64 (8 * v8)) < 0))
 none
 (cond (yT (v6.length + ([IntKind.wrap .u8 (Int.fdiv (v1.1.getD v7.toNat 0) (2 ^ (Min.min (IntKind.wrap .i64 (8 * v8)).toNat (IntKind.bits .i64))))]).length))
 (sA R L v1 (v6 ++ [IntKind.wrap .u8 (Int.fdiv (v1.1.getD v7.toNat 0) (2 ^ (Min.min (IntKind.wrap .i64 (8 * v8)).toNat (IntKind.bits .i64))))]) v7 (IntKind.wrap .i64 (v8 - 1)))
 none))
 none)
 none)
 (vT R L v1 v6 (IntKind.wrap .i64 (v7 + 1)))) := by kernel_rfl
theorem A8x (x0 : List UInt8) : @Eq _ (AF9 (zD EE R L) x0) ((AD1 R).bind fun r0 =>
 (kK R r0.1 x0).bind fun r1 =>
 (AL3 R r1.1).bind fun r2 =>
 some (r2.1, ())) := by kernel_rfl
theorem A4U:@Eq _ (AT5 (zD EE R L)) (some (([1779033703,3144134277,1013904242,2773480762,1359893119,2600822924,528734635,1541459225],([],(0,()))),())):=by kernel_rfl
theorem A0l:@Eq _ (AC1 (zD EE R L)) (some ([1116352408,1899447441,3049323471,3921009573,961987163,1508970993,2453635748,2870763221,3624381080,310598401,607225278,1426881987,1925078388,2162078206,2614888103,3248222580,3835390401,4022224774,264347078,604807628,770255983,1249150122,1555081692,1996064986,2554220882,2821834349,2952996808,3210313671,3336571891,3584528711,113926993,338241895,666307205,773529912,1294757372,1396182291,1695183700,1986661051,2177026350,2456956037,2730485921,2820302411,3259730800,3345764771,3516065817,3600352804,4094571909,275423344,430227734,506948616,659060556,883997877,958139571,1322822218,1537002063,1747873779,1955562222,2024104815,2227730452,2361852424,2428436474,2756734187,3204031479,3329325298],())):=by kernel_rfl
theorem kQ (x0 x1 : Int) : @Eq _ (yX (zD EE R L) x0 x1) (cond (decide ((IntKind.wrap .u64 (32 - (xH .and .u64 (IntKind.wrap .u64 x1) 31))) < 0))
 none
 (some (xH .or .u32 (IntKind.wrap .u32 (x0 * (2 ^ (Min.min (xH .and .u64 (IntKind.wrap .u64 x1) 31).toNat (IntKind.bits .u32))))) (Int.fdiv x0 (2 ^ (Min.min (IntKind.wrap .u64 (32 - (xH .and .u64 (IntKind.wrap .u64 x1) 31))).toNat (IntKind.bits .u32)))), ()))) := by kernel_rfl
theorem A7c (x0 x1 : Int) : @Eq _ (xQ (zD EE R L) x0 x1) ((yX R x0 (Be1 .i64 x1)).bind fun r0 =>
 some (r0.1, ())) := by kernel_rfl
theorem AZ3 (x0:d91) (x1:List UInt8) (x2:List Int):@Eq _ (nJ (zD EE R L) x0 x1 x2) (xE R L x0 x1 x2 (List.replicate 64 0) 0):=by kernel_rfl
theorem fL (v0 : d91) (v1 : List UInt8) (v2 v6 : List Int) (v25 : Int) : @Eq _ (xE R L v0 v1 v2 v6 v25 ([1, 0, 1, 0] ++ [0])) (cond (decide (v25 < 16))
 (cond (zA (IntKind.wrap .i64 (4 * v25)))
 (cond (Nat.blt (IntKind.wrap .i64 (4 * v25)).toNat v1.length)
 (cond (zA (IntKind.wrap .i64 ((IntKind.wrap .i64 (4 * v25)) + 1)))
 (cond (Nat.blt (IntKind.wrap .i64 ((IntKind.wrap .i64 (4 * v25)) + 1)).toNat v1.length)
 (cond (zA (IntKind.wrap .i64 ((IntKind.wrap .i64 (4 * v25)) + 2)))
 (cond (Nat.blt (IntKind.wrap .i64 ((IntKind.wrap .i64 (4 * v25)) + 2)).toNat v1.length)
 (cond (zA (IntKind.wrap .i64 ((IntKind.wrap .i64 (4 * v25)) + 3)))
 (cond (Nat.blt (IntKind.wrap .i64 ((IntKind.wrap .i64 (4 * v25)) + 3)).toNat v1.length)
 (cond (zA v25)
 (cond (Nat.blt v25.toNat 64)
 (xE R L v0 v1 v2 (v6.set v25.toNat (xH .or .u32 (xH .or .u32 (xH .or .u32 (IntKind.wrap .u32 ((IntKind.wrap .u32 (UInt8.toNat (v1.getD (IntKind.wrap .i64 (4 * v25)).toNat 0) : Int)) * (2 ^ (Min.min (24 : Int).toNat (IntKind.bits .u32))))) (IntKind.wrap .u32 ((IntKind.wrap .u32 (UInt8.toNat (v1.getD (IntKind.wrap .i64 ((IntKind.wrap .i64 (4 * v25)) + 1)).toNat 0) : Int)) * (2 ^ (Min.min (16 : Int).toNat (IntKind.bits .u32)))))) (IntKind.wrap .u32 ((IntKind.wrap .u32 (UInt8.toNat (v1.getD (IntKind.wrap .i64 ((IntKind.wrap .i64 (4 * v25)) + 2)).toNat 0) : Int)) * (2 ^ (Min.min (8 : Int).toNat (IntKind.bits .u32)))))) (IntKind.wrap .u32 (UInt8.toNat (v1.getD (IntKind.wrap .i64 ((IntKind.wrap .i64 (4 * v25)) + 3)).toNat 0) : Int)))) (IntKind.wrap .i64 (v25 + 1)))
 none)
 none)
 none)
 none)
 none)
 none)
 none)
 none)
 none)
 none)
 (zV R L v0 v2 v6 16)) := by kernel_rfl
theorem fK (v0 : d91) (v2 v6 : List Int) (v8 : Int) : @Eq _ (zV R L v0 v2 v6 v8 ([1, 1, 0, 1, 0] ++ [0])) (cond (decide (v8 < 64))
 (cond (zA (IntKind.wrap .i64 (v8 - 15)))
 (cond (Nat.blt (IntKind.wrap .i64 (v8 - 15)).toNat 64)
 (cond (zA (IntKind.wrap .i64 (v8 - 2)))
 (cond (Nat.blt (IntKind.wrap .i64 (v8 - 2)).toNat 64)
 (cond (zA (IntKind.wrap .i64 (v8 - 16)))
 (cond (Nat.blt (IntKind.wrap .i64 (v8 - 16)).toNat 64)
 ((xQ R (v6.getD (IntKind.wrap .i64 (v8 - 15)).toNat 0) 7).bind fun r0 =>
 (xQ R (v6.getD (IntKind.wrap .i64 (v8 - 15)).toNat 0) 18).bind fun r1 =>
 cond (zA (IntKind.wrap .i64 (v8 - 7)))
 (cond (Nat.blt (IntKind.wrap .i64 (v8 - 7)).toNat 64)
 ((xQ R (v6.getD (IntKind.wrap .i64 (v8 - 2)).toNat 0) 17).bind fun r2 =>
 (xQ R (v6.getD (IntKind.wrap .i64 (v8 - 2)).toNat 0) 19).bind fun r3 =>
 cond (zA v8)
 (cond (Nat.blt v8.toNat 64)
 (zV R L v0 v2 (v6.set v8.toNat (IntKind.wrap .u32 ((IntKind.wrap .u32 ((IntKind.wrap .u32 ((v6.getD (IntKind.wrap .i64 (v8 - 16)).toNat 0) + (xH .xor .u32 (xH .xor .u32 r0.1 r1.1) (Int.fdiv (v6.getD (IntKind.wrap .i64 (v8 - 15)).toNat 0) (2 ^ (Min.min (3 : Int).toNat (IntKind.bits .u32))))))) + (v6.getD (IntKind.wrap .i64 (v8 - 7)).toNat 0))) + (xH .xor .u32 (xH .xor .u32 r2.1 r3.1) (Int.fdiv (v6.getD (IntKind.wrap .i64 (v8 - 2)).toNat 0) (2 ^ (Min.min (10 : Int).toNat (IntKind.bits .u32)))))))) (IntKind.wrap .i64 (v8 + 1)))
 none)
 none)
 none)
 none)
 none)
 none)
 none)
 none)
 none)
 none)
 (zY R L v0 v2 v6 (List.replicate 8 0) v0.1 0)) := by kernel_rfl
theorem fO (v0 : d91) (v2 v6 v11 v104 : List Int) (v105 : Int) : @Eq _ (zY R L v0 v2 v6 v11 v104 v105 ([1, 1, 1, 1, 0, 1, 0] ++ [0])) (cond (decide (v105 < 8))
 (cond (zA v105)
 (cond (Nat.blt v105.toNat 8)
 (cond (zA v105)
 (cond (Nat.blt v105.toNat 8)
 (zY R L v0 v2 v6 (v11.set v105.toNat (IntKind.wrap .u32 (v104.getD v105.toNat 0))) v104 (IntKind.wrap .i64 (v105 + 1)))
 none)
 none)
 none)
 none)
 (yH R L v0 v2 v6 v11 0)) := by kernel_rfl
theorem fP (v0 : d91) (v2 v6 v11 : List Int) (v114 : Int) : @Eq _ (yH R L v0 v2 v6 v11 v114 ([1, 1, 1, 1, 1, 0, 1, 0] ++ [0])) (cond (decide (v114 < 64))
 ((xQ R (v11.getD (4 : Int).toNat 0) 6).bind fun r0 =>
 (xQ R (v11.getD (4 : Int).toNat 0) 11).bind fun r1 =>
 (xQ R (v11.getD (4 : Int).toNat 0) 25).bind fun r2 =>
 cond (zA v114)
 (cond (Nat.blt v114.toNat 64)
 (cond (zA v114)
 (cond (Nat.blt v114.toNat 64)
 ((xQ R (v11.getD (0 : Int).toNat 0) 2).bind fun r3 =>
 (xQ R (v11.getD (0 : Int).toNat 0) 13).bind fun r4 =>
 (xQ R (v11.getD (0 : Int).toNat 0) 22).bind fun r5 =>
 yH R L v0 v2 v6 [IntKind.wrap .u32 ((IntKind.wrap .u32 ((IntKind.wrap .u32 ((IntKind.wrap .u32 ((IntKind.wrap .u32 ((v11.getD (7 : Int).toNat 0) + (xH .xor .u32 (xH .xor .u32 r0.1 r1.1) r2.1))) + (xH .xor .u32 (xH .and .u32 (v11.getD (4 : Int).toNat 0) (v11.getD (5 : Int).toNat 0)) (xH .and .u32 (xH .xor .u32 ((2 ^ (IntKind.bits .u32)) - 1) (v11.getD (4 : Int).toNat 0)) (v11.getD (6 : Int).toNat 0))))) + (v2.getD v114.toNat 0))) + (v6.getD v114.toNat 0))) + (IntKind.wrap .u32 ((xH .xor .u32 (xH .xor .u32 r3.1 r4.1) r5.1) + (xH .xor .u32 (xH .xor .u32 (xH .and .u32 (v11.getD (0 : Int).toNat 0) (v11.getD (1 : Int).toNat 0)) (xH .and .u32 (v11.getD (0 : Int).toNat 0) (v11.getD (2 : Int).toNat 0))) (xH .and .u32 (v11.getD (1 : Int).toNat 0) (v11.getD (2 : Int).toNat 0)))))), v11.getD (0 : Int).toNat 0, v11.getD (1 : Int).toNat 0, v11.getD (2 : Int).toNat 0, IntKind.wrap .u32 ((v11.getD (3 : Int).toNat 0) + (IntKind.wrap .u32 ((IntKind.wrap .u32 ((IntKind.wrap .u32 ((IntKind.wrap .u32 ((v11.getD (7 : Int).toNat 0) + (xH .xor .u32 (xH .xor .u32 r0.1 r1.1) r2.1))) + (xH .xor .u32 (xH .and .u32 (v11.getD (4 : Int).toNat 0) (v11.getD (5 : Int).toNat 0)) (xH .and .u32 (xH .xor .u32 ((2 ^ (IntKind.bits .u32)) - 1) (v11.getD (4 : Int).toNat 0)) (v11.getD (6 : Int).toNat 0))))) + (v2.getD v114.toNat 0))) + (v6.getD v114.toNat 0)))), v11.getD (4 : Int).toNat 0, v11.getD (5 : Int).toNat 0, v11.getD (6 : Int).toNat 0] (IntKind.wrap .i64 (v114 + 1)))
 none)
 none)
 none)
 none)
 (yI R L v0 v11 0)) := by kernel_rfl
theorem fQ (v0 : d91) (v194 : List Int) (v195 : Int) : @Eq _ (yI R L v0 v194 v195 ([1, 1, 1, 1, 1, 1, 1, 0] ++ [0])) (cond (decide (v195 < 8))
 (cond (zA v195)
 (cond (Nat.blt v195.toNat 8)
 (cond (zA v195)
 (cond (Nat.blt v195.toNat 8)
 (cond (zA v195)
 (cond (Nat.blt v195.toNat 8)
 (yI R L (v0.1.set v195.toNat (IntKind.wrap .i64 (IntKind.wrap .u32 ((IntKind.wrap .u32 (v0.1.getD v195.toNat 0)) + (v194.getD v195.toNat 0)))), v0.2) v194 (IntKind.wrap .i64 (v195 + 1)))
 none)
 none)
 none)
 none)
 none)
 none)
 (some (v0, ()))) := by kernel_rfl
theorem A0i (x0 : d91) (x1 : List UInt8) : @Eq _ (oQ (zD EE R L) x0 x1) ((AC1 R).bind fun r0 =>
 cond (yT (x0.2.1.length + x1.length))
 (sX R L (x0.2.1 ++ x1) (x0.1, (x0.2.1, (IntKind.wrap .i64 (x0.2.2.1 + (x1.length : Int)), x0.2.2.2))) (List.replicate 8 0, ([], (0, ()))) r0.1)
 none) := by kernel_rfl
theorem AI9 (v1 : List UInt8) (v2 v4 : d91) (v5 : List Int) : @Eq _ (sX R L v1 v2 v4 v5 ([1, 1, 1, 1, 0, 0] ++ [0])) (cond (decide (64 ≤ (v1.length : Int)))
 (cond (Nat.ble (64 : Int).toNat v1.length)
 ((nJ R v2 (List.drop 0 (List.take (64 : Int).toNat v1)) v5).bind fun r0 =>
 cond (Nat.ble v1.length v1.length)
 (cond (Nat.ble (64 : Int).toNat v1.length)
 (sX R L (List.drop (64 : Int).toNat (List.take v1.length v1)) r0.1 v4 v5)
 none)
 none)
 none)
 (some ((v2.1, (v1, v2.2.2)), ()))) := by kernel_rfl
theorem A3K (x0 : d91) : @Eq _ (bB (zD EE R L) x0) ((oW R [0] (Int.tmod (IntKind.wrap .i64 (119 - (x0.2.1.length : Int))) 64)).bind fun r0 =>
 cond (yT (([(128 : UInt8)]).length + r0.1.length))
 (wB R L x0 (IntKind.wrap .i64 (8 * x0.2.2.1)) ([128] ++ r0.1) 7)
 none) := by kernel_rfl
theorem AQ8 (v1 : d91) (v3 : Int) (v4 : List UInt8) (v5 : Int) : @Eq _ (wB R L v1 v3 v4 v5 ([1, 1, 1, 0, 1, 0] ++ [0])) (cond (decide (0 ≤ v5))
 (cond (decide ((IntKind.wrap .i64 (8 * v5)) < 0))
 none
 (cond (yT (v4.length + (List.map (fun (n : Int) => UInt8.ofNat n.toNat) [IntKind.wrap .u8 (Int.fdiv v3 (2 ^ (Min.min (IntKind.wrap .i64 (8 * v5)).toNat (IntKind.bits .i64))))]).length))
 (wB R L v1 v3 (v4 ++ (List.map (fun (n : Int) => UInt8.ofNat n.toNat) [IntKind.wrap .u8 (Int.fdiv v3 (2 ^ (Min.min (IntKind.wrap .i64 (8 * v5)).toNat (IntKind.bits .i64))))])) (IntKind.wrap .i64 (v5 - 1)))
 none))
 ((oQ R v1 v4).bind fun r0 =>
 vK R L [] r0.1.1 0)) := by kernel_rfl
theorem AO4 (v6 v35 : List Int) (v36 : Int) : @Eq _ (vK R L v6 v35 v36 ([1, 1, 1, 1, 1, 0, 1, 0] ++ [0])) (cond (decide (v36 < 8))
 (cond (zA v36)
 (cond (Nat.blt v36.toNat 8)
 (cond (yT (v6.length + ([IntKind.wrap .u8 (Int.fdiv (v35.getD v36.toNat 0) (2 ^ (Min.min (24 : Int).toNat (IntKind.bits .i64)))), IntKind.wrap .u8 (Int.fdiv (v35.getD v36.toNat 0) (2 ^ (Min.min (16 : Int).toNat (IntKind.bits .i64)))), IntKind.wrap .u8 (Int.fdiv (v35.getD v36.toNat 0) (2 ^ (Min.min (8 : Int).toNat (IntKind.bits .i64)))), IntKind.wrap .u8 (v35.getD v36.toNat 0)]).length))
 (vK R L (v6 ++ [IntKind.wrap .u8 (Int.fdiv (v35.getD v36.toNat 0) (2 ^ (Min.min (24 : Int).toNat (IntKind.bits .i64)))), IntKind.wrap .u8 (Int.fdiv (v35.getD v36.toNat 0) (2 ^ (Min.min (16 : Int).toNat (IntKind.bits .i64)))), IntKind.wrap .u8 (Int.fdiv (v35.getD v36.toNat 0) (2 ^ (Min.min (8 : Int).toNat (IntKind.bits .i64)))), IntKind.wrap .u8 (v35.getD v36.toNat 0)]) v35 (IntKind.wrap .i64 (v36 + 1)))
 none)
 none)
 none)
 (some (List.map (fun (n : Int) => UInt8.ofNat n.toNat) v6, ()))) := by kernel_rfl
theorem A69 (x0 : List UInt8) : @Eq _ (aO (zD EE R L) x0) ((AT5 R).bind fun r0 =>
 (oQ R r0.1 x0).bind fun r1 =>
 (bB R r1.1).bind fun r2 =>
 some (r2.1, ())) := by kernel_rfl
theorem A8H (x0 x1:Int):@Eq _ (vJ (zD EE R L) x0 x1) (rC R L x0 [] x1 0):=by kernel_rfl
theorem Af4 (v0 : Int) (v5 : List Int) (v7 v8 : Int) : @Eq _ (rC R L v0 v5 v7 v8 ([1, 1, 0, 1, 0] ++ [0])) (cond (decide (v8 < v7))
 (cond (decide ((IntKind.wrap .i64 (8 * v8)) < 0))
 none
 (cond (yT (v5.length + ([IntKind.wrap .u8 (Int.fdiv v0 (2 ^ (Min.min (IntKind.wrap .i64 (8 * v8)).toNat (IntKind.bits .i64))))]).length))
 (rC R L v0 (v5 ++ [IntKind.wrap .u8 (Int.fdiv v0 (2 ^ (Min.min (IntKind.wrap .i64 (8 * v8)).toNat (IntKind.bits .i64))))]) v7 (IntKind.wrap .i64 (v8 + 1)))
 none))
 (some (List.map (fun (n : Int) => UInt8.ofNat n.toNat) v5, ()))) := by kernel_rfl
theorem Av0 (x0 : List UInt8) : @Eq _ (lQ (zD EE R L) x0) (cond (Nat.blt (0 : Int).toNat x0.length)
 (cond (Nat.blt (1 : Int).toNat x0.length)
 (cond (Nat.blt (2 : Int).toNat x0.length)
 (cond (Nat.blt (3 : Int).toNat x0.length)
 (some (xH .or .u32 (xH .or .u32 (xH .or .u32 (IntKind.wrap .u32 (UInt8.toNat (x0.getD (0 : Int).toNat 0) : Int)) (IntKind.wrap .u32 ((IntKind.wrap .u32 (UInt8.toNat (x0.getD (1 : Int).toNat 0) : Int)) * (2 ^ (Min.min (8 : Int).toNat (IntKind.bits .u32)))))) (IntKind.wrap .u32 ((IntKind.wrap .u32 (UInt8.toNat (x0.getD (2 : Int).toNat 0) : Int)) * (2 ^ (Min.min (16 : Int).toNat (IntKind.bits .u32)))))) (IntKind.wrap .u32 ((IntKind.wrap .u32 (UInt8.toNat (x0.getD (3 : Int).toNat 0) : Int)) * (2 ^ (Min.min (24 : Int).toNat (IntKind.bits .u32))))), ()))
 none)
 none)
 none)
 none) := by kernel_rfl
theorem A4Y (x0 x1 x2 x3:Int):@Eq _ (aX (zD EE R L) x0 x1 x2 x3) (sD R L x0 x1 x2 x3 [[16,12],[8,7]] 0):=by kernel_rfl
theorem AY0 (v0 v1 v2 v3 : Int) (v16 : List (List Int)) (v17 : Int) : @Eq _ (sD R L v0 v1 v2 v3 v16 v17 ([1, 0, 1, 0] ++ [0])) (cond (decide (v17 < 2))
 (cond (zA v17)
 (cond (Nat.blt v17.toNat 2)
 ((yX R (xH .xor .u32 v3 (IntKind.wrap .u32 (v0 + v1))) ((v16.getD v17.toNat (List.replicate 2 0)).getD (0 : Int).toNat 0)).bind fun r0 =>
 (yX R (xH .xor .u32 v1 (IntKind.wrap .u32 (v2 + r0.1))) ((v16.getD v17.toNat (List.replicate 2 0)).getD (1 : Int).toNat 0)).bind fun r1 =>
 sD R L (IntKind.wrap .u32 (v0 + v1)) r1.1 (IntKind.wrap .u32 (v2 + r0.1)) r0.1 v16 (IntKind.wrap .i64 (v17 + 1)))
 none)
 none)
 (some (v0, (v1, (v2, (v3, ())))))) := by kernel_rfl
theorem A7F (x0 x1 : List UInt8) (x2 : Int) : @Eq _ (bS (zD EE R L) x0 x1 x2) (cond (yT (([(101 : UInt8), 120, 112, 97, 110, 100, 32, 51, 50, 45, 98, 121, 116, 101, 32, 107]).length + x0.length))
 ((vJ R x2 4).bind fun r0 =>
 cond (yT (([(101 : UInt8), 120, 112, 97, 110, 100, 32, 51, 50, 45, 98, 121, 116, 101, 32, 107] ++ x0).length + r0.1.length))
 (cond (yT ((([(101 : UInt8), 120, 112, 97, 110, 100, 32, 51, 50, 45, 98, 121, 116, 101, 32, 107] ++ x0) ++ r0.1).length + x1.length))
 (tY R L ((([101, 120, 112, 97, 110, 100, 32, 51, 50, 45, 98, 121, 116, 101, 32, 107] ++ x0) ++ r0.1) ++ x1) (List.replicate 16 0) (List.replicate 16 0) 0)
 none)
 none)
 none) := by kernel_rfl
theorem Ag4 (v7 : List UInt8) (v8 v9 : List Int) (v25 : Int) : @Eq _ (tY R L v7 v8 v9 v25 ([1, 1, 1, 0, 1, 0] ++ [0])) (cond (decide (v25 < 16))
 (cond (zA (IntKind.wrap .i64 (4 * v25)))
 (cond (Nat.ble v7.length v7.length)
 (cond (Nat.ble (IntKind.wrap .i64 (4 * v25)).toNat v7.length)
 ((lQ R (List.drop (IntKind.wrap .i64 (4 * v25)).toNat (List.take v7.length v7))).bind fun r0 =>
 cond (zA v25)
 (cond (Nat.blt v25.toNat 16)
 (cond (zA v25)
 (cond (Nat.blt v25.toNat 16)
 (cond (zA v25)
 (cond (Nat.blt v25.toNat 16)
 (tY R L v7 (v8.set v25.toNat r0.1) (v9.set v25.toNat ((v8.set v25.toNat r0.1).getD v25.toNat 0)) (IntKind.wrap .i64 (v25 + 1)))
 none)
 none)
 none)
 none)
 none)
 none)
 none)
 none)
 none)
 (uU R L v8 v9 0)) := by kernel_rfl
theorem Ag2 (v8 v9 : List Int) (v41 : Int) : @Eq _ (uU R L v8 v9 v41 ([1, 1, 1, 1, 0, 1, 0] ++ [0])) (cond (decide (v41 < 10))
 (mY R L v8 v9 v41 0)
 (uT R L v8 v9 [] 0)) := by kernel_rfl
theorem A3C (v8 v9 : List Int) (v41 v43 : Int) : @Eq _ (mY R L v8 v9 v41 v43 ([1, 1, 1, 1, 0, 1, 0, 0, 1, 1, 0, 0, 1, 0] ++ [0])) (cond (decide (v43 < 2))
 (rI R L v8 v9 v43 v41 v43 0)
 (uU R L v8 v9 (IntKind.wrap .i64 (v41 + 1)))) := by kernel_rfl
theorem Ae7 (v8 v9 : List Int) (v16 : List UInt8) (v95 : Int) : @Eq _ (uT R L v8 v9 v16 v95 ([1, 1, 1, 1, 1, 1, 0, 1, 0] ++ [0])) (cond (decide (v95 < 16))
 (cond (zA v95)
 (cond (Nat.blt v95.toNat 16)
 (cond (zA v95)
 (cond (Nat.blt v95.toNat 16)
 ((vJ R (IntKind.wrap .i64 (IntKind.wrap .u32 ((v9.getD v95.toNat 0) + (v8.getD v95.toNat 0)))) 4).bind fun r0 =>
 cond (yT (v16.length + r0.1.length))
 (uT R L v8 v9 (v16 ++ r0.1) (IntKind.wrap .i64 (v95 + 1)))
 none)
 none)
 none)
 none)
 none)
 (some (v16, ()))) := by kernel_rfl
theorem Ag8 (v8 v9 : List Int) (v11 v41 v43 v46 : Int) : @Eq _ (rI R L v8 v9 v11 v41 v43 v46 ([1, 1, 1, 1, 0, 1, 0, 0, 1, 1, 0, 0, 1, 0, 0, 1, 1, 0, 0, 1, 1, 0] ++ [0])) (cond (decide (v46 < 4))
 (cond (zA v46)
 (cond (Nat.blt v46.toNat 16)
 (cond (zA (IntKind.wrap .i64 (4 + (Int.tmod (IntKind.wrap .i64 (v46 + v11)) 4))))
 (cond (Nat.blt (IntKind.wrap .i64 (4 + (Int.tmod (IntKind.wrap .i64 (v46 + v11)) 4))).toNat 16)
 (cond (zA (IntKind.wrap .i64 (8 + (Int.tmod (IntKind.wrap .i64 (v46 + (IntKind.wrap .i64 (2 * v11)))) 4))))
 (cond (Nat.blt (IntKind.wrap .i64 (8 + (Int.tmod (IntKind.wrap .i64 (v46 + (IntKind.wrap .i64 (2 * v11)))) 4))).toNat 16)
 (cond (zA (IntKind.wrap .i64 (12 + (Int.tmod (IntKind.wrap .i64 (v46 + (IntKind.wrap .i64 (3 * v11)))) 4))))
 (cond (Nat.blt (IntKind.wrap .i64 (12 + (Int.tmod (IntKind.wrap .i64 (v46 + (IntKind.wrap .i64 (3 * v11)))) 4))).toNat 16)
 ((aX R (v9.getD v46.toNat 0) (v9.getD (IntKind.wrap .i64 (4 + (Int.tmod (IntKind.wrap .i64 (v46 + v11)) 4))).toNat 0) (v9.getD (IntKind.wrap .i64 (8 + (Int.tmod (IntKind.wrap .i64 (v46 + (IntKind.wrap .i64 (2 * v11)))) 4))).toNat 0) (v9.getD (IntKind.wrap .i64 (12 + (Int.tmod (IntKind.wrap .i64 (v46 + (IntKind.wrap .i64 (3 * v11)))) 4))).toNat 0)).bind fun r0 =>
 cond (zA v46)
 (cond (Nat.blt v46.toNat 16)
 (cond (zA (IntKind.wrap .i64 (4 + (Int.tmod (IntKind.wrap .i64 (v46 + v11)) 4))))
 (cond (Nat.blt (IntKind.wrap .i64 (4 + (Int.tmod (IntKind.wrap .i64 (v46 + v11)) 4))).toNat 16)
 (cond (zA (IntKind.wrap .i64 (8 + (Int.tmod (IntKind.wrap .i64 (v46 + (IntKind.wrap .i64 (2 * v11)))) 4))))
 (cond (Nat.blt (IntKind.wrap .i64 (8 + (Int.tmod (IntKind.wrap .i64 (v46 + (IntKind.wrap .i64 (2 * v11)))) 4))).toNat 16)
 (cond (zA (IntKind.wrap .i64 (12 + (Int.tmod (IntKind.wrap .i64 (v46 + (IntKind.wrap .i64 (3 * v11)))) 4))))
 (cond (Nat.blt (IntKind.wrap .i64 (12 + (Int.tmod (IntKind.wrap .i64 (v46 + (IntKind.wrap .i64 (3 * v11)))) 4))).toNat 16)
 (rI R L v8 ((((v9.set v46.toNat r0.1).set (IntKind.wrap .i64 (4 + (Int.tmod (IntKind.wrap .i64 (v46 + v11)) 4))).toNat r0.2.1).set (IntKind.wrap .i64 (8 + (Int.tmod (IntKind.wrap .i64 (v46 + (IntKind.wrap .i64 (2 * v11)))) 4))).toNat r0.2.2.1).set (IntKind.wrap .i64 (12 + (Int.tmod (IntKind.wrap .i64 (v46 + (IntKind.wrap .i64 (3 * v11)))) 4))).toNat r0.2.2.2.1) v11 v41 v43 (IntKind.wrap .i64 (v46 + 1)))
 none)
 none)
 none)
 none)
 none)
 none)
 none)
 none)
 none)
 none)
 none)
 none)
 none)
 none)
 none)
 none)
 (mY R L v8 v9 v41 (IntKind.wrap .i64 (v43 + 1)))) := by kernel_rfl
theorem A5U (x0 : List UInt8) (x1 : Int) : @Eq _ (nU (zD EE R L) x0 x1) (cond (zA x1)
 (cond (Nat.blt x1.toNat x0.length)
 (cond (zA (IntKind.wrap .i64 (x1 + 1)))
 (cond (Nat.blt (IntKind.wrap .i64 (x1 + 1)).toNat x0.length)
 (cond (zA (IntKind.wrap .i64 (x1 + 2)))
 (cond (Nat.blt (IntKind.wrap .i64 (x1 + 2)).toNat x0.length)
 (cond (zA (IntKind.wrap .i64 (x1 + 3)))
 (cond (Nat.blt (IntKind.wrap .i64 (x1 + 3)).toNat x0.length)
 (some (xH .or .i64 (xH .or .i64 (xH .or .i64 (IntKind.wrap .i64 (UInt8.toNat (x0.getD x1.toNat 0) : Int)) (IntKind.wrap .i64 ((IntKind.wrap .i64 (UInt8.toNat (x0.getD (IntKind.wrap .i64 (x1 + 1)).toNat 0) : Int)) * (2 ^ (Min.min (8 : Int).toNat (IntKind.bits .i64)))))) (IntKind.wrap .i64 ((IntKind.wrap .i64 (UInt8.toNat (x0.getD (IntKind.wrap .i64 (x1 + 2)).toNat 0) : Int)) * (2 ^ (Min.min (16 : Int).toNat (IntKind.bits .i64)))))) (IntKind.wrap .i64 ((IntKind.wrap .i64 (UInt8.toNat (x0.getD (IntKind.wrap .i64 (x1 + 3)).toNat 0) : Int)) * (2 ^ (Min.min (24 : Int).toNat (IntKind.bits .i64))))), ()))
 none)
 none)
 none)
 none)
 none)
 none)
 none)
 none) := by kernel_rfl
theorem A4H (x0 x1 : Int) : @Eq _ (rQ (zD EE R L) x0 x1) (cond (decide (x1 < 0))
 none
 (cond (decide ((IntKind.wrap .i64 (32 - x1)) < 0))
 none
 (some (xH .and .i64 (xH .or .i64 (IntKind.wrap .i64 (x0 * (2 ^ (Min.min x1.toNat (IntKind.bits .i64))))) (Int.fdiv x0 (2 ^ (Min.min (IntKind.wrap .i64 (32 - x1)).toNat (IntKind.bits .i64))))) 4294967295, ())))) := by kernel_rfl
theorem Au9 (x0 x1 x2 x3 : Int) : @Eq _ (gA (zD EE R L) x0 x1 x2 x3) ((rQ R (xH .xor .i64 x3 (xH .and .i64 (IntKind.wrap .i64 (x0 + x1)) 4294967295)) 16).bind fun r0 =>
 (rQ R (xH .xor .i64 x1 (xH .and .i64 (IntKind.wrap .i64 (x2 + r0.1)) 4294967295)) 12).bind fun r1 =>
 (rQ R (xH .xor .i64 r0.1 (xH .and .i64 (IntKind.wrap .i64 ((xH .and .i64 (IntKind.wrap .i64 (x0 + x1)) 4294967295) + r1.1)) 4294967295)) 8).bind fun r2 =>
 (rQ R (xH .xor .i64 r1.1 (xH .and .i64 (IntKind.wrap .i64 ((xH .and .i64 (IntKind.wrap .i64 (x2 + r0.1)) 4294967295) + r2.1)) 4294967295)) 7).bind fun r3 =>
 some ([xH .and .i64 (IntKind.wrap .i64 ((xH .and .i64 (IntKind.wrap .i64 (x0 + x1)) 4294967295) + r1.1)) 4294967295, r3.1, xH .and .i64 (IntKind.wrap .i64 ((xH .and .i64 (IntKind.wrap .i64 (x2 + r0.1)) 4294967295) + r2.1)) 4294967295, r2.1], ())) := by kernel_rfl
theorem A2o (x0 : List Int) (x1 x2 x3 x4 : Int) : @Eq _ (gZ (zD EE R L) x0 x1 x2 x3 x4) (cond (zA x1)
 (cond (Nat.blt x1.toNat 16)
 (cond (zA x2)
 (cond (Nat.blt x2.toNat 16)
 (cond (zA x3)
 (cond (Nat.blt x3.toNat 16)
 (cond (zA x4)
 (cond (Nat.blt x4.toNat 16)
 ((gA R (x0.getD x1.toNat 0) (x0.getD x2.toNat 0) (x0.getD x3.toNat 0) (x0.getD x4.toNat 0)).bind fun r0 =>
 cond (zA x1)
 (cond (Nat.blt x1.toNat 16)
 (cond (zA x2)
 (cond (Nat.blt x2.toNat 16)
 (cond (zA x3)
 (cond (Nat.blt x3.toNat 16)
 (cond (zA x4)
 (cond (Nat.blt x4.toNat 16)
 (some ((((x0.set x1.toNat (r0.1.getD (0 : Int).toNat 0)).set x2.toNat (r0.1.getD (1 : Int).toNat 0)).set x3.toNat (r0.1.getD (2 : Int).toNat 0)).set x4.toNat (r0.1.getD (3 : Int).toNat 0), ()))
 none)
 none)
 none)
 none)
 none)
 none)
 none)
 none)
 none)
 none)
 none)
 none)
 none)
 none)
 none)
 none) := by kernel_rfl
theorem A2t (x0 x1:List UInt8) (x2:Int):@Eq _ (oC (zD EE R L) x0 x1 x2) (uJ R L x0 x1 x2 [0,0,0,0,0,0,0,0,0,0,0,0,0,0,0,0] 0):=by kernel_rfl
theorem AQ3 (v0 v1 : List UInt8) (v2 : Int) (v7 : List Int) (v8 : Int) : @Eq _ (uJ R L v0 v1 v2 v7 v8 ([1, 1, 0, 1, 0] ++ [0])) (cond (decide (v8 < 4))
 ((nU R [101, 120, 112, 97, 110, 100, 32, 51, 50, 45, 98, 121, 116, 101, 32, 107] (IntKind.wrap .i64 (4 * v8))).bind fun r0 =>
 cond (zA v8)
 (cond (Nat.blt v8.toNat 16)
 (uJ R L v0 v1 v2 (v7.set v8.toNat r0.1) (IntKind.wrap .i64 (v8 + 1)))
 none)
 none)
 (wP R L v0 v1 v2 v7 0)) := by kernel_rfl
theorem AQ6 (v0 v1 : List UInt8) (v2 : Int) (v7 : List Int) (v9 : Int) : @Eq _ (wP R L v0 v1 v2 v7 v9 ([1, 1, 1, 0, 1, 0] ++ [0])) (cond (decide (v9 < 8))
 ((nU R v0 (IntKind.wrap .i64 (4 * v9))).bind fun r0 =>
 cond (zA (IntKind.wrap .i64 (4 + v9)))
 (cond (Nat.blt (IntKind.wrap .i64 (4 + v9)).toNat 16)
 (wP R L v0 v1 v2 (v7.set (IntKind.wrap .i64 (4 + v9)).toNat r0.1) (IntKind.wrap .i64 (v9 + 1)))
 none)
 none)
 (wR R L v1 (v7.set (12 : Int).toNat v2) 0)) := by kernel_rfl
theorem AR0 (v1 : List UInt8) (v7 : List Int) (v10 : Int) : @Eq _ (wR R L v1 v7 v10 ([1, 1, 1, 1, 1, 0, 1, 0] ++ [0])) (cond (decide (v10 < 3))
 ((nU R v1 (IntKind.wrap .i64 (4 * v10))).bind fun r0 =>
 cond (zA (IntKind.wrap .i64 (13 + v10)))
 (cond (Nat.blt (IntKind.wrap .i64 (13 + v10)).toNat 16)
 (wR R L v1 (v7.set (IntKind.wrap .i64 (13 + v10)).toNat r0.1) (IntKind.wrap .i64 (v10 + 1)))
 none)
 none)
 (xC R L v7 v7 0)) := by kernel_rfl
theorem AO9 (v7 v11 : List Int) (v12 : Int) : @Eq _ (xC R L v7 v11 v12 ([1, 1, 1, 1, 1, 1, 1, 0, 1, 0] ++ [0])) (cond (decide (v12 < 10))
 (uP R L v7 v11 v12 0)
 (wN R L v7 v11 [] 0)) := by kernel_rfl
theorem AQ5 (v7 v11 : List Int) (v12 v13 : Int) : @Eq _ (uP R L v7 v11 v12 v13 ([1, 1, 1, 1, 1, 1, 1, 0, 1, 0, 0, 1, 0, 0, 0, 1, 0] ++ [0])) (cond (decide (v13 < 4))
 ((gZ R v11 v13 (IntKind.wrap .i64 (4 + v13)) (IntKind.wrap .i64 (8 + v13)) (IntKind.wrap .i64 (12 + v13))).bind fun r0 =>
 uP R L v7 r0.1 v12 (IntKind.wrap .i64 (v13 + 1)))
 (wQ R L v7 v11 v12 0)) := by kernel_rfl
theorem AP8 (v7 v11 v15 : List Int) (v16 : Int) : @Eq _ (wN R L v7 v11 v15 v16 ([1, 1, 1, 1, 1, 1, 1, 1, 1, 0, 1, 0] ++ [0])) (cond (decide (v16 < 16))
 (cond (zA v16)
 (cond (Nat.blt v16.toNat 16)
 (cond (zA v16)
 (cond (Nat.blt v16.toNat 16)
 ((cW R v15 (xH .and .i64 (IntKind.wrap .i64 ((v11.getD v16.toNat 0) + (v7.getD v16.toNat 0))) 4294967295)).bind fun r0 =>
 wN R L v7 v11 r0.1 (IntKind.wrap .i64 (v16 + 1)))
 none)
 none)
 none)
 none)
 (some (List.map (fun (n : Int) => UInt8.ofNat n.toNat) v15, ()))) := by kernel_rfl
theorem AO0 (v7 v11 : List Int) (v12 v14 : Int) : @Eq _ (wQ R L v7 v11 v12 v14 ([1, 1, 1, 1, 1, 1, 1, 0, 1, 0, 0, 1, 0, 0, 1, 1, 0] ++ [0])) (cond (decide (v14 < 4))
 ((gZ R v11 v14 (IntKind.wrap .i64 (4 + (Int.tmod (IntKind.wrap .i64 (v14 + 1)) 4))) (IntKind.wrap .i64 (8 + (Int.tmod (IntKind.wrap .i64 (v14 + 2)) 4))) (IntKind.wrap .i64 (12 + (Int.tmod (IntKind.wrap .i64 (v14 + 3)) 4)))).bind fun r0 =>
 wQ R L v7 r0.1 v12 (IntKind.wrap .i64 (v14 + 1)))
 (xC R L v7 v11 (IntKind.wrap .i64 (v12 + 1)))) := by kernel_rfl
theorem Ba4 (x0 x1:List UInt8):@Eq _ (A5E (zD EE R L) x0 x1) (kW R L x1 (List.map (fun (b:UInt8)=>(UInt8.toNat b:Int)) x0) ((List.map (fun (b:UInt8)=>(UInt8.toNat b:Int)) x0).length:Int) 0):=by kernel_rfl
theorem A2X (v1 : List UInt8) (v5 : List Int) (v10 v11 : Int) : @Eq _ (kW R L v1 v5 v10 v11 ([1, 1, 0, 1, 0] ++ [0])) (cond (decide (v11 < v10))
 (cond (zA v11)
 (cond (Nat.blt v11.toNat v5.length)
 (cond (zA v11)
 (cond (Nat.blt v11.toNat v1.length)
 (cond (zA v11)
 (cond (Nat.blt v11.toNat v5.length)
 (kW R L v1 (v5.set v11.toNat (xH .xor .u8 (v5.getD v11.toNat 0) (UInt8.toNat (v1.getD v11.toNat 0) : Int))) v10 (IntKind.wrap .i64 (v11 + 1)))
 none)
 none)
 none)
 none)
 none)
 none)
 (some (List.map (fun (n : Int) => UInt8.ofNat n.toNat) v5, ()))) := by kernel_rfl
theorem A7w (x0 x1:List UInt8) (x2:Int) (x3:List UInt8):@Eq _ (aA (zD EE R L) x0 x1 x2 x3) (rF R L x0 x1 x2 x3 [] [] 0):=by kernel_rfl
theorem Ah4 (v0 v1 : List UInt8) (v2 : Int) (v3 : List UInt8) (v9 : List Int) (v10 : List UInt8) (v11 : Int) : @Eq _ (rF R L v0 v1 v2 v3 v9 v10 v11 ([1, 1, 1, 0, 1, 0] ++ [0])) (cond (decide (v11 < (v3.length : Int)))
 (cond (eqI (Int.tmod v11 64) 0)
 ((oC R v0 v1 (IntKind.wrap .i64 (v2 + (IntKind.wrap .i64 (Int.tdiv v11 64))))).bind fun r0 =>
 cond (zA v11)
 (cond (Nat.blt v11.toNat v3.length)
 (cond (zA (Int.tmod v11 64))
 (cond (Nat.blt (Int.tmod v11 64).toNat r0.1.length)
 (cond (yT (v9.length + ([xH .xor .u8 (UInt8.toNat (v3.getD v11.toNat 0) : Int) (UInt8.toNat (r0.1.getD (Int.tmod v11 64).toNat 0) : Int)]).length))
 (rF R L v0 v1 v2 v3 (v9 ++ [xH .xor .u8 (UInt8.toNat (v3.getD v11.toNat 0) : Int) (UInt8.toNat (r0.1.getD (Int.tmod v11 64).toNat 0) : Int)]) r0.1 (IntKind.wrap .i64 (v11 + 1)))
 none)
 none)
 none)
 none)
 none)
 (cond (zA v11)
 (cond (Nat.blt v11.toNat v3.length)
 (cond (zA (Int.tmod v11 64))
 (cond (Nat.blt (Int.tmod v11 64).toNat v10.length)
 (cond (yT (v9.length + ([xH .xor .u8 (UInt8.toNat (v3.getD v11.toNat 0) : Int) (UInt8.toNat (v10.getD (Int.tmod v11 64).toNat 0) : Int)]).length))
 (rF R L v0 v1 v2 v3 (v9 ++ [xH .xor .u8 (UInt8.toNat (v3.getD v11.toNat 0) : Int) (UInt8.toNat (v10.getD (Int.tmod v11 64).toNat 0) : Int)]) v10 (IntKind.wrap .i64 (v11 + 1)))
 none)
 none)
 none)
 none)
 none))
 (some (List.map (fun (n : Int) => UInt8.ofNat n.toNat) v9, ()))) := by kernel_rfl
theorem Ax1 (x0 : d78) (x1 : Int) : @Eq _ (gL (zD EE R L) x0 x1) (cond (decide ((IntKind.wrap .i64 (x1 - (x0.2.2.2.2.1.length : Int))) < 0))
 (some (-1, ()))
 (cond (decide ((IntKind.wrap .i64 ((IntKind.wrap .i64 (x1 - (x0.2.2.2.2.1.length : Int))) - (x0.2.2.2.2.2.1.length : Int))) < 0))
 (some (-1, ()))
 (cond (decide ((IntKind.wrap .i64 ((IntKind.wrap .i64 ((IntKind.wrap .i64 (x1 - (x0.2.2.2.2.1.length : Int))) - (x0.2.2.2.2.2.1.length : Int))) - (x0.2.2.2.2.2.2.1.length : Int))) < 0))
 (some (-1, ()))
 (some (IntKind.wrap .i64 ((IntKind.wrap .i64 ((IntKind.wrap .i64 (x1 - (x0.2.2.2.2.1.length : Int))) - (x0.2.2.2.2.2.1.length : Int))) - (x0.2.2.2.2.2.2.1.length : Int)), ()))))) := by kernel_rfl
theorem A0u (x0 : List (List UInt8)) (x1 : Int) : @Eq _ (eG (zD EE R L) x0 x1) (cond (decide ((IntKind.wrap .i64 (x1 - (x0.length : Int))) < 0))
 (some (-1, ()))
 (vR R L x0 (IntKind.wrap .i64 (x1 - (x0.length : Int))) 0 0)) := by kernel_rfl
theorem AH4 (v0 : List (List UInt8)) (v1 v4 v5 : Int) : @Eq _ (vR R L v0 v1 v4 v5 ([1, 1, 1, 0, 1, 0] ++ [0])) (cond (decide (v5 < (v0.length : Int)))
 (cond (zA v5)
 (cond (Nat.blt v5.toNat v0.length)
 (cond (decide ((IntKind.wrap .i64 (v1 - ((v0.getD v5.toNat []).length : Int))) < 0))
 (some (-1, ()))
 (vR R L v0 (IntKind.wrap .i64 (v1 - ((v0.getD v5.toNat []).length : Int))) v4 (IntKind.wrap .i64 (v5 + 1))))
 none)
 none)
 (some (v1, ()))) := by kernel_rfl
theorem BM5 (x0 : d79) (x1 : Int) : @Eq _ (Al4 (zD EE R L) x0 x1) (cond (decide ((IntKind.wrap .i64 (x1 - (x0.2.1.length : Int))) < 0))
 (some (-1, ()))
 (some (IntKind.wrap .i64 (x1 - (x0.2.1.length : Int)), ()))) := by kernel_rfl
theorem BC3 (x0 : List d79) (x1 : Int) : @Eq _ (AX7 (zD EE R L) x0 x1) (cond (decide ((IntKind.wrap .i64 (x1 - (x0.length : Int))) < 0))
 (some (-1, ()))
 (pX R L x0 (IntKind.wrap .i64 (x1 - (x0.length : Int))) 0 0)) := by kernel_rfl
theorem At0 (v0 : List d79) (v1 v4 v5 : Int) : @Eq _ (pX R L v0 v1 v4 v5 ([1, 1, 1, 0, 1, 0] ++ [0])) (cond (decide (v5 < (v0.length : Int)))
 (cond (zA v5)
 (cond (Nat.blt v5.toNat v0.length)
 ((Al4 R (v0.getD v5.toNat (0, ([], ()))) v1).bind fun r0 =>
 cond (decide (r0.1 < 0))
 (some (-1, ()))
 (pX R L v0 r0.1 v4 (IntKind.wrap .i64 (v5 + 1))))
 none)
 none)
 (some (v1, ()))) := by kernel_rfl
theorem A3z (x0 : d80) (x1 : Int) : @Eq _ (cX (zD EE R L) x0 x1) ((eG R x0.1 x1).bind fun r0 =>
 cond (decide (r0.1 < 0))
 (some (-1, ()))
 ((AX7 R x0.2.1 r0.1).bind fun r1 =>
 cond (decide (r1.1 < 0))
 (some (-1, ()))
 (some (r1.1, ())))) := by kernel_rfl
theorem A4j (x0 : d81) (x1 : Int) : @Eq _ (AB7 (zD EE R L) x0 x1) (cond (decide ((IntKind.wrap .i64 (x1 - (x0.1.length : Int))) < 0))
 (some (-1, ()))
 ((gL R x0.2.1 (IntKind.wrap .i64 (x1 - (x0.1.length : Int)))).bind fun r0 =>
 cond (decide (r0.1 < 0))
 (some (-1, ()))
 ((cX R x0.2.2.1 r0.1).bind fun r1 =>
 cond (decide (r1.1 < 0))
 (some (-1, ()))
 (some (r1.1, ()))))) := by kernel_rfl
theorem Au3 (x0:d78):@Eq _ (gJ (zD EE R L) x0) (some ((x0.1,(x0.2.1,(x0.2.2.1,(x0.2.2.2.1,(x0.2.2.2.2.1,(x0.2.2.2.2.2.1,(x0.2.2.2.2.2.2.1,()))))))),())):=by kernel_rfl
theorem A1V (x0 : List (List UInt8)) : @Eq _ (fW (zD EE R L) x0) (cond (leI (x0.length : Int) (x0.length : Int))
 (cond (yT (x0.length : Int).toNat)
 (tD R L x0 [] (List.replicate (x0.length : Int).toNat []) 0)
 none)
 none) := by kernel_rfl
theorem AG5 (v0 v2 v3 : List (List UInt8)) (v4 : Int) : @Eq _ (tD R L v0 v2 v3 v4 ([1, 1, 0, 1, 0] ++ [0])) (cond (decide (v4 < (v0.length : Int)))
 (cond (zA v4)
 (cond (Nat.blt v4.toNat v0.length)
 (cond (zA v4)
 (cond (Nat.blt v4.toNat v3.length)
 (tD R L v0 v2 (v3.set v4.toNat (v0.getD v4.toNat [])) (IntKind.wrap .i64 (v4 + 1)))
 none)
 none)
 none)
 none)
 (some (v3, ()))) := by kernel_rfl
theorem BJ8 (x0:d79):@Eq _ (Ak1 (zD EE R L) x0) (some ((x0.1,(x0.2.1,())),())):=by kernel_rfl
theorem A9Q (x0 : List d79) : @Eq _ (AW7 (zD EE R L) x0) (cond (leI (x0.length : Int) (x0.length : Int))
 (cond (yT (x0.length : Int).toNat)
 (oF R L x0 [] (List.replicate (x0.length : Int).toNat (0, ([], ()))) 0)
 none)
 none) := by kernel_rfl
theorem Ap9 (v0 v2 v3 : List d79) (v4 : Int) : @Eq _ (oF R L v0 v2 v3 v4 ([1, 1, 0, 1, 0] ++ [0])) (cond (decide (v4 < (v0.length : Int)))
 (cond (zA v4)
 (cond (Nat.blt v4.toNat v0.length)
 ((Ak1 R (v0.getD v4.toNat (0, ([], ())))).bind fun r0 =>
 cond (zA v4)
 (cond (Nat.blt v4.toNat v3.length)
 (oF R L v0 v2 (v3.set v4.toNat r0.1) (IntKind.wrap .i64 (v4 + 1)))
 none)
 none)
 none)
 none)
 (some (v3, ()))) := by kernel_rfl
theorem A16 (x0 : d80) : @Eq _ (bA (zD EE R L) x0) ((fW R x0.1).bind fun r0 =>
 (AW7 R x0.2.1).bind fun r1 =>
 some ((r0.1, (r1.1, ())), ())) := by kernel_rfl
theorem A5V (x0 : d81) : @Eq _ (kM (zD EE R L) x0) ((gJ R x0.2.1).bind fun r0 =>
 (bA R x0.2.2.1).bind fun r1 =>
 some ((x0.1, (r0.1, (r1.1, (x0.2.2.2.1, (x0.2.2.2.2.1, ()))))), ())) := by kernel_rfl
theorem BG1 (x0 x1 x2 : Int) : @Eq _ (tL (zD EE R L) x0 x1 x2) (cond (decide (x1 ≤ x0))
 (some (decide (x0 ≤ x2), ()))
 (some (false, ()))) := by kernel_rfl
theorem A05 (x0:List Int):@Eq _ (fZ (zD EE R L) x0) (qF R L x0 0):=by kernel_rfl
theorem AJ3 (v0 : List Int) (v3 : Int) : @Eq _ (qF R L v0 v3 ([1, 0, 1, 0] ++ [0])) (cond (decide (v3 < (v0.length : Int)))
 (cond (zA v3)
 (cond (Nat.blt v3.toNat v0.length)
 ((tL R (v0.getD v3.toNat 0) 0 7).bind fun r0 =>
 cond (!r0.1)
 (some (false, ()))
 (qF R L v0 (IntKind.wrap .i64 (v3 + 1))))
 none)
 none)
 (some (true, ()))) := by kernel_rfl
theorem Au2 (x0 : d78) : @Eq _ (gB (zD EE R L) x0) ((tL R x0.1 0 1000000).bind fun r0 =>
 cond r0.1
 ((tL R x0.2.1 0 1).bind fun r1 =>
 cond r1.1
 ((tL R x0.2.2.2.1 0 1000000).bind fun r2 =>
 cond r2.1
 ((tL R x0.2.2.1 x0.1 (A0W (IntKind.wrap .i64 (x0.1 + 4)) 1000000)).bind fun r3 =>
 cond r3.1
 (cond (eqI (x0.2.2.2.2.1.length : Int) 32)
 (cond (eqI (x0.2.2.2.2.2.1.length : Int) 32)
 (cond (eqI (x0.2.2.2.2.2.2.1.length : Int) 32)
 (cond (decide (x0.1 < x0.2.2.1))
 (some (true, ()))
 (some (eqS x0.2.2.2.2.1 x0.2.2.2.2.2.1, ())))
 (some (false, ())))
 (some (false, ())))
 (some (false, ())))
 (some (false, ())))
 (some (false, ())))
 (some (false, ())))
 (some (false, ()))) := by kernel_rfl
theorem A9U (x0 : Int) : @Eq _ (AW8 (zD EE R L) x0) ((tL R x0 0 39).bind fun r0 =>
 some (r0.1, ())) := by kernel_rfl
theorem A2J (x0 : d80) : @Eq _ (cJ (zD EE R L) x0) (cond (!(eqI (x0.1.length : Int) 40))
 (some (false, ()))
 (cond (decide (60 < (x0.2.1.length : Int)))
 (some (false, ()))
 (pQ R L x0 x0 false 0))) := by kernel_rfl
theorem AP3 (v0 v1 : d80) (v2 : Bool) (v3 : Int) : @Eq _ (pQ R L v0 v1 v2 v3 ([1, 1, 0, 1, 0] ++ [0])) (cond (decide (v3 < (v1.1.length : Int)))
 (cond (zA v3)
 (cond (Nat.blt v3.toNat v1.1.length)
 (cond (decide (700 < ((v1.1.getD v3.toNat []).length : Int)))
 (some (false, ()))
 (pQ R L v0 v1 v2 (IntKind.wrap .i64 (v3 + 1))))
 none)
 none)
 (pC R L v0 v1 v2 v3 0)) := by kernel_rfl
theorem AP1 (v0 v1 : d80) (v2 : Bool) (v3 v4 : Int) : @Eq _ (pC R L v0 v1 v2 v3 v4 ([1, 1, 1, 0, 1, 0] ++ [0])) (cond (decide (v4 < (v1.2.1.length : Int)))
 (cond (zA v4)
 (cond (Nat.blt v4.toNat v1.2.1.length)
 ((AW8 R (v1.2.1.getD v4.toNat (0, ([], ()))).1).bind fun r0 =>
 cond (!r0.1)
 (some (false, ()))
 (cond (zA v4)
 (cond (Nat.blt v4.toNat v1.2.1.length)
 (cond (decide (700 < ((v1.2.1.getD v4.toNat (0, ([], ()))).2.1.length : Int)))
 (some (false, ()))
 (pC R L v0 v1 v2 v3 (IntKind.wrap .i64 (v4 + 1))))
 none)
 none))
 none)
 none)
 (some (true, ()))) := by kernel_rfl
theorem A5R (x0 : d81) : @Eq _ (aS (zD EE R L) x0) (cond (eqI (x0.1.length : Int) 32)
 ((gB R x0.2.1).bind fun r0 =>
 cond r0.1
 ((cJ R x0.2.2.1).bind fun r1 =>
 cond r1.1
 (cond (eqI (x0.2.2.1.2.1.length : Int) 0)
 (cond x0.2.2.2.1
 (some (!x0.2.2.2.2.1, ()))
 (some (!false, ())))
 (some (false, ())))
 (some (false, ())))
 (some (false, ())))
 (some (false, ()))) := by kernel_rfl
theorem A78 (x0 : d81) : @Eq _ (AK0 (zD EE R L) x0) (cond x0.2.2.2.2.1
 (some (18, ()))
 (cond (!x0.2.2.2.1)
 (some (16, ()))
 (some (0, ())))) := by kernel_rfl
theorem A1w (x0:Int):@Eq _ (kV (zD EE R L) x0) (sF R L x0 [] 0):=by kernel_rfl
theorem AQ7 (v0 : Int) (v3 : List Int) (v4 : Int) : @Eq _ (sF R L v0 v3 v4 ([1, 1, 0, 1, 0] ++ [0])) (cond (decide (v4 < 8))
 (cond (decide ((IntKind.wrap .i64 (8 * v4)) < 0))
 none
 (cond (yT (v3.length + ([IntKind.wrap .u8 (Int.fdiv v0 (2 ^ (Min.min (IntKind.wrap .i64 (8 * v4)).toNat (IntKind.bits .i64))))]).length))
 (sF R L v0 (v3 ++ [IntKind.wrap .u8 (Int.fdiv v0 (2 ^ (Min.min (IntKind.wrap .i64 (8 * v4)).toNat (IntKind.bits .i64))))]) (IntKind.wrap .i64 (v4 + 1)))
 none))
 (some (List.map (fun (n : Int) => UInt8.ofNat n.toNat) v3, ()))) := by kernel_rfl
theorem A3G (x0 x1 x2 : Int) : @Eq _ (cU (zD EE R L) x0 x1 x2) ((kV R x2).bind fun r0 =>
 cond (yT ((List.map (fun (n : Int) => UInt8.ofNat n.toNat) [IntKind.wrap .u8 x0, IntKind.wrap .u8 x1, IntKind.wrap .u8 (Int.fdiv x1 (2 ^ (Min.min (8 : Int).toNat (IntKind.bits .i64)))), 0]).length + r0.1.length))
 (some ((List.map (fun (n : Int) => UInt8.ofNat n.toNat) [IntKind.wrap .u8 x0, IntKind.wrap .u8 x1, IntKind.wrap .u8 (Int.fdiv x1 (2 ^ (Min.min (8 : Int).toNat (IntKind.bits .i64)))), 0]) ++ r0.1, ()))
 none) := by kernel_rfl
theorem A64 (x0:List UInt8):@Eq _ (aD (zD EE R L) x0) (kZ R L x0):=by kernel_rfl
theorem A2U (v0 : List UInt8) : @Eq _ (kZ R L v0 ([1, 0, 0] ++ [0])) (cond (!(eqI (Int.tmod (v0.length : Int) 16) 0))
 (cond (yT (v0.length + ([(0 : UInt8)]).length))
 (kZ R L (v0 ++ [0]))
 none)
 (some (v0, ()))) := by kernel_rfl
theorem A3r (x0 : List UInt8) : @Eq _ (cK (zD EE R L) x0) (cond (Nat.ble (16 : Int).toNat x0.length)
 (uR R L (List.map (fun (b : UInt8) => (UInt8.toNat b : Int)) (List.drop 0 (List.take (16 : Int).toNat x0))) 3)
 none) := by kernel_rfl
theorem AQ1 (v3 : List Int) (v4 : Int) : @Eq _ (uR R L v3 v4 ([1, 1, 0, 1, 0] ++ [0])) (cond (decide (v4 < 16))
 (cond (zA v4)
 (cond (Nat.blt v4.toNat v3.length)
 (cond (zA v4)
 (cond (Nat.blt v4.toNat v3.length)
 (uR R L (v3.set v4.toNat (xH .and .u8 (v3.getD v4.toNat 0) 15)) (IntKind.wrap .i64 (v4 + 4)))
 none)
 none)
 none)
 none)
 (uX R L v3 4)) := by kernel_rfl
theorem AO5 (v3 : List Int) (v5 : Int) : @Eq _ (uX R L v3 v5 ([1, 1, 1, 0, 1, 0] ++ [0])) (cond (decide (v5 < 16))
 (cond (zA v5)
 (cond (Nat.blt v5.toNat v3.length)
 (cond (zA v5)
 (cond (Nat.blt v5.toNat v3.length)
 (uX R L (v3.set v5.toNat (xH .and .u8 (v3.getD v5.toNat 0) 252)) (IntKind.wrap .i64 (v5 + 4)))
 none)
 none)
 none)
 none)
 (some (List.map (fun (n : Int) => UInt8.ofNat n.toNat) v3, ()))) := by kernel_rfl
theorem A3w (x0:List UInt8):@Eq _ (kU (zD EE R L) x0) (vM R L x0 (List.replicate 5 0) [0,0,0,0,0] 0):=by kernel_rfl
theorem AP4 (v0 : List UInt8) (v2 v3 : List Int) (v4 : Int) : @Eq _ (vM R L v0 v2 v3 v4 ([1, 1, 0, 1, 0] ++ [0])) (cond (decide (v4 < 17))
 (cond (zA v4)
 (cond (Nat.blt v4.toNat v0.length)
 (cond (zA (IntKind.wrap .i64 (Int.tdiv (IntKind.wrap .i64 (8 * v4)) 26)))
 (cond (Nat.blt (IntKind.wrap .i64 (Int.tdiv (IntKind.wrap .i64 (8 * v4)) 26)).toNat 5)
 (cond (decide ((Int.tmod (IntKind.wrap .i64 (8 * v4)) 26) < 0))
 none
 (cond (zA (IntKind.wrap .i64 (Int.tdiv (IntKind.wrap .i64 (8 * v4)) 26)))
 (cond (Nat.blt (IntKind.wrap .i64 (Int.tdiv (IntKind.wrap .i64 (8 * v4)) 26)).toNat 5)
 (cond (decide (18 < (Int.tmod (IntKind.wrap .i64 (8 * v4)) 26)))
 (cond (decide ((IntKind.wrap .i64 (Int.tdiv (IntKind.wrap .i64 (8 * v4)) 26)) < 4))
 (cond (zA (IntKind.wrap .i64 ((IntKind.wrap .i64 (Int.tdiv (IntKind.wrap .i64 (8 * v4)) 26)) + 1)))
 (cond (Nat.blt (IntKind.wrap .i64 ((IntKind.wrap .i64 (Int.tdiv (IntKind.wrap .i64 (8 * v4)) 26)) + 1)).toNat 5)
 (cond (decide ((IntKind.wrap .i64 (26 - (Int.tmod (IntKind.wrap .i64 (8 * v4)) 26))) < 0))
 none
 (cond (zA (IntKind.wrap .i64 ((IntKind.wrap .i64 (Int.tdiv (IntKind.wrap .i64 (8 * v4)) 26)) + 1)))
 (cond (Nat.blt (IntKind.wrap .i64 ((IntKind.wrap .i64 (Int.tdiv (IntKind.wrap .i64 (8 * v4)) 26)) + 1)).toNat 5)
 (vM R L v0 v2 ((v3.set (IntKind.wrap .i64 (Int.tdiv (IntKind.wrap .i64 (8 * v4)) 26)).toNat (IntKind.wrap .i64 ((v3.getD (IntKind.wrap .i64 (Int.tdiv (IntKind.wrap .i64 (8 * v4)) 26)).toNat 0) + (xH .and .i64 (IntKind.wrap .i64 ((IntKind.wrap .i64 (UInt8.toNat (v0.getD v4.toNat 0) : Int)) * (2 ^ (Min.min (Int.tmod (IntKind.wrap .i64 (8 * v4)) 26).toNat (IntKind.bits .i64))))) 67108863)))).set (IntKind.wrap .i64 ((IntKind.wrap .i64 (Int.tdiv (IntKind.wrap .i64 (8 * v4)) 26)) + 1)).toNat (IntKind.wrap .i64 (((v3.set (IntKind.wrap .i64 (Int.tdiv (IntKind.wrap .i64 (8 * v4)) 26)).toNat (IntKind.wrap .i64 ((v3.getD (IntKind.wrap .i64 (Int.tdiv (IntKind.wrap .i64 (8 * v4)) 26)).toNat 0) + (xH .and .i64 (IntKind.wrap .i64 ((IntKind.wrap .i64 (UInt8.toNat (v0.getD v4.toNat 0) : Int)) * (2 ^ (Min.min (Int.tmod (IntKind.wrap .i64 (8 * v4)) 26).toNat (IntKind.bits .i64))))) 67108863)))).getD (IntKind.wrap .i64 ((IntKind.wrap .i64 (Int.tdiv (IntKind.wrap .i64 (8 * v4)) 26)) + 1)).toNat 0) + (Int.fdiv (IntKind.wrap .i64 (UInt8.toNat (v0.getD v4.toNat 0) : Int)) (2 ^ (Min.min (IntKind.wrap .i64 (26 - (Int.tmod (IntKind.wrap .i64 (8 * v4)) 26))).toNat (IntKind.bits .i64))))))) (IntKind.wrap .i64 (v4 + 1)))
 none)
 none))
 none)
 none)
 (vM R L v0 v2 (v3.set (IntKind.wrap .i64 (Int.tdiv (IntKind.wrap .i64 (8 * v4)) 26)).toNat (IntKind.wrap .i64 ((v3.getD (IntKind.wrap .i64 (Int.tdiv (IntKind.wrap .i64 (8 * v4)) 26)).toNat 0) + (xH .and .i64 (IntKind.wrap .i64 ((IntKind.wrap .i64 (UInt8.toNat (v0.getD v4.toNat 0) : Int)) * (2 ^ (Min.min (Int.tmod (IntKind.wrap .i64 (8 * v4)) 26).toNat (IntKind.bits .i64))))) 67108863)))) (IntKind.wrap .i64 (v4 + 1))))
 (vM R L v0 v2 (v3.set (IntKind.wrap .i64 (Int.tdiv (IntKind.wrap .i64 (8 * v4)) 26)).toNat (IntKind.wrap .i64 ((v3.getD (IntKind.wrap .i64 (Int.tdiv (IntKind.wrap .i64 (8 * v4)) 26)).toNat 0) + (xH .and .i64 (IntKind.wrap .i64 ((IntKind.wrap .i64 (UInt8.toNat (v0.getD v4.toNat 0) : Int)) * (2 ^ (Min.min (Int.tmod (IntKind.wrap .i64 (8 * v4)) 26).toNat (IntKind.bits .i64))))) 67108863)))) (IntKind.wrap .i64 (v4 + 1))))
 none)
 none))
 none)
 none)
 none)
 none)
 (some (v3, ()))) := by kernel_rfl
theorem A30 (x0:List Int):@Eq _ (mQ (zD EE R L) x0) (pO R L x0 (List.replicate 5 0) 0):=by kernel_rfl
theorem At7 (v1 v2 : List Int) (v3 : Int) : @Eq _ (pO R L v1 v2 v3 ([1, 0, 1, 0] ++ [0])) (cond (decide (v3 < 3))
 (uK R L v1 v2 v3 0)
 (some (v1, ()))) := by kernel_rfl
theorem AP6 (v1 v2 : List Int) (v3 v4 : Int) : @Eq _ (uK R L v1 v2 v3 v4 ([1, 0, 1, 0, 0, 1, 0, 0, 0, 1, 0] ++ [0])) (cond (decide (v4 < 4))
 (cond (zA (IntKind.wrap .i64 (v4 + 1)))
 (cond (Nat.blt (IntKind.wrap .i64 (v4 + 1)).toNat 5)
 (cond (zA v4)
 (cond (Nat.blt v4.toNat 5)
 (cond (zA (IntKind.wrap .i64 (v4 + 1)))
 (cond (Nat.blt (IntKind.wrap .i64 (v4 + 1)).toNat 5)
 (cond (zA v4)
 (cond (Nat.blt v4.toNat 5)
 (cond (zA v4)
 (cond (Nat.blt v4.toNat 5)
 (uK R L ((v1.set (IntKind.wrap .i64 (v4 + 1)).toNat (IntKind.wrap .i64 ((v1.getD (IntKind.wrap .i64 (v4 + 1)).toNat 0) + (Int.fdiv (v1.getD v4.toNat 0) (2 ^ (Min.min (26 : Int).toNat (IntKind.bits .i64))))))).set v4.toNat (xH .and .i64 ((v1.set (IntKind.wrap .i64 (v4 + 1)).toNat (IntKind.wrap .i64 ((v1.getD (IntKind.wrap .i64 (v4 + 1)).toNat 0) + (Int.fdiv (v1.getD v4.toNat 0) (2 ^ (Min.min (26 : Int).toNat (IntKind.bits .i64))))))).getD v4.toNat 0) 67108863)) v2 v3 (IntKind.wrap .i64 (v4 + 1)))
 none)
 none)
 none)
 none)
 none)
 none)
 none)
 none)
 none)
 none)
 (pO R L ((v1.set (0 : Int).toNat (IntKind.wrap .i64 ((v1.getD (0 : Int).toNat 0) + (IntKind.wrap .i64 (5 * (Int.fdiv (v1.getD (4 : Int).toNat 0) (2 ^ (Min.min (26 : Int).toNat (IntKind.bits .i64))))))))).set (4 : Int).toNat (xH .and .i64 ((v1.set (0 : Int).toNat (IntKind.wrap .i64 ((v1.getD (0 : Int).toNat 0) + (IntKind.wrap .i64 (5 * (Int.fdiv (v1.getD (4 : Int).toNat 0) (2 ^ (Min.min (26 : Int).toNat (IntKind.bits .i64))))))))).getD (4 : Int).toNat 0) 67108863)) v2 (IntKind.wrap .i64 (v3 + 1)))) := by kernel_rfl
theorem A3X (x0 x1:List Int):@Eq _ (kO (zD EE R L) x0 x1) (vO R L x0 x1 (List.replicate 5 0) [0,0,0,0,0] 0):=by kernel_rfl
theorem AQ0 (v2 v3 v4 v5 : List Int) (v6 : Int) : @Eq _ (vO R L v2 v3 v4 v5 v6 ([1, 1, 0, 1, 0] ++ [0])) (cond (decide (v6 < 5))
 (vN R L v2 v3 v4 v5 v6 0)
 ((mQ R v5).bind fun r0 =>
 some (r0.1, ()))) := by kernel_rfl
theorem AP2 (v2 v3 v4 v5 : List Int) (v6 v7 : Int) : @Eq _ (vN R L v2 v3 v4 v5 v6 v7 ([1, 1, 0, 1, 0, 0, 1, 0, 0, 1, 0] ++ [0])) (cond (decide (v7 < 5))
 (cond (zA v6)
 (cond (Nat.blt v6.toNat 5)
 (cond (zA v7)
 (cond (Nat.blt v7.toNat 5)
 (cond (decide (4 < (IntKind.wrap .i64 (v6 + v7))))
 (cond (zA (Int.tmod (IntKind.wrap .i64 (v6 + v7)) 5))
 (cond (Nat.blt (Int.tmod (IntKind.wrap .i64 (v6 + v7)) 5).toNat 5)
 (cond (zA (Int.tmod (IntKind.wrap .i64 (v6 + v7)) 5))
 (cond (Nat.blt (Int.tmod (IntKind.wrap .i64 (v6 + v7)) 5).toNat 5)
 (vN R L v2 v3 v4 (v5.set (Int.tmod (IntKind.wrap .i64 (v6 + v7)) 5).toNat (IntKind.wrap .i64 ((v5.getD (Int.tmod (IntKind.wrap .i64 (v6 + v7)) 5).toNat 0) + (IntKind.wrap .i64 ((IntKind.wrap .i64 ((v2.getD v6.toNat 0) * (v3.getD v7.toNat 0))) * 5))))) v6 (IntKind.wrap .i64 (v7 + 1)))
 none)
 none)
 none)
 none)
 (cond (zA (Int.tmod (IntKind.wrap .i64 (v6 + v7)) 5))
 (cond (Nat.blt (Int.tmod (IntKind.wrap .i64 (v6 + v7)) 5).toNat 5)
 (cond (zA (Int.tmod (IntKind.wrap .i64 (v6 + v7)) 5))
 (cond (Nat.blt (Int.tmod (IntKind.wrap .i64 (v6 + v7)) 5).toNat 5)
 (vN R L v2 v3 v4 (v5.set (Int.tmod (IntKind.wrap .i64 (v6 + v7)) 5).toNat (IntKind.wrap .i64 ((v5.getD (Int.tmod (IntKind.wrap .i64 (v6 + v7)) 5).toNat 0) + (IntKind.wrap .i64 ((v2.getD v6.toNat 0) * (v3.getD v7.toNat 0)))))) v6 (IntKind.wrap .i64 (v7 + 1)))
 none)
 none)
 none)
 none))
 none)
 none)
 none)
 none)
 (vO R L v2 v3 v4 v5 (IntKind.wrap .i64 (v6 + 1)))) := by kernel_rfl
theorem A5c (x0:List Int):@Eq _ (AA8 (zD EE R L) x0) (rK R L x0 (List.replicate 5 0) (x0.set (0:Int).toNat (IntKind.wrap .i64 ((x0.getD (0:Int).toNat 0) + 5))) 0):=by kernel_rfl
theorem AW9 (v1 v2 v3 : List Int) (v4 : Int) : @Eq _ (rK R L v1 v2 v3 v4 ([1, 1, 1, 0, 1, 0] ++ [0])) (cond (decide (v4 < 4))
 (cond (zA (IntKind.wrap .i64 (v4 + 1)))
 (cond (Nat.blt (IntKind.wrap .i64 (v4 + 1)).toNat 5)
 (cond (zA v4)
 (cond (Nat.blt v4.toNat 5)
 (cond (zA (IntKind.wrap .i64 (v4 + 1)))
 (cond (Nat.blt (IntKind.wrap .i64 (v4 + 1)).toNat 5)
 (cond (zA v4)
 (cond (Nat.blt v4.toNat 5)
 (cond (zA v4)
 (cond (Nat.blt v4.toNat 5)
 (rK R L v1 v2 ((v3.set (IntKind.wrap .i64 (v4 + 1)).toNat (IntKind.wrap .i64 ((v3.getD (IntKind.wrap .i64 (v4 + 1)).toNat 0) + (Int.fdiv (v3.getD v4.toNat 0) (2 ^ (Min.min (26 : Int).toNat (IntKind.bits .i64))))))).set v4.toNat (xH .and .i64 ((v3.set (IntKind.wrap .i64 (v4 + 1)).toNat (IntKind.wrap .i64 ((v3.getD (IntKind.wrap .i64 (v4 + 1)).toNat 0) + (Int.fdiv (v3.getD v4.toNat 0) (2 ^ (Min.min (26 : Int).toNat (IntKind.bits .i64))))))).getD v4.toNat 0) 67108863)) (IntKind.wrap .i64 (v4 + 1)))
 none)
 none)
 none)
 none)
 none)
 none)
 none)
 none)
 none)
 none)
 (cond (eqI (Int.fdiv (v3.getD (4 : Int).toNat 0) (2 ^ (Min.min (26 : Int).toNat (IntKind.bits .i64)))) 0)
 (some (v1, ()))
 (some (v3.set (4 : Int).toNat (xH .and .i64 (v3.getD (4 : Int).toNat 0) 67108863), ())))) := by kernel_rfl
theorem A77 (x0 x1 : List UInt8) : @Eq _ (eJ (zD EE R L) x0 x1) ((cK R x0).bind fun r0 =>
 cond (yT (r0.1.length + ([(0 : UInt8)]).length))
 ((kU R (r0.1 ++ [0])).bind fun r1 =>
 rH R L x0 x1 r1.1 [0, 0, 0, 0, 0] 0)
 none) := by kernel_rfl
theorem Af0 (v0 v1 : List UInt8) (v5 v6 : List Int) (v7 : Int) : @Eq _ (rH R L v0 v1 v5 v6 v7 ([1, 1, 1, 0, 1, 0] ++ [0])) (cond (decide (v7 < (v1.length : Int)))
 (cond (zA (A0W (v1.length : Int) (IntKind.wrap .i64 (v7 + 16))))
 (cond (zA v7)
 (cond (Nat.ble (A0W (v1.length : Int) (IntKind.wrap .i64 (v7 + 16))).toNat v1.length)
 (cond (Nat.ble v7.toNat (A0W (v1.length : Int) (IntKind.wrap .i64 (v7 + 16))).toNat)
 (cond (yT ((List.drop v7.toNat (List.take (A0W (v1.length : Int) (IntKind.wrap .i64 (v7 + 16))).toNat v1)).length + ([(1 : UInt8)]).length))
 (oK R L v0 v1 v5 v6 v7 ((List.drop v7.toNat (List.take (A0W (v1.length : Int) (IntKind.wrap .i64 (v7 + 16))).toNat v1)) ++ [1]))
 none)
 none)
 none)
 none)
 none)
 ((mQ R v6).bind fun r0 =>
 (AA8 R r0.1).bind fun r1 =>
 uO R L v0 r1.1 [] 0 0)) := by kernel_rfl
theorem Ah5 (v0 v1 : List UInt8) (v5 v6 : List Int) (v7 : Int) (v8 : List UInt8) : @Eq _ (oK R L v0 v1 v5 v6 v7 v8 ([1, 1, 1, 0, 1, 0, 0, 1, 0, 0, 1, 0, 0] ++ [0])) (cond (decide ((v8.length : Int) < 17))
 (cond (yT (v8.length + ([(0 : UInt8)]).length))
 (oK R L v0 v1 v5 v6 v7 (v8 ++ [0]))
 none)
 ((kU R v8).bind fun r0 =>
 tW R L v0 v1 v5 v6 v7 r0.1 0)) := by kernel_rfl
theorem Ae6 (v0 : List UInt8) (v6 v11 : List Int) (v12 v13 : Int) : @Eq _ (uO R L v0 v6 v11 v12 v13 ([1, 1, 1, 1, 1, 1, 1, 0, 1, 0] ++ [0])) (cond (decide (v13 < 16))
 (cond (zA (IntKind.wrap .i64 (Int.tdiv (IntKind.wrap .i64 (8 * v13)) 26)))
 (cond (Nat.blt (IntKind.wrap .i64 (Int.tdiv (IntKind.wrap .i64 (8 * v13)) 26)).toNat 5)
 (cond (decide ((Int.tmod (IntKind.wrap .i64 (8 * v13)) 26) < 0))
 none
 (cond (decide (18 < (Int.tmod (IntKind.wrap .i64 (8 * v13)) 26)))
 (cond (zA (IntKind.wrap .i64 ((IntKind.wrap .i64 (Int.tdiv (IntKind.wrap .i64 (8 * v13)) 26)) + 1)))
 (cond (Nat.blt (IntKind.wrap .i64 ((IntKind.wrap .i64 (Int.tdiv (IntKind.wrap .i64 (8 * v13)) 26)) + 1)).toNat 5)
 (cond (decide ((IntKind.wrap .i64 (26 - (Int.tmod (IntKind.wrap .i64 (8 * v13)) 26))) < 0))
 none
 (cond (zA (IntKind.wrap .i64 (16 + v13)))
 (cond (Nat.blt (IntKind.wrap .i64 (16 + v13)).toNat v0.length)
 (cond (yT (v11.length + ([IntKind.wrap .u8 (IntKind.wrap .i64 (v12 + (IntKind.wrap .i64 ((xH .and .i64 (IntKind.wrap .i64 ((Int.fdiv (v6.getD (IntKind.wrap .i64 (Int.tdiv (IntKind.wrap .i64 (8 * v13)) 26)).toNat 0) (2 ^ (Min.min (Int.tmod (IntKind.wrap .i64 (8 * v13)) 26).toNat (IntKind.bits .i64)))) + (IntKind.wrap .i64 ((v6.getD (IntKind.wrap .i64 ((IntKind.wrap .i64 (Int.tdiv (IntKind.wrap .i64 (8 * v13)) 26)) + 1)).toNat 0) * (2 ^ (Min.min (IntKind.wrap .i64 (26 - (Int.tmod (IntKind.wrap .i64 (8 * v13)) 26))).toNat (IntKind.bits .i64))))))) 255) + (IntKind.wrap .i64 (UInt8.toNat (v0.getD (IntKind.wrap .i64 (16 + v13)).toNat 0) : Int))))))]).length))
 (uO R L v0 v6 (v11 ++ [IntKind.wrap .u8 (IntKind.wrap .i64 (v12 + (IntKind.wrap .i64 ((xH .and .i64 (IntKind.wrap .i64 ((Int.fdiv (v6.getD (IntKind.wrap .i64 (Int.tdiv (IntKind.wrap .i64 (8 * v13)) 26)).toNat 0) (2 ^ (Min.min (Int.tmod (IntKind.wrap .i64 (8 * v13)) 26).toNat (IntKind.bits .i64)))) + (IntKind.wrap .i64 ((v6.getD (IntKind.wrap .i64 ((IntKind.wrap .i64 (Int.tdiv (IntKind.wrap .i64 (8 * v13)) 26)) + 1)).toNat 0) * (2 ^ (Min.min (IntKind.wrap .i64 (26 - (Int.tmod (IntKind.wrap .i64 (8 * v13)) 26))).toNat (IntKind.bits .i64))))))) 255) + (IntKind.wrap .i64 (UInt8.toNat (v0.getD (IntKind.wrap .i64 (16 + v13)).toNat 0) : Int))))))]) (Int.fdiv (IntKind.wrap .i64 (v12 + (IntKind.wrap .i64 ((xH .and .i64 (IntKind.wrap .i64 ((Int.fdiv (v6.getD (IntKind.wrap .i64 (Int.tdiv (IntKind.wrap .i64 (8 * v13)) 26)).toNat 0) (2 ^ (Min.min (Int.tmod (IntKind.wrap .i64 (8 * v13)) 26).toNat (IntKind.bits .i64)))) + (IntKind.wrap .i64 ((v6.getD (IntKind.wrap .i64 ((IntKind.wrap .i64 (Int.tdiv (IntKind.wrap .i64 (8 * v13)) 26)) + 1)).toNat 0) * (2 ^ (Min.min (IntKind.wrap .i64 (26 - (Int.tmod (IntKind.wrap .i64 (8 * v13)) 26))).toNat (IntKind.bits .i64))))))) 255) + (IntKind.wrap .i64 (UInt8.toNat (v0.getD (IntKind.wrap .i64 (16 + v13)).toNat 0) : Int)))))) (2 ^ (Min.min (8 : Int).toNat (IntKind.bits .i64)))) (IntKind.wrap .i64 (v13 + 1)))
 none)
 none)
 none))
 none)
 none)
 (cond (zA (IntKind.wrap .i64 (16 + v13)))
 (cond (Nat.blt (IntKind.wrap .i64 (16 + v13)).toNat v0.length)
 (cond (yT (v11.length + ([IntKind.wrap .u8 (IntKind.wrap .i64 (v12 + (IntKind.wrap .i64 ((xH .and .i64 (Int.fdiv (v6.getD (IntKind.wrap .i64 (Int.tdiv (IntKind.wrap .i64 (8 * v13)) 26)).toNat 0) (2 ^ (Min.min (Int.tmod (IntKind.wrap .i64 (8 * v13)) 26).toNat (IntKind.bits .i64)))) 255) + (IntKind.wrap .i64 (UInt8.toNat (v0.getD (IntKind.wrap .i64 (16 + v13)).toNat 0) : Int))))))]).length))
 (uO R L v0 v6 (v11 ++ [IntKind.wrap .u8 (IntKind.wrap .i64 (v12 + (IntKind.wrap .i64 ((xH .and .i64 (Int.fdiv (v6.getD (IntKind.wrap .i64 (Int.tdiv (IntKind.wrap .i64 (8 * v13)) 26)).toNat 0) (2 ^ (Min.min (Int.tmod (IntKind.wrap .i64 (8 * v13)) 26).toNat (IntKind.bits .i64)))) 255) + (IntKind.wrap .i64 (UInt8.toNat (v0.getD (IntKind.wrap .i64 (16 + v13)).toNat 0) : Int))))))]) (Int.fdiv (IntKind.wrap .i64 (v12 + (IntKind.wrap .i64 ((xH .and .i64 (Int.fdiv (v6.getD (IntKind.wrap .i64 (Int.tdiv (IntKind.wrap .i64 (8 * v13)) 26)).toNat 0) (2 ^ (Min.min (Int.tmod (IntKind.wrap .i64 (8 * v13)) 26).toNat (IntKind.bits .i64)))) 255) + (IntKind.wrap .i64 (UInt8.toNat (v0.getD (IntKind.wrap .i64 (16 + v13)).toNat 0) : Int)))))) (2 ^ (Min.min (8 : Int).toNat (IntKind.bits .i64)))) (IntKind.wrap .i64 (v13 + 1)))
 none)
 none)
 none)))
 none)
 none)
 (some (List.map (fun (n : Int) => UInt8.ofNat n.toNat) v11, ()))) := by kernel_rfl
theorem Ah1 (v0 v1 : List UInt8) (v5 v6 : List Int) (v7 : Int) (v9 : List Int) (v10 : Int) : @Eq _ (tW R L v0 v1 v5 v6 v7 v9 v10 ([1, 1, 1, 0, 1, 0, 0, 1, 0, 0, 1, 1, 1, 0, 1, 0] ++ [0])) (cond (decide (v10 < 5))
 (cond (zA v10)
 (cond (Nat.blt v10.toNat 5)
 (cond (zA v10)
 (cond (Nat.blt v10.toNat 5)
 (cond (zA v10)
 (cond (Nat.blt v10.toNat 5)
 (tW R L v0 v1 v5 (v6.set v10.toNat (IntKind.wrap .i64 ((v6.getD v10.toNat 0) + (v9.getD v10.toNat 0)))) v7 v9 (IntKind.wrap .i64 (v10 + 1)))
 none)
 none)
 none)
 none)
 none)
 none)
 ((kO R v6 v5).bind fun r0 =>
 rH R L v0 v1 v5 r0.1 (IntKind.wrap .i64 (v7 + 16)))) := by kernel_rfl
theorem A66 (x0 x1 x2 x3 : List UInt8) : @Eq _ (AM1 (zD EE R L) x0 x1 x2 x3) ((oC R x0 x1 0).bind fun r0 =>
 cond (Nat.ble (32 : Int).toNat r0.1.length)
 ((aD R x2).bind fun r1 =>
 (aD R x3).bind fun r2 =>
 cond (yT (r1.1.length + r2.1.length))
 ((kV R (x2.length : Int)).bind fun r3 =>
 cond (yT ((r1.1 ++ r2.1).length + r3.1.length))
 ((kV R (x3.length : Int)).bind fun r4 =>
 cond (yT (((r1.1 ++ r2.1) ++ r3.1).length + r4.1.length))
 ((eJ R (List.drop 0 (List.take (32 : Int).toNat r0.1)) (((r1.1 ++ r2.1) ++ r3.1) ++ r4.1)).bind fun r5 =>
 some (r5.1, ()))
 none)
 none)
 none)
 none) := by kernel_rfl
theorem A7S (x0 : d80) : @Eq _ (AJ9 (zD EE R L) x0) (cond (yT (([] : List (List UInt8)).length + x0.1.length))
 (cond (yT (([] : List d79).length + x0.2.1.length))
 (some (([] ++ x0.1, ([] ++ x0.2.1, ())), ()))
 none)
 none) := by kernel_rfl
theorem A6z (x0 : d81) : @Eq _ (AM8 (zD EE R L) x0) ((AJ9 R x0.2.2.1).bind fun r0 =>
 some ((x0.1, (x0.2.1, (r0.1, x0.2.2.2))), ())) := by kernel_rfl
theorem A2M (x0:List UInt8):@Eq _ (kS (zD EE R L) x0) (some (eqI (x0.length:Int) 32,())):=by kernel_rfl
theorem AN5 (x0:d78):@Eq _ (lK (zD EE R L) x0) (some (IntKind.wrap .i64 (x0.2.2.1 - x0.1),())):=by kernel_rfl
theorem Av8 (x0 : d78) : @Eq _ (hU (zD EE R L) x0) ((sQ R x0.1 0 1000000).bind fun r0 =>
 cond r0.1
 ((sQ R x0.2.1 0 1).bind fun r1 =>
 cond r1.1
 ((sQ R x0.2.2.1 x0.1 (A0W (IntKind.wrap .i64 (x0.1 + 4)) 1000000)).bind fun r2 =>
 cond r2.1
 ((sQ R x0.2.2.2.1 0 1000000).bind fun r3 =>
 cond r3.1
 ((kS R x0.2.2.2.2.1).bind fun r4 =>
 cond r4.1
 ((kS R x0.2.2.2.2.2.1).bind fun r5 =>
 cond r5.1
 ((kS R x0.2.2.2.2.2.2.1).bind fun r6 =>
 cond r6.1
 ((lK R x0).bind fun r7 =>
 cond (decide (0 < r7.1))
 (some (true, ()))
 (some (eqS x0.2.2.2.2.1 x0.2.2.2.2.2.1, ())))
 (some (false, ())))
 (some (false, ())))
 (some (false, ())))
 (some (false, ())))
 (some (false, ())))
 (some (false, ())))
 (some (false, ()))) := by kernel_rfl
theorem AN7 (x0 : List UInt8) (x1 : FnVal) : @Eq _ (lM (zD EE R L) x0 x1) ((uC EE R x1 [⟨.str, (x0 : List UInt8)⟩]).bind fun (r0 : Bool) =>
 some (!r0, ())) := by kernel_rfl
theorem kI (x0:List (List UInt8)) (x1:FnVal):@Eq _ (xX (zD EE R L) x0 x1) (wT R L x0 x1 0 (x0.length:Int) 0):=by kernel_rfl
theorem lJ (v0 : List (List UInt8)) (v1 : FnVal) (v4 v7 v8 : Int) : @Eq _ (wT R L v0 v1 v4 v7 v8 ([1, 0, 1, 0] ++ [0])) (cond (decide (v8 < v7))
 (cond (zA v8)
 (cond (Nat.blt v8.toNat v0.length)
 ((uC EE R v1 [⟨.str, (v0.getD v8.toNat [] : List UInt8)⟩]).bind fun (r0 : Bool) =>
 cond r0
 (some (v8, ()))
 (zG R L v0 v1 v4 v8 v7 (IntKind.wrap .i64 (v8 + 1))))
 none)
 none)
 (some (-1, ()))) := by kernel_rfl
theorem vA (v0 : List (List UInt8)) (v1 : FnVal) (v4 v5 v7 v8 : Int) : @Eq _ (zG R L v0 v1 v4 v5 v7 v8 ([1, 0, 1, 0] ++ [0])) (cond (decide (v8 < v7))
 (cond (zA v8)
 (cond (Nat.blt v8.toNat v0.length)
 ((uC EE R v1 [⟨.str, (v0.getD v8.toNat [] : List UInt8)⟩]).bind fun (r0 : Bool) =>
 cond r0
 (some (v8, ()))
 (zG R L v0 v1 v4 v8 v7 (IntKind.wrap .i64 (v8 + 1))))
 none)
 none)
 (some (-1, ()))) := by kernel_rfl
theorem lC (x0 : List (List UInt8)) (x1 : FnVal) : @Eq _ (xK (zD EE R L) x0 x1) ((xX R x0 x1).bind fun r0 =>
 some (decide (0 ≤ r0.1), ())) := by kernel_rfl
theorem AY5 (x0 : List (List UInt8)) (x1 : FnVal) : @Eq _ (nN (zD EE R L) x0 x1) ((xK R x0 (FnVal.mk (254 : Nat) (FCaps.fn x1 FCaps.nil))).bind fun r0 =>
 some (!r0.1, ())) := by kernel_rfl
theorem A00 (x0:List UInt8):@Eq _ (jV (zD EE R L) x0) (some (decide ((x0.length:Int) ≤ 700),())):=by kernel_rfl
theorem AW0 (x0 : d79) (x1 : FnVal) : @Eq _ (jE (zD EE R L) x0 x1) ((uC EE R x1 [⟨t16, (x0 : d79)⟩]).bind fun (r0 : Bool) =>
 some (!r0, ())) := by kernel_rfl
theorem iL (x0:List d79) (x1:FnVal):@Eq _ (wV (zD EE R L) x0 x1) (uG R L x0 x1 0 (x0.length:Int) 0):=by kernel_rfl
theorem jF (v0 : List d79) (v1 : FnVal) (v4 v7 v8 : Int) : @Eq _ (uG R L v0 v1 v4 v7 v8 ([1, 0, 1, 0] ++ [0])) (cond (decide (v8 < v7))
 (cond (zA v8)
 (cond (Nat.blt v8.toNat v0.length)
 ((uC EE R v1 [⟨t16, (v0.getD v8.toNat (0, ([], ())) : d79)⟩]).bind fun (r0 : Bool) =>
 cond r0
 (some (v8, ()))
 (zK R L v0 v1 v4 v8 v7 (IntKind.wrap .i64 (v8 + 1))))
 none)
 none)
 (some (-1, ()))) := by kernel_rfl
theorem uL (v0 : List d79) (v1 : FnVal) (v4 v5 v7 v8 : Int) : @Eq _ (zK R L v0 v1 v4 v5 v7 v8 ([1, 0, 1, 0] ++ [0])) (cond (decide (v8 < v7))
 (cond (zA v8)
 (cond (Nat.blt v8.toNat v0.length)
 ((uC EE R v1 [⟨t16, (v0.getD v8.toNat (0, ([], ())) : d79)⟩]).bind fun (r0 : Bool) =>
 cond r0
 (some (v8, ()))
 (zK R L v0 v1 v4 v8 v7 (IntKind.wrap .i64 (v8 + 1))))
 none)
 none)
 (some (-1, ()))) := by kernel_rfl
theorem kX (x0 : List d79) (x1 : FnVal) : @Eq _ (wD (zD EE R L) x0 x1) ((wV R x0 x1).bind fun r0 =>
 some (decide (0 ≤ r0.1), ())) := by kernel_rfl
theorem Aj5 (x0 : List d79) (x1 : FnVal) : @Eq _ (kD (zD EE R L) x0 x1) ((wD R x0 (FnVal.mk (331 : Nat) (FCaps.fn x1 FCaps.nil))).bind fun r0 =>
 some (!r0.1, ())) := by kernel_rfl
theorem A3S (x0 : Int) : @Eq _ (cZ (zD EE R L) x0) ((sQ R x0 0 39).bind fun r0 =>
 some (r0.1, ())) := by kernel_rfl
theorem Au5 (x0 : d79) : @Eq _ (gH (zD EE R L) x0) ((cZ R x0.1).bind fun r0 =>
 cond r0.1
 ((jV R x0.2.1).bind fun r1 =>
 some (r1.1, ()))
 (some (false, ()))) := by kernel_rfl
theorem A3f (x0 : d80) : @Eq _ (cA (zD EE R L) x0) (cond (eqI (x0.1.length : Int) 40)
 ((nN R x0.1 (FnVal.mk (285 : Nat) FCaps.nil)).bind fun r0 =>
 cond r0.1
 (cond (decide ((x0.2.1.length : Int) ≤ 60))
 ((kD R x0.2.1 (FnVal.mk (287 : Nat) FCaps.nil)).bind fun r1 =>
 some (r1.1, ()))
 (some (false, ())))
 (some (false, ())))
 (some (false, ()))) := by kernel_rfl
theorem A7a (x0 : d80) : @Eq _ (AL9 (zD EE R L) x0) ((cA R x0).bind fun r0 =>
 cond r0.1
 (some (eqI (x0.2.1.length : Int) 0, ()))
 (some (false, ()))) := by kernel_rfl
theorem A4p (x0 : d81) : @Eq _ (AB2 (zD EE R L) x0) (cond (eqI (x0.1.length : Int) 32)
 ((hU R x0.2.1).bind fun r0 =>
 cond r0.1
 ((AL9 R x0.2.2.1).bind fun r1 =>
 cond r1.1
 (cond x0.2.2.2.1
 (some (!x0.2.2.2.2.1, ()))
 (some (!false, ())))
 (some (false, ())))
 (some (false, ())))
 (some (false, ()))) := by kernel_rfl
theorem Aj1 (x0 : d81) : @Eq _ (lZ (zD EE R L) x0) (cond x0.2.2.2.2.1
 (some (18, ()))
 (cond (!x0.2.2.2.1)
 (some (16, ()))
 (some (0, ())))) := by kernel_rfl
theorem A5Q (x0 x1 x2 : Int) : @Eq _ (AA9 (zD EE R L) x0 x1 x2) ((vJ R x0 1).bind fun r0 =>
 (vJ R x1 2).bind fun r1 =>
 cond (yT (r0.1.length + r1.1.length))
 ((vJ R 0 1).bind fun r2 =>
 cond (yT ((r0.1 ++ r1.1).length + r2.1.length))
 ((vJ R x2 8).bind fun r3 =>
 cond (yT (((r0.1 ++ r1.1) ++ r2.1).length + r3.1.length))
 (some (((r0.1 ++ r1.1) ++ r2.1) ++ r3.1, ()))
 none)
 none)
 none) := by kernel_rfl
theorem A7v (x0 : List UInt8) : @Eq _ (aH (zD EE R L) x0) ((oW R [0] (Int.tmod (IntKind.wrap .i64 (16 - (Int.tmod (x0.length : Int) 16))) 16)).bind fun r0 =>
 cond (yT (x0.length + r0.1.length))
 (some (x0 ++ r0.1, ()))
 none) := by kernel_rfl
theorem A4C (x0 : List UInt8) : @Eq _ (AD2 (zD EE R L) x0) (cond (Nat.ble (16 : Int).toNat x0.length)
 (tU R L (List.map (fun (b : UInt8) => (UInt8.toNat b : Int)) (List.drop 0 (List.take (16 : Int).toNat x0))) 3)
 none) := by kernel_rfl
theorem AX3 (v3 : List Int) (v4 : Int) : @Eq _ (tU R L v3 v4 ([1, 1, 0, 1, 0] ++ [0])) (cond (decide (v4 < 16))
 (cond (zA v4)
 (cond (Nat.blt v4.toNat v3.length)
 (cond (zA v4)
 (cond (Nat.blt v4.toNat v3.length)
 (tU R L (v3.set v4.toNat (xH .and .u8 (v3.getD v4.toNat 0) 15)) (IntKind.wrap .i64 (v4 + 4)))
 none)
 none)
 none)
 none)
 (tV R L v3 4)) := by kernel_rfl
theorem AW3 (v3 : List Int) (v5 : Int) : @Eq _ (tV R L v3 v5 ([1, 1, 1, 0, 1, 0] ++ [0])) (cond (decide (v5 < 16))
 (cond (zA v5)
 (cond (Nat.blt v5.toNat v3.length)
 (cond (zA v5)
 (cond (Nat.blt v5.toNat v3.length)
 (tV R L (v3.set v5.toNat (xH .and .u8 (v3.getD v5.toNat 0) 252)) (IntKind.wrap .i64 (v5 + 4)))
 none)
 none)
 none)
 none)
 (some (List.map (fun (n : Int) => UInt8.ofNat n.toNat) v3, ()))) := by kernel_rfl
theorem A4E (x0:List UInt8):@Eq _ (iK (zD EE R L) x0) (wS R L (List.replicate 5 0) (List.replicate 5 0) (List.map (fun (b:UInt8)=>(UInt8.toNat b:Int)) x0) ((List.map (fun (b:UInt8)=>(UInt8.toNat b:Int)) x0).length:Int) 0):=by kernel_rfl
theorem AV6 (v2 v3 v9 : List Int) (v10 v11 : Int) : @Eq _ (wS R L v2 v3 v9 v10 v11 ([1, 1, 0, 1, 0] ++ [0])) (cond (decide (v11 < v10))
 (cond (zA v11)
 (cond (Nat.blt v11.toNat v9.length)
 (vL R L v2 v3 v11 (v9.getD v11.toNat 0) v9 v10 v11 0)
 none)
 none)
 (some (v3, ()))) := by kernel_rfl
theorem AV0 (v2 v3 : List Int) (v4 v5 : Int) (v9 : List Int) (v10 v11 v16 : Int) : @Eq _ (vL R L v2 v3 v4 v5 v9 v10 v11 v16 ([1, 1, 0, 1, 0, 0, 1, 1, 0, 0, 1, 1, 0] ++ [0])) (cond (decide (v16 < 8))
 (cond (decide (v16 < 0))
 none
 (cond (eqI (xH .and .u8 (Int.fdiv v5 (2 ^ (Min.min v16.toNat (IntKind.bits .u8)))) 1) 1)
 (cond (zA (IntKind.wrap .i64 (Int.tdiv (IntKind.wrap .i64 ((IntKind.wrap .i64 (8 * v4)) + v16)) 26)))
 (cond (Nat.blt (IntKind.wrap .i64 (Int.tdiv (IntKind.wrap .i64 ((IntKind.wrap .i64 (8 * v4)) + v16)) 26)).toNat 5)
 (cond (decide ((Int.tmod (IntKind.wrap .i64 ((IntKind.wrap .i64 (8 * v4)) + v16)) 26) < 0))
 none
 (cond (zA (IntKind.wrap .i64 (Int.tdiv (IntKind.wrap .i64 ((IntKind.wrap .i64 (8 * v4)) + v16)) 26)))
 (cond (Nat.blt (IntKind.wrap .i64 (Int.tdiv (IntKind.wrap .i64 ((IntKind.wrap .i64 (8 * v4)) + v16)) 26)).toNat 5)
 (vL R L v2 (v3.set (IntKind.wrap .i64 (Int.tdiv (IntKind.wrap .i64 ((IntKind.wrap .i64 (8 * v4)) + v16)) 26)).toNat (xH .or .u64 (v3.getD (IntKind.wrap .i64 (Int.tdiv (IntKind.wrap .i64 ((IntKind.wrap .i64 (8 * v4)) + v16)) 26)).toNat 0) (IntKind.wrap .u64 (1 * (2 ^ (Min.min (Int.tmod (IntKind.wrap .i64 ((IntKind.wrap .i64 (8 * v4)) + v16)) 26).toNat (IntKind.bits .u64))))))) v4 v5 v9 v10 v11 (IntKind.wrap .i64 (v16 + 1)))
 none)
 none))
 none)
 none)
 (vL R L v2 v3 v4 v5 v9 v10 v11 (IntKind.wrap .i64 (v16 + 1)))))
 (wS R L v2 v3 v9 v10 (IntKind.wrap .i64 (v11 + 1)))) := by kernel_rfl
theorem Ac4 (x0:List Int):@Eq _ (wG (zD EE R L) x0) (uY R L x0 (List.replicate 5 0) 0):=by kernel_rfl
theorem AS8 (v1 v2 : List Int) (v5 : Int) : @Eq _ (uY R L v1 v2 v5 ([1, 0, 1, 0] ++ [0])) (cond (decide (v5 < 3))
 (xO R L v1 v2 0 v5 0)
 (some (v1, ()))) := by kernel_rfl
theorem dB (v1 v2 : List Int) (v3 v5 v7 : Int) : @Eq _ (xO R L v1 v2 v3 v5 v7 ([1, 0, 1, 0, 0, 1, 1, 0, 0, 1, 0, 1, 0] ++ [0])) (cond (decide (v7 < 5))
 (cond (zA v7)
 (cond (Nat.blt v7.toNat 5)
 (cond (zA v7)
 (cond (Nat.blt v7.toNat 5)
 (cond (zA v7)
 (cond (Nat.blt v7.toNat 5)
 (cond (zA v7)
 (cond (Nat.blt v7.toNat 5)
 (cond (zA v7)
 (cond (Nat.blt v7.toNat 5)
 (xO R L ((v1.set v7.toNat (IntKind.wrap .u64 ((v1.getD v7.toNat 0) + v3))).set v7.toNat (xH .and .u64 ((v1.set v7.toNat (IntKind.wrap .u64 ((v1.getD v7.toNat 0) + v3))).getD v7.toNat 0) 67108863)) v2 (Int.fdiv ((v1.set v7.toNat (IntKind.wrap .u64 ((v1.getD v7.toNat 0) + v3))).getD v7.toNat 0) (2 ^ (Min.min (26 : Int).toNat (IntKind.bits .u64)))) v5 (IntKind.wrap .i64 (v7 + 1)))
 none)
 none)
 none)
 none)
 none)
 none)
 none)
 none)
 none)
 none)
 (uY R L (v1.set (0 : Int).toNat (IntKind.wrap .u64 ((v1.getD (0 : Int).toNat 0) + (IntKind.wrap .u64 (5 * v3))))) v2 (IntKind.wrap .i64 (v5 + 1)))) := by kernel_rfl
theorem Au4 (x0 x1:List Int):@Eq _ (gP (zD EE R L) x0 x1) (uA R L x0 x1 (List.replicate 5 0) 0):=by kernel_rfl
theorem AD9 (v2 v3 v4 : List Int) (v6 : Int) : @Eq _ (uA R L v2 v3 v4 v6 ([1, 0, 1, 0] ++ [0])) (cond (decide (v6 < 5))
 (cond (zA v6)
 (cond (Nat.blt v6.toNat 5)
 (cond (zA v6)
 (cond (Nat.blt v6.toNat 5)
 (cond (zA v6)
 (cond (Nat.blt v6.toNat 5)
 (uA R L (v2.set v6.toNat (IntKind.wrap .u64 ((v2.getD v6.toNat 0) + (v3.getD v6.toNat 0)))) v3 v4 (IntKind.wrap .i64 (v6 + 1)))
 none)
 none)
 none)
 none)
 none)
 none)
 ((wG R v2).bind fun r0 =>
 some (r0.1, ()))) := by kernel_rfl
theorem Ar4 (x0 x1:List Int):@Eq _ (jH (zD EE R L) x0 x1) (xV R L x1 (List.replicate 5 0) (List.replicate 5 0) x0 0):=by kernel_rfl
theorem aL (v3 v4 v5 v10 : List Int) (v11 : Int) : @Eq _ (xV R L v3 v4 v5 v10 v11 ([1, 1, 0, 1, 0] ++ [0])) (cond (decide (v11 < 5))
 (cond (zA v11)
 (cond (Nat.blt v11.toNat 5)
 (xU R L v3 v4 v5 v11 (v10.getD v11.toNat 0) v10 v11 v3 0)
 none)
 none)
 ((wG R v5).bind fun r0 =>
 some (r0.1, ()))) := by kernel_rfl
theorem bT (v3 v4 v5 : List Int) (v6 v7 : Int) (v10 : List Int) (v11 : Int) (v15 : List Int) (v16 : Int) : @Eq _ (xU R L v3 v4 v5 v6 v7 v10 v11 v15 v16 ([1, 1, 0, 1, 0, 0, 1, 1, 0, 0, 1, 1, 0] ++ [0])) (cond (decide (v16 < 5))
 (cond (zA v16)
 (cond (Nat.blt v16.toNat 5)
 (cond (decide ((IntKind.wrap .i64 (v6 + v16)) < 5))
 (cond (zA (IntKind.wrap .i64 (v6 + v16)))
 (cond (Nat.blt (IntKind.wrap .i64 (v6 + v16)).toNat 5)
 (cond (zA (IntKind.wrap .i64 (v6 + v16)))
 (cond (Nat.blt (IntKind.wrap .i64 (v6 + v16)).toNat 5)
 (xU R L v3 v4 (v5.set (IntKind.wrap .i64 (v6 + v16)).toNat (IntKind.wrap .u64 ((v5.getD (IntKind.wrap .i64 (v6 + v16)).toNat 0) + (IntKind.wrap .u64 (v7 * (v15.getD v16.toNat 0)))))) v6 v7 v10 v11 v15 (IntKind.wrap .i64 (v16 + 1)))
 none)
 none)
 none)
 none)
 (cond (zA (IntKind.wrap .i64 ((IntKind.wrap .i64 (v6 + v16)) - 5)))
 (cond (Nat.blt (IntKind.wrap .i64 ((IntKind.wrap .i64 (v6 + v16)) - 5)).toNat 5)
 (cond (zA (IntKind.wrap .i64 ((IntKind.wrap .i64 (v6 + v16)) - 5)))
 (cond (Nat.blt (IntKind.wrap .i64 ((IntKind.wrap .i64 (v6 + v16)) - 5)).toNat 5)
 (xU R L v3 v4 (v5.set (IntKind.wrap .i64 ((IntKind.wrap .i64 (v6 + v16)) - 5)).toNat (IntKind.wrap .u64 ((v5.getD (IntKind.wrap .i64 ((IntKind.wrap .i64 (v6 + v16)) - 5)).toNat 0) + (IntKind.wrap .u64 ((IntKind.wrap .u64 (5 * v7)) * (v15.getD v16.toNat 0)))))) v6 v7 v10 v11 v15 (IntKind.wrap .i64 (v16 + 1)))
 none)
 none)
 none)
 none))
 none)
 none)
 (xV R L v3 v4 v5 v10 (IntKind.wrap .i64 (v11 + 1)))) := by kernel_rfl
theorem Ab7 (x0 : List Int) : @Eq _ (mU (zD EE R L) x0) ((wG R x0).bind fun r0 =>
 xN R L r0.1 (List.replicate 5 0) [67108859, 67108863, 67108863, 67108863, 67108863] 4) := by kernel_rfl
theorem dK (v1 v2 v3 : List Int) (v4 : Int) : @Eq _ (xN R L v1 v2 v3 v4 ([1, 1, 1, 0, 1, 0] ++ [0])) (cond (decide (0 ≤ v4))
 (cond (zA v4)
 (cond (Nat.blt v4.toNat 5)
 (cond (zA v4)
 (cond (Nat.blt v4.toNat 5)
 (cond (!(eqI (v1.getD v4.toNat 0) (v3.getD v4.toNat 0)))
 (cond (zA v4)
 (cond (Nat.blt v4.toNat 5)
 (cond (zA v4)
 (cond (Nat.blt v4.toNat 5)
 (cond (decide ((v1.getD v4.toNat 0) < (v3.getD v4.toNat 0)))
 (some (v1, ()))
 (zW R L v1 v2 v3 0))
 none)
 none)
 none)
 none)
 (xN R L v1 v2 v3 (IntKind.wrap .i64 (v4 - 1))))
 none)
 none)
 none)
 none)
 (zW R L v1 v2 v3 0)) := by kernel_rfl
theorem dN (v1 v2 v3 : List Int) (v28 : Int) : @Eq _ (zW R L v1 v2 v3 v28 ([1, 1, 1, 1, 0, 1, 0] ++ [0])) (cond (decide (v28 < 5))
 (cond (zA v28)
 (cond (Nat.blt v28.toNat 5)
 (cond (zA v28)
 (cond (Nat.blt v28.toNat 5)
 (cond (zA v28)
 (cond (Nat.blt v28.toNat 5)
 (zW R L (v1.set v28.toNat (IntKind.wrap .u64 ((v1.getD v28.toNat 0) - (v3.getD v28.toNat 0)))) v2 v3 (IntKind.wrap .i64 (v28 + 1)))
 none)
 none)
 none)
 none)
 none)
 none)
 (some (v1, ()))) := by kernel_rfl
theorem As0 (x0:List Int) (x1:List UInt8):@Eq _ (jJ (zD EE R L) x0 x1) (xD R L x1 x0 (List.replicate (16:Int).toNat 0) 0 ((List.replicate (16:Int).toNat (0:Int)).length:Int) 0):=by kernel_rfl
theorem bX (v1 : List UInt8) (v2 v5 : List Int) (v6 v13 v14 : Int) : @Eq _ (xD R L v1 v2 v5 v6 v13 v14 ([1, 1, 1, 0, 1, 0] ++ [0])) (cond (decide (v14 < v13))
 (xW R L v1 v2 v5 v6 v14 0 v13 v14 0)
 (some (List.map (fun (n : Int) => UInt8.ofNat n.toNat) v5, ()))) := by kernel_rfl
theorem bO (v1 : List UInt8) (v2 v5 : List Int) (v6 v7 v8 v13 v14 v17 : Int) : @Eq _ (xW R L v1 v2 v5 v6 v7 v8 v13 v14 v17 ([1, 1, 1, 0, 1, 0, 0, 1, 1, 0, 0, 1, 1, 0, 1, 0] ++ [0])) (cond (decide (v17 < 8))
 (cond (zA (IntKind.wrap .i64 (Int.tdiv (IntKind.wrap .i64 ((IntKind.wrap .i64 (8 * v7)) + v17)) 26)))
 (cond (Nat.blt (IntKind.wrap .i64 (Int.tdiv (IntKind.wrap .i64 ((IntKind.wrap .i64 (8 * v7)) + v17)) 26)).toNat 5)
 (cond (decide ((Int.tmod (IntKind.wrap .i64 ((IntKind.wrap .i64 (8 * v7)) + v17)) 26) < 0))
 none
 (cond (decide (v17 < 0))
 none
 (xW R L v1 v2 v5 v6 v7 (xH .or .i64 v8 (IntKind.wrap .i64 ((IntKind.wrap .i64 (xH .and .u64 (Int.fdiv (v2.getD (IntKind.wrap .i64 (Int.tdiv (IntKind.wrap .i64 ((IntKind.wrap .i64 (8 * v7)) + v17)) 26)).toNat 0) (2 ^ (Min.min (Int.tmod (IntKind.wrap .i64 ((IntKind.wrap .i64 (8 * v7)) + v17)) 26).toNat (IntKind.bits .u64)))) 1)) * (2 ^ (Min.min v17.toNat (IntKind.bits .i64)))))) v13 v14 (IntKind.wrap .i64 (v17 + 1)))))
 none)
 none)
 (cond (zA v7)
 (cond (Nat.blt v7.toNat v1.length)
 (cond (zA v7)
 (cond (Nat.blt v7.toNat v5.length)
 (xD R L v1 v2 (v5.set v7.toNat (IntKind.wrap .u8 (IntKind.wrap .i64 (v6 + (IntKind.wrap .i64 (v8 + (IntKind.wrap .i64 (UInt8.toNat (v1.getD v7.toNat 0) : Int)))))))) (Int.fdiv (IntKind.wrap .i64 (v6 + (IntKind.wrap .i64 (v8 + (IntKind.wrap .i64 (UInt8.toNat (v1.getD v7.toNat 0) : Int)))))) (2 ^ (Min.min (8 : Int).toNat (IntKind.bits .i64)))) v13 (IntKind.wrap .i64 (v14 + 1)))
 none)
 none)
 none)
 none)) := by kernel_rfl
theorem Bb3 (x0 x1 : List UInt8) : @Eq _ (Aq0 (zD EE R L) x0 x1) ((AD2 R x0).bind fun r0 =>
 (iK R r0.1).bind fun r1 =>
 iO R L x0 x1 (List.replicate 5 0) r1.1 0) := by kernel_rfl
theorem A3Z (v0 v1 : List UInt8) (v5 v6 : List Int) (v7 : Int) : @Eq _ (iO R L v0 v1 v5 v6 v7 ([1, 1, 1, 0, 1, 0] ++ [0])) (cond (decide (v7 < (v1.length : Int)))
 (cond (zA (A0W (IntKind.wrap .i64 (v7 + 16)) (v1.length : Int)))
 (cond (zA v7)
 (cond (Nat.ble (A0W (IntKind.wrap .i64 (v7 + 16)) (v1.length : Int)).toNat v1.length)
 (cond (Nat.ble v7.toNat (A0W (IntKind.wrap .i64 (v7 + 16)) (v1.length : Int)).toNat)
 (cond (yT ((List.drop v7.toNat (List.take (A0W (IntKind.wrap .i64 (v7 + 16)) (v1.length : Int)).toNat v1)).length + ([(1 : UInt8)]).length))
 ((iK R ((List.drop v7.toNat (List.take (A0W (IntKind.wrap .i64 (v7 + 16)) (v1.length : Int)).toNat v1)) ++ [1])).bind fun r0 =>
 (gP R v5 r0.1).bind fun r1 =>
 (jH R r1.1 v6).bind fun r2 =>
 iO R L v0 v1 r2.1 v6 (IntKind.wrap .i64 (v7 + 16)))
 none)
 none)
 none)
 none)
 none)
 ((mU R v5).bind fun r0 =>
 cond (Nat.ble v0.length v0.length)
 (cond (Nat.ble (16 : Int).toNat v0.length)
 ((jJ R r0.1 (List.drop (16 : Int).toNat (List.take v0.length v0))).bind fun r1 =>
 some (r1.1, ()))
 none)
 none)) := by kernel_rfl
theorem A79 (x0 x1 x2 x3 : List UInt8) : @Eq _ (AM2 (zD EE R L) x0 x1 x2 x3) ((bS R x0 x1 0).bind fun r0 =>
 cond (Nat.ble (32 : Int).toNat r0.1.length)
 ((aH R x2).bind fun r1 =>
 (aH R x3).bind fun r2 =>
 cond (yT (r1.1.length + r2.1.length))
 ((vJ R (x2.length : Int) 8).bind fun r3 =>
 cond (yT ((r1.1 ++ r2.1).length + r3.1.length))
 ((vJ R (x3.length : Int) 8).bind fun r4 =>
 cond (yT (((r1.1 ++ r2.1) ++ r3.1).length + r4.1.length))
 ((Aq0 R (List.drop 0 (List.take (32 : Int).toNat r0.1)) (((r1.1 ++ r2.1) ++ r3.1) ++ r4.1)).bind fun r5 =>
 some (r5.1, ()))
 none)
 none)
 none)
 none) := by kernel_rfl
theorem iP (x0 : List (List UInt8)) : @Eq _ (wW (zD EE R L) x0) (cond (Nat.beq x0.length 0)
 (A3L
 (some ([], ()))
 (cond (yT (([] : List (List UInt8)).length + x0.length))
 (some ([] ++ x0, ()))
 none))
 (cond (yT (([] : List (List UInt8)).length + x0.length))
 (some ([] ++ x0, ()))
 none)) := by kernel_rfl
theorem eY (x0 : List d79) : @Eq _ (uM (zD EE R L) x0) (cond (Nat.beq x0.length 0)
 (A3L
 (some ([], ()))
 (cond (yT (([] : List d79).length + x0.length))
 (some ([] ++ x0, ()))
 none))
 (cond (yT (([] : List d79).length + x0.length))
 (some ([] ++ x0, ()))
 none)) := by kernel_rfl
theorem Aw4 (x0 : d80) : @Eq _ (gK (zD EE R L) x0) ((wW R x0.1).bind fun r0 =>
 (uM R x0.2.1).bind fun r1 =>
 some ((r0.1, (r1.1, ())), ())) := by kernel_rfl
theorem A1O (x0 : d81) : @Eq _ (mV (zD EE R L) x0) ((gK R x0.2.2.1).bind fun r0 =>
 some ((x0.1, (x0.2.1, (r0.1, x0.2.2.2))), ())) := by kernel_rfl
theorem Av1 (x0 x1 : d78) : @Eq _ (gE (zD EE R L) x0 x1) (cond (!(eqI x0.1 x1.1))
 (some (false, ()))
 (cond (!(eqI x0.2.1 x1.2.1))
 (some (false, ()))
 (cond (!(eqI x0.2.2.1 x1.2.2.1))
 (some (false, ()))
 (cond (!(eqI x0.2.2.2.1 x1.2.2.2.1))
 (some (false, ()))
 (cond (!(eqS x0.2.2.2.2.1 x1.2.2.2.2.1))
 (some (false, ()))
 (cond (!(eqS x0.2.2.2.2.2.1 x1.2.2.2.2.2.1))
 (some (false, ()))
 (cond (!(eqS x0.2.2.2.2.2.2.1 x1.2.2.2.2.2.2.1))
 (some (false, ()))
 (some (true, ()))))))))) := by kernel_rfl
theorem A0n (x0 x1 : List (List UInt8)) : @Eq _ (eH (zD EE R L) x0 x1) (cond (!(eqI (x0.length : Int) (x1.length : Int)))
 (some (false, ()))
 (tA R L x0 x1 false 0)) := by kernel_rfl
theorem AJ7 (v0 v1 : List (List UInt8)) (v4 : Bool) (v5 : Int) : @Eq _ (tA R L v0 v1 v4 v5 ([1, 1, 0, 1, 0] ++ [0])) (cond (decide (v5 < (v0.length : Int)))
 (cond (zA v5)
 (cond (Nat.blt v5.toNat v0.length)
 (cond (zA v5)
 (cond (Nat.blt v5.toNat v1.length)
 (cond (!(eqS (v0.getD v5.toNat []) (v1.getD v5.toNat [])))
 (some (false, ()))
 (tA R L v0 v1 v4 (IntKind.wrap .i64 (v5 + 1))))
 none)
 none)
 none)
 none)
 (some (true, ()))) := by kernel_rfl
theorem BM1 (x0 x1 : d79) : @Eq _ (Ak9 (zD EE R L) x0 x1) (cond (!(eqI x0.1 x1.1))
 (some (false, ()))
 (cond (!(eqS x0.2.1 x1.2.1))
 (some (false, ()))
 (some (true, ())))) := by kernel_rfl
theorem A9V (x0 x1 : List d79) : @Eq _ (AZ0 (zD EE R L) x0 x1) (cond (!(eqI (x0.length : Int) (x1.length : Int)))
 (some (false, ()))
 (oA R L x0 x1 false 0)) := by kernel_rfl
theorem An4 (v0 v1 : List d79) (v4 : Bool) (v5 : Int) : @Eq _ (oA R L v0 v1 v4 v5 ([1, 1, 0, 1, 0] ++ [0])) (cond (decide (v5 < (v0.length : Int)))
 (cond (zA v5)
 (cond (Nat.blt v5.toNat v0.length)
 (cond (zA v5)
 (cond (Nat.blt v5.toNat v1.length)
 ((Ak9 R (v0.getD v5.toNat (0, ([], ()))) (v1.getD v5.toNat (0, ([], ())))).bind fun r0 =>
 cond (!r0.1)
 (some (false, ()))
 (oA R L v0 v1 v4 (IntKind.wrap .i64 (v5 + 1))))
 none)
 none)
 none)
 none)
 (some (true, ()))) := by kernel_rfl
theorem A2I (x0 x1 : d80) : @Eq _ (cF (zD EE R L) x0 x1) ((eH R x0.1 x1.1).bind fun r0 =>
 cond (!r0.1)
 (some (false, ()))
 ((AZ0 R x0.2.1 x1.2.1).bind fun r1 =>
 cond (!r1.1)
 (some (false, ()))
 (some (true, ())))) := by kernel_rfl
theorem A45 (x0 x1 : d81) : @Eq _ (kF (zD EE R L) x0 x1) (cond (!(eqS x0.1 x1.1))
 (some (false, ()))
 ((gE R x0.2.1 x1.2.1).bind fun r0 =>
 cond (!r0.1)
 (some (false, ()))
 ((cF R x0.2.2.1 x1.2.2.1).bind fun r1 =>
 cond (!r1.1)
 (some (false, ()))
 (cond (!(eqB x0.2.2.2.1 x1.2.2.2.1))
 (some (false, ()))
 (cond (!(eqB x0.2.2.2.2.1 x1.2.2.2.2.1))
 (some (false, ()))
 (some (true, ()))))))) := by kernel_rfl
theorem A7R (x0 x1 : List Int) : @Eq _ (AK3 (zD EE R L) x0 x1) (cond (!(eqI (x0.length : Int) (x1.length : Int)))
 (some (false, ()))
 (qJ R L x0 x1 false 0)) := by kernel_rfl
theorem Ai2 (v0 v1 : List Int) (v4 : Bool) (v5 : Int) : @Eq _ (qJ R L v0 v1 v4 v5 ([1, 1, 0, 1, 0] ++ [0])) (cond (decide (v5 < (v0.length : Int)))
 (cond (zA v5)
 (cond (Nat.blt v5.toNat v0.length)
 (cond (zA v5)
 (cond (Nat.blt v5.toNat v1.length)
 (cond (!(eqI (v0.getD v5.toNat 0) (v1.getD v5.toNat 0)))
 (some (false, ()))
 (qJ R L v0 v1 v4 (IntKind.wrap .i64 (v5 + 1))))
 none)
 none)
 none)
 none)
 (some (true, ()))) := by kernel_rfl
theorem A3g (x0 : Int) : @Eq _ (qO (zD EE R L) x0) (cond (decide (x0 ≤ 0))
 (some ([109, 48], ()))
 (pD R L x0 [] [])) := by kernel_rfl
theorem AP5 (v0 : Int) (v2 v3 : List UInt8) : @Eq _ (pD R L v0 v2 v3 ([1, 1, 1, 0, 0] ++ [0])) (cond (decide (0 < v0))
 (cond (yT ((List.map (fun (n : Int) => UInt8.ofNat n.toNat) [IntKind.wrap .u8 (IntKind.wrap .i64 (48 + (Int.tmod v0 10)))]).length + v3.length))
 (pD R L (IntKind.wrap .i64 (Int.tdiv v0 10)) v2 ((List.map (fun (n : Int) => UInt8.ofNat n.toNat) [IntKind.wrap .u8 (IntKind.wrap .i64 (48 + (Int.tmod v0 10)))]) ++ v3))
 none)
 (cond (yT (([(109 : UInt8)]).length + v3.length))
 (some ([109] ++ v3, ()))
 none)) := by kernel_rfl
theorem An5 (x0:List (List UInt8)) (x1:Int):@Eq _ (jS (zD EE R L) x0 x1) (vH R L x0 x1 0 0):=by kernel_rfl
theorem aP (v0 : List (List UInt8)) (v1 v4 v5 : Int) : @Eq _ (vH R L v0 v1 v4 v5 ([1, 0, 1, 0] ++ [0])) (cond (decide (v5 < (v0.length : Int)))
 ((qO R v1).bind fun r0 =>
 cond (zA v5)
 (cond (Nat.blt v5.toNat v0.length)
 (vH R L (v0.set v5.toNat r0.1) (IntKind.wrap .i64 (v1 + 1)) v4 (IntKind.wrap .i64 (v5 + 1)))
 none)
 none)
 (some (v1, (v0, ())))) := by kernel_rfl
theorem A47 (x0:List d79) (x1:Int):@Eq _ (AC5 (zD EE R L) x0 x1) (rN R L x0 x1 0 0):=by kernel_rfl
theorem AW4 (v0 : List d79) (v1 v4 v5 : Int) : @Eq _ (rN R L v0 v1 v4 v5 ([1, 0, 1, 0] ++ [0])) (cond (decide (v5 < (v0.length : Int)))
 (cond (zA v5)
 (cond (Nat.blt v5.toNat v0.length)
 ((qO R (IntKind.wrap .i64 (v1 + 1))).bind fun r0 =>
 cond (zA v5)
 (cond (Nat.blt v5.toNat (v0.set v5.toNat (v1, (v0.getD v5.toNat (0, ([], ()))).2)).length)
 (rN R L ((v0.set v5.toNat (v1, (v0.getD v5.toNat (0, ([], ()))).2)).set v5.toNat (((v0.set v5.toNat (v1, (v0.getD v5.toNat (0, ([], ()))).2)).getD v5.toNat (0, ([], ()))).1, (r0.1, ((v0.set v5.toNat (v1, (v0.getD v5.toNat (0, ([], ()))).2)).getD v5.toNat (0, ([], ()))).2.2))) (IntKind.wrap .i64 ((IntKind.wrap .i64 (v1 + 1)) + 1)) v4 (IntKind.wrap .i64 (v5 + 1)))
 none)
 none)
 none)
 none)
 (some (v1, (v0, ())))) := by kernel_rfl
theorem Au1 (x0 : d80) (x1 : Int) : @Eq _ (gD (zD EE R L) x0 x1) ((jS R x0.1 x1).bind fun r0 =>
 (AC5 R x0.2.1 r0.1).bind fun r1 =>
 some (r1.1, ((r0.2.1, (r1.2.1, x0.2.2)), ()))) := by kernel_rfl
theorem A1e (x0 : d81) (x1 : Int) : @Eq _ (qH (zD EE R L) x0 x1) ((gD R x0.2.2.1 x1).bind fun r0 =>
 some (r0.1, ((x0.1, (x0.2.1, (r0.2.1, x0.2.2.2))), ()))) := by kernel_rfl
theorem A2F (x0:List Int) (x1:Int):@Eq _ (cH (zD EE R L) x0 x1) (sG R L x0 x1 0 0):=by kernel_rfl
theorem AP9 (v0 : List Int) (v1 v4 v5 : Int) : @Eq _ (sG R L v0 v1 v4 v5 ([1, 0, 1, 0] ++ [0])) (cond (decide (v5 < (v0.length : Int)))
 (cond (zA v5)
 (cond (Nat.blt v5.toNat v0.length)
 (sG R L (v0.set v5.toNat v1) (IntKind.wrap .i64 (v1 + 1)) v4 (IntKind.wrap .i64 (v5 + 1)))
 none)
 none)
 (some (v1, (v0, ())))) := by kernel_rfl
theorem Ar6 (x0:List (List UInt8)) (x1:Int):@Eq _ (jW (zD EE R L) x0 x1) (vD R L x0 x1 0 0):=by kernel_rfl
theorem bM (v0 : List (List UInt8)) (v1 v4 v5 : Int) : @Eq _ (vD R L v0 v1 v4 v5 ([1, 0, 1, 0] ++ [0])) (cond (decide (v5 < (v0.length : Int)))
 (cond (zA v5)
 (cond (Nat.blt v5.toNat v0.length)
 ((qO R v1).bind fun r0 =>
 cond (!(eqS (v0.getD v5.toNat []) r0.1))
 (some (-1, ()))
 (vD R L v0 (IntKind.wrap .i64 (v1 + 1)) v4 (IntKind.wrap .i64 (v5 + 1))))
 none)
 none)
 (some (v1, ()))) := by kernel_rfl
theorem A5S (x0:List d79) (x1:Int):@Eq _ (AB6 (zD EE R L) x0 x1) (rM R L x0 x1 0 0):=by kernel_rfl
theorem AW1 (v0 : List d79) (v1 v4 v5 : Int) : @Eq _ (rM R L v0 v1 v4 v5 ([1, 0, 1, 0] ++ [0])) (cond (decide (v5 < (v0.length : Int)))
 (cond (zA v5)
 (cond (Nat.blt v5.toNat v0.length)
 (cond (!(eqI (v0.getD v5.toNat (0, ([], ()))).1 v1))
 (some (-1, ()))
 (cond (zA v5)
 (cond (Nat.blt v5.toNat v0.length)
 ((qO R (IntKind.wrap .i64 (v1 + 1))).bind fun r0 =>
 cond (!(eqS (v0.getD v5.toNat (0, ([], ()))).2.1 r0.1))
 (some (-1, ()))
 (rM R L v0 (IntKind.wrap .i64 ((IntKind.wrap .i64 (v1 + 1)) + 1)) v4 (IntKind.wrap .i64 (v5 + 1))))
 none)
 none))
 none)
 none)
 (some (v1, ()))) := by kernel_rfl
theorem Ax2 (x0 : d80) (x1 : Int) : @Eq _ (hP (zD EE R L) x0 x1) ((jW R x0.1 x1).bind fun r0 =>
 cond (decide (r0.1 < 0))
 (some (-1, ()))
 ((AB6 R x0.2.1 r0.1).bind fun r1 =>
 cond (decide (r1.1 < 0))
 (some (-1, ()))
 (some (r1.1, ())))) := by kernel_rfl
theorem A1i (x0 : d81) (x1 : Int) : @Eq _ (oJ (zD EE R L) x0 x1) ((hP R x0.2.2.1 x1).bind fun r0 =>
 cond (decide (r0.1 < 0))
 (some (-1, ()))
 (some (r0.1, ()))) := by kernel_rfl
theorem A7z (x0 : List Int) : @Eq _ (AL0 (zD EE R L) x0) (cond (yT (([] : List Int).length + x0.length))
 (some (([] ++ x0, ([], (List.replicate (15 : Int).toNat [], ()))), ()))
 none) := by kernel_rfl
theorem A4m (x0 : Int) (x1 : List UInt8) : @Eq _ (AA2 (zD EE R L) x0 x1) (cond (yT ((List.map (fun (n : Int) => UInt8.ofNat n.toNat) [(0 : Int), IntKind.wrap .u8 x0]).length + x1.length))
 ((AF9 R ((List.map (fun (n : Int) => UInt8.ofNat n.toNat) [(0 : Int), IntKind.wrap .u8 x0]) ++ x1)).bind fun r0 =>
 some (r0.1, ()))
 none) := by kernel_rfl
theorem A1l (x0:List (List UInt8)):@Eq _ (fT (zD EE R L) x0) (qC R L x0 [] 0):=by kernel_rfl
theorem AG8 (v0 v3 : List (List UInt8)) (v4 : Int) : @Eq _ (qC R L v0 v3 v4 ([1, 1, 0, 1, 0] ++ [0])) (cond (decide (v4 < (v0.length : Int)))
 (cond (zA v4)
 (cond (Nat.blt v4.toNat v0.length)
 ((AA2 R v4 (v0.getD v4.toNat [])).bind fun r0 =>
 cond (yT (v3.length + ([r0.1]).length))
 (qC R L v0 (v3 ++ [r0.1]) (IntKind.wrap .i64 (v4 + 1)))
 none)
 none)
 none)
 (some (v3, ()))) := by kernel_rfl
theorem A4e (x0 x1 : List UInt8) : @Eq _ (aQ (zD EE R L) x0 x1) (cond (yT (([(1 : UInt8)]).length + x0.length))
 (cond (yT (([(1 : UInt8)] ++ x0).length + x1.length))
 ((AF9 R (([1] ++ x0) ++ x1)).bind fun r0 =>
 some (r0.1, ()))
 none)
 none) := by kernel_rfl
theorem A3Q (x0:List (List UInt8)):@Eq _ (cN (zD EE R L) x0) (pP R L x0 [] 0):=by kernel_rfl
theorem AO8 (v0 v3 : List (List UInt8)) (v4 : Int) : @Eq _ (pP R L v0 v3 v4 ([1, 1, 0, 1, 0] ++ [0])) (cond (decide ((IntKind.wrap .i64 (v4 + 1)) < (v0.length : Int)))
 (cond (zA v4)
 (cond (Nat.blt v4.toNat v0.length)
 (cond (zA (IntKind.wrap .i64 (v4 + 1)))
 (cond (Nat.blt (IntKind.wrap .i64 (v4 + 1)).toNat v0.length)
 ((aQ R (v0.getD v4.toNat []) (v0.getD (IntKind.wrap .i64 (v4 + 1)).toNat [])).bind fun r0 =>
 cond (yT (v3.length + ([r0.1]).length))
 (pP R L v0 (v3 ++ [r0.1]) (IntKind.wrap .i64 (v4 + 2)))
 none)
 none)
 none)
 none)
 none)
 (some (v3, ()))) := by kernel_rfl
theorem A4B (x0 : List (List UInt8)) : @Eq _ (AB4 (zD EE R L) x0) ((fT R x0).bind fun r0 =>
 qR R L r0.1) := by kernel_rfl
theorem AY1 (v3 : List (List UInt8)) : @Eq _ (qR R L v3 ([1, 1, 0, 0] ++ [0])) (cond (decide (1 < (v3.length : Int)))
 ((cN R v3).bind fun r0 =>
 qR R L r0.1)
 (cond (Nat.blt (0 : Int).toNat v3.length)
 (some (v3.getD (0 : Int).toNat [], ()))
 none)) := by kernel_rfl
theorem Au6 (x0 : Int) (x1 : List UInt8) : @Eq _ (gQ (zD EE R L) x0 x1) (cond (yT ((List.map (fun (n : Int) => UInt8.ofNat n.toNat) [(0 : Int), IntKind.wrap .u8 x0]).length + x1.length))
 ((aO R ((List.map (fun (n : Int) => UInt8.ofNat n.toNat) [(0 : Int), IntKind.wrap .u8 x0]) ++ x1)).bind fun r0 =>
 some (r0.1, ()))
 none) := by kernel_rfl
theorem BK2 (x0 x1 : List UInt8) : @Eq _ (Al1 (zD EE R L) x0 x1) (cond (yT (([(1 : UInt8)]).length + x0.length))
 (cond (yT (([(1 : UInt8)] ++ x0).length + x1.length))
 ((aO R (([1] ++ x0) ++ x1)).bind fun r0 =>
 some (r0.1, ()))
 none)
 none) := by kernel_rfl
theorem BK0 (x0:List (List UInt8)):@Eq _ (Ak0 (zD EE R L) x0) (kH R L [] x0 (x0.length:Int) 0):=by kernel_rfl
theorem A0M (v3 v9 : List (List UInt8)) (v10 v11 : Int) : @Eq _ (kH R L v3 v9 v10 v11 ([1, 1, 0, 1, 0] ++ [0])) (cond (decide (v11 < v10))
 (cond (zA v11)
 (cond (Nat.blt v11.toNat v9.length)
 ((gQ R v11 (v9.getD v11.toNat [])).bind fun r0 =>
 cond (yT (v3.length + ([r0.1]).length))
 (kH R L (v3 ++ [r0.1]) v9 v10 (IntKind.wrap .i64 (v11 + 1)))
 none)
 none)
 none)
 (qV R L v3 [v3])) := by kernel_rfl
theorem A0Y (v3 : List (List UInt8)) (v6 : List (List (List UInt8))) : @Eq _ (qV R L v3 v6 ([1, 1, 1, 1, 0, 0] ++ [0])) (cond (decide (1 < (v3.length : Int)))
 (iM R L v3 v6 [] 0)
 (some (v6, ()))) := by kernel_rfl
theorem Az1 (v3 : List (List UInt8)) (v6 : List (List (List UInt8))) (v7 : List (List UInt8)) (v8 : Int) : @Eq _ (iM R L v3 v6 v7 v8 ([1, 1, 1, 1, 0, 0, 0, 1, 0, 1, 0, 1, 0] ++ [0])) (cond (decide (v8 < (v3.length : Int)))
 (cond (zA v8)
 (cond (Nat.blt v8.toNat v3.length)
 (cond (zA (IntKind.wrap .i64 (v8 + 1)))
 (cond (Nat.blt (IntKind.wrap .i64 (v8 + 1)).toNat v3.length)
 ((Al1 R (v3.getD v8.toNat []) (v3.getD (IntKind.wrap .i64 (v8 + 1)).toNat [])).bind fun r0 =>
 cond (yT (v7.length + ([r0.1]).length))
 (iM R L v3 v6 (v7 ++ [r0.1]) (IntKind.wrap .i64 (v8 + 2)))
 none)
 none)
 none)
 none)
 none)
 (cond (yT (v6.length + ([v7]).length))
 (qV R L v7 (v6 ++ [v7]))
 none)) := by kernel_rfl
theorem BP6 (x0 : List (List UInt8)) : @Eq _ (Ak7 (zD EE R L) x0) ((Ak0 R x0).bind fun r0 =>
 cond (Nat.blt (4 : Int).toNat r0.1.length)
 (cond (Nat.blt (0 : Int).toNat (r0.1.getD (4 : Int).toNat []).length)
 (some ((r0.1.getD (4 : Int).toNat []).getD (0 : Int).toNat [], ()))
 none)
 none) := by kernel_rfl
theorem A2s (x0 x1 : d75) : @Eq _ (cI (zD EE R L) x0 x1) (cond (!(eqI x0.1 x1.1))
 (some (false, ()))
 ((AK3 R x0.2.1 x1.2.1).bind fun r0 =>
 cond (!r0.1)
 (some (false, ()))
 (some (true, ())))) := by kernel_rfl
theorem A1E (x0 x1 : List d75) : @Eq _ (lI (zD EE R L) x0 x1) (cond (!(eqI (x0.length : Int) (x1.length : Int)))
 (some (false, ()))
 (tC R L x0 x1 false 0)) := by kernel_rfl
theorem AG9 (v0 v1 : List d75) (v4 : Bool) (v5 : Int) : @Eq _ (tC R L v0 v1 v4 v5 ([1, 1, 0, 1, 0] ++ [0])) (cond (decide (v5 < (v0.length : Int)))
 (cond (zA v5)
 (cond (Nat.blt v5.toNat v0.length)
 (cond (zA v5)
 (cond (Nat.blt v5.toNat v1.length)
 ((cI R (v0.getD v5.toNat (0, ([], ()))) (v1.getD v5.toNat (0, ([], ())))).bind fun r0 =>
 cond (!r0.1)
 (some (false, ()))
 (tC R L v0 v1 v4 (IntKind.wrap .i64 (v5 + 1))))
 none)
 none)
 none)
 none)
 (some (true, ()))) := by kernel_rfl
theorem An3 (x0:List d75) (x1:Int):@Eq _ (mM (zD EE R L) x0 x1) (vB R L x0 x1 0 0):=by kernel_rfl
theorem aJ (v0 : List d75) (v1 v4 v5 : Int) : @Eq _ (vB R L v0 v1 v4 v5 ([1, 0, 1, 0] ++ [0])) (cond (decide (v5 < (v0.length : Int)))
 (cond (zA v5)
 (cond (Nat.blt v5.toNat v0.length)
 (cond (zA v5)
 (cond (Nat.blt v5.toNat (v0.set v5.toNat (v1, (v0.getD v5.toNat (0, ([], ()))).2)).length)
 ((cH R ((v0.set v5.toNat (v1, (v0.getD v5.toNat (0, ([], ()))).2)).getD v5.toNat (0, ([], ()))).2.1 (IntKind.wrap .i64 (v1 + 1))).bind fun r0 =>
 vB R L ((v0.set v5.toNat (v1, (v0.getD v5.toNat (0, ([], ()))).2)).set v5.toNat (((v0.set v5.toNat (v1, (v0.getD v5.toNat (0, ([], ()))).2)).getD v5.toNat (0, ([], ()))).1, (r0.2.1, ((v0.set v5.toNat (v1, (v0.getD v5.toNat (0, ([], ()))).2)).getD v5.toNat (0, ([], ()))).2.2))) r0.1 v4 (IntKind.wrap .i64 (v5 + 1)))
 none)
 none)
 none)
 none)
 (some (v1, (v0, ())))) := by kernel_rfl
theorem A2m (x0:List Int) (x1:Int):@Eq _ (cT (zD EE R L) x0 x1) (sH R L x0 x1 0 0):=by kernel_rfl
theorem AO1 (v0 : List Int) (v1 v4 v5 : Int) : @Eq _ (sH R L v0 v1 v4 v5 ([1, 0, 1, 0] ++ [0])) (cond (decide (v5 < (v0.length : Int)))
 (cond (zA v5)
 (cond (Nat.blt v5.toNat v0.length)
 (cond (!(eqI (v0.getD v5.toNat 0) v1))
 (some (-1, ()))
 (sH R L v0 (IntKind.wrap .i64 (v1 + 1)) v4 (IntKind.wrap .i64 (v5 + 1))))
 none)
 none)
 (some (v1, ()))) := by kernel_rfl
theorem Aq5 (x0:List d75) (x1:Int):@Eq _ (pL (zD EE R L) x0 x1) (vF R L x0 x1 0 0):=by kernel_rfl
theorem bR (v0 : List d75) (v1 v4 v5 : Int) : @Eq _ (vF R L v0 v1 v4 v5 ([1, 0, 1, 0] ++ [0])) (cond (decide (v5 < (v0.length : Int)))
 (cond (zA v5)
 (cond (Nat.blt v5.toNat v0.length)
 (cond (!(eqI (v0.getD v5.toNat (0, ([], ()))).1 v1))
 (some (-1, ()))
 (cond (zA v5)
 (cond (Nat.blt v5.toNat v0.length)
 ((cT R (v0.getD v5.toNat (0, ([], ()))).2.1 (IntKind.wrap .i64 (v1 + 1))).bind fun r0 =>
 cond (decide (r0.1 < 0))
 (some (-1, ()))
 (vF R L v0 r0.1 v4 (IntKind.wrap .i64 (v5 + 1))))
 none)
 none))
 none)
 none)
 (some (v1, ()))) := by kernel_rfl
theorem A4d (x0:d80) (x1:Int):@Eq _ (AA3 (zD EE R L) x0 x1) (lR R L x1 x0 (IntKind.wrap .i64 ((x0.2.1.length:Int) - 1))):=by kernel_rfl
theorem A1S (v1 : Int) (v2 : d80) (v5 : Int) : @Eq _ (lR R L v1 v2 v5 ([1, 0, 1, 0] ++ [0])) (cond (decide (0 ≤ v5))
 (cond (zA v5)
 (cond (Nat.blt v5.toNat v2.2.1.length)
 (cond (eqI (v2.2.1.getD v5.toNat (0, ([], ()))).1 v1)
 (cond (zA v5)
 (cond (Nat.blt v5.toNat v2.2.1.length)
 (some ((v2.2.1.getD v5.toNat (0, ([], ()))).2.1, ()))
 none)
 none)
 (lR R L v1 v2 (IntKind.wrap .i64 (v5 - 1))))
 none)
 none)
 (cond (zA v1)
 (cond (Nat.blt v1.toNat v2.1.length)
 (some (v2.1.getD v1.toNat [], ()))
 none)
 none)) := by kernel_rfl
theorem A3l (x0 x1 : List UInt8) : @Eq _ (dZ (zD EE R L) x0 x1) (cond (decide (65536 < (x0.length : Int)))
 (some (false, ()))
 (cond (decide (65536 < (x1.length : Int)))
 (some (false, ()))
 (pM R L x0 x1 0 0))) := by kernel_rfl
theorem AP0 (v0 v1 : List UInt8) (v5 v6 : Int) : @Eq _ (pM R L v0 v1 v5 v6 ([1, 1, 1, 0, 1, 0] ++ [0])) (cond (decide (v6 < (v0.length : Int)))
 (cond (decide (v6 < (v1.length : Int)))
 (cond (zA v6)
 (cond (Nat.blt v6.toNat v0.length)
 (cond (zA v6)
 (cond (Nat.blt v6.toNat v1.length)
 (pM R L v0 v1 (xH .or .i64 v5 (IntKind.wrap .i64 (xH .xor .u8 (UInt8.toNat (v0.getD v6.toNat 0) : Int) (UInt8.toNat (v1.getD v6.toNat 0) : Int)))) (IntKind.wrap .i64 (v6 + 1)))
 none)
 none)
 none)
 none)
 (cond (eqI v5 0)
 (some (eqI (v0.length : Int) (v1.length : Int), ()))
 (some (false, ()))))
 (cond (eqI v5 0)
 (some (eqI (v0.length : Int) (v1.length : Int), ()))
 (some (false, ())))) := by kernel_rfl
theorem Ap7 (x0 x1 x2 x3 : List UInt8) : @Eq _ (iV (zD EE R L) x0 x1 x2 x3) (cond (decide ((x3.length : Int) < 16))
 (some ([], (false, ())))
 (cond (zA (IntKind.wrap .i64 ((x3.length : Int) - 16)))
 (cond (Nat.ble (IntKind.wrap .i64 ((x3.length : Int) - 16)).toNat x3.length)
 ((AM1 R x0 x1 x2 (List.drop 0 (List.take (IntKind.wrap .i64 ((x3.length : Int) - 16)).toNat x3))).bind fun r0 =>
 cond (Nat.ble x3.length x3.length)
 (cond (Nat.ble ((List.drop 0 (List.take (IntKind.wrap .i64 ((x3.length : Int) - 16)).toNat x3)).length : Int).toNat x3.length)
 ((dZ R r0.1 (List.drop ((List.drop 0 (List.take (IntKind.wrap .i64 ((x3.length : Int) - 16)).toNat x3)).length : Int).toNat (List.take x3.length x3))).bind fun r1 =>
 cond (!r1.1)
 (some ([], (false, ())))
 ((aA R x0 x1 1 (List.drop 0 (List.take (IntKind.wrap .i64 ((x3.length : Int) - 16)).toNat x3))).bind fun r2 =>
 some (r2.1, (true, ()))))
 none)
 none)
 none)
 none)) := by kernel_rfl
theorem A4K (x0 : List UInt8) (x1 x2 x3 : Int) (x4 : List UInt8) : @Eq _ (kJ (zD EE R L) x0 x1 x2 x3 x4) ((cU R x1 x2 x3).bind fun r0 =>
 (iV R x0 r0.1 [98, 108, 111, 99, 107] x4).bind fun r1 =>
 some (r1.1, (r1.2.1, ()))) := by kernel_rfl
theorem A1c (x0:List UInt8):@Eq _ (eA (zD EE R L) x0) (qG R L x0 [] 0):=by kernel_rfl
theorem AH0 (v0 : List UInt8) (v4 : List Int) (v5 : Int) : @Eq _ (qG R L v0 v4 v5 ([1, 1, 0, 1, 0] ++ [0])) (cond (decide ((IntKind.wrap .i64 (v5 + 4)) ≤ (v0.length : Int)))
 ((nU R v0 v5).bind fun r0 =>
 cond (yT (v4.length + ([r0.1]).length))
 (qG R L v0 (v4 ++ [r0.1]) (IntKind.wrap .i64 (v5 + 4)))
 none)
 (some (v4, (eqI (Int.tmod (v0.length : Int) 4) 0, ())))) := by kernel_rfl
theorem A8s (x0:List Int) (x1:Int):@Eq _ (AI1 (zD EE R L) x0 x1) (oB R L x0 x1 0):=by kernel_rfl
theorem Am2 (v0 : List Int) (v1 v5 : Int) : @Eq _ (oB R L v0 v1 v5 ([1, 0, 1, 0] ++ [0])) (cond (decide (v5 < (v0.length : Int)))
 (cond (zA v5)
 (cond (Nat.blt v5.toNat v0.length)
 (cond (eqI (v0.getD v5.toNat 0) v1)
 (some (true, ()))
 (oB R L v0 v1 (IntKind.wrap .i64 (v5 + 1))))
 none)
 none)
 (some (false, ()))) := by kernel_rfl
theorem A3t (x0 : d71) (x1 : d69) (x2 : List Int) : @Eq _ (fA (zD EE R L) x0 x1 x2) ((tL R x1.1 0 11).bind fun r0 =>
 cond r0.1
 (cond (zA x1.1)
 (cond (Nat.blt x1.1.toNat x0.1.length)
 (cond (eqI (x0.1.getD x1.1.toNat 0) x1.2.1)
 ((tL R x1.2.2.1 0 999999).bind fun r1 =>
 cond r1.1
 ((AI1 R x2 x1.1).bind fun r2 =>
 some (!r2.1, ()))
 (some (false, ())))
 (some (false, ())))
 none)
 none)
 (some (false, ()))) := by kernel_rfl
theorem A5P (x0:Int):@Eq _ (aT (zD EE R L) x0) (lS R L [] (IntKind.wrap .i64 (7 + x0))):=by kernel_rfl
theorem A1g (v3 : List Int) (v4 : Int) : @Eq _ (lS R L v3 v4 ([1, 1, 1, 0] ++ [0])) (cond (yT (([v4]).length + v3.length))
 (cond (eqI v4 0)
 (some ([v4] ++ v3, ()))
 (lS R L ([v4] ++ v3) (IntKind.wrap .i64 (Int.tdiv (IntKind.wrap .i64 (v4 - 1)) 2))))
 none) := by kernel_rfl
theorem A8l (x0 x1 : Int) : @Eq _ (AX2 (zD EE R L) x0 x1) ((aT R x1).bind fun r0 =>
 oD R L x0 r0.1 0) := by kernel_rfl
theorem As3 (v0 : Int) (v5 : List Int) (v6 : Int) : @Eq _ (oD R L v0 v5 v6 ([1, 1, 0, 1, 0] ++ [0])) (cond (decide (v6 < (v5.length : Int)))
 (cond (zA v6)
 (cond (Nat.blt v6.toNat v5.length)
 (cond (eqI (v5.getD v6.toNat 0) v0)
 (some (true, ()))
 (oD R L v0 v5 (IntKind.wrap .i64 (v6 + 1))))
 none)
 none)
 (some (false, ()))) := by kernel_rfl
theorem A8I (x0 : d71) : @Eq _ (AM5 (zD EE R L) x0) (cond (!(eqI (x0.1.length : Int) 12))
 (some (false, ()))
 ((fZ R x0.1).bind fun r0 =>
 cond (!r0.1)
 (some (false, ()))
 (cond (decide (12 < (x0.2.1.length : Int)))
 (some (false, ()))
 (cond (!(eqI (x0.2.2.1.length : Int) 15))
 (some (false, ()))
 (lB R L x0 [] 0))))) := by kernel_rfl
theorem Ag5 (v1 : d71) (v3 : List Int) (v4 : Int) : @Eq _ (lB R L v1 v3 v4 ([1, 1, 1, 0, 1, 0] ++ [0])) (cond (decide (v4 < (v1.2.1.length : Int)))
 (cond (zA v4)
 (cond (Nat.blt v4.toNat v1.2.1.length)
 ((fA R v1 (v1.2.1.getD v4.toNat (0, (0, (0, ())))) v3).bind fun r0 =>
 cond (!r0.1)
 (some (false, ()))
 (cond (zA v4)
 (cond (Nat.blt v4.toNat v1.2.1.length)
 (cond (yT (v3.length + ([(v1.2.1.getD v4.toNat (0, (0, (0, ())))).1]).length))
 (lB R L v1 (v3 ++ [(v1.2.1.getD v4.toNat (0, (0, (0, ())))).1]) (IntKind.wrap .i64 (v4 + 1)))
 none)
 none)
 none))
 none)
 none)
 (oP R L v1 v3 0)) := by kernel_rfl
theorem Ai1 (v1 : d71) (v3 : List Int) (v5 : Int) : @Eq _ (oP R L v1 v3 v5 ([1, 1, 1, 1, 0, 1, 0] ++ [0])) (cond (decide (v5 < 15))
 (cond (zA v5)
 (cond (Nat.blt v5.toNat v1.2.2.1.length)
 (cond (decide (2 < ((v1.2.2.1.getD v5.toNat []).length : Int)))
 (some (false, ()))
 (mX R L v1 v3 v5 0))
 none)
 none)
 (some (true, ()))) := by kernel_rfl
theorem Ae2 (v1 : d71) (v3 : List Int) (v5 v6 : Int) : @Eq _ (mX R L v1 v3 v5 v6 ([1, 1, 1, 1, 0, 1, 0, 0, 1, 0, 0, 1, 1, 0] ++ [0])) (cond (zA v5)
 (cond (Nat.blt v5.toNat v1.2.2.1.length)
 (cond (decide (v6 < ((v1.2.2.1.getD v5.toNat []).length : Int)))
 (cond (zA v5)
 (cond (Nat.blt v5.toNat v1.2.2.1.length)
 (cond (zA v6)
 (cond (Nat.blt v6.toNat (v1.2.2.1.getD v5.toNat []).length)
 ((fA R v1 ((v1.2.2.1.getD v5.toNat []).getD v6.toNat (0, (0, (0, ())))) v3).bind fun r0 =>
 cond (!r0.1)
 (some (false, ()))
 ((AX2 R v5 ((v1.2.2.1.getD v5.toNat []).getD v6.toNat (0, (0, (0, ())))).2.1).bind fun r1 =>
 cond (!r1.1)
 (some (false, ()))
 (cond (yT (v3.length + ([((v1.2.2.1.getD v5.toNat []).getD v6.toNat (0, (0, (0, ())))).1]).length))
 (mX R L v1 (v3 ++ [((v1.2.2.1.getD v5.toNat []).getD v6.toNat (0, (0, (0, ())))).1]) v5 (IntKind.wrap .i64 (v6 + 1)))
 none)))
 none)
 none)
 none)
 none)
 (oP R L v1 v3 (IntKind.wrap .i64 (v5 + 1))))
 none)
 none) := by kernel_rfl
theorem BG0 (x0 : d74) : @Eq _ (AI0 (zD EE R L) x0) (cond (!(eqI (x0.1.length : Int) 11))
 (some (false, ()))
 ((AM5 R x0.2.1).bind fun r0 =>
 cond (!r0.1)
 (some (false, ()))
 (oE R L x0 0))) := by kernel_rfl
theorem Aq6 (v1 : d74) (v3 : Int) : @Eq _ (oE R L v1 v3 ([1, 1, 0, 1, 0] ++ [0])) (cond (decide (v3 < (v1.1.length : Int)))
 (cond (zA v3)
 (cond (Nat.blt v3.toNat v1.1.length)
 ((tL R (v1.1.getD v3.toNat 0) 0 9999).bind fun r0 =>
 cond (!r0.1)
 (some (false, ()))
 (cond (zA v3)
 (cond (Nat.blt v3.toNat v1.1.length)
 (cond (decide (0 < (v1.1.getD v3.toNat 0)))
 (cond (zA v3)
 (cond (Nat.ble v3.toNat v1.1.length)
 (cond (zA v3)
 (cond (Nat.blt v3.toNat v1.1.length)
 ((AI1 R (List.drop 0 (List.take v3.toNat v1.1)) (v1.1.getD v3.toNat 0)).bind fun r1 =>
 cond r1.1
 (some (false, ()))
 (oE R L v1 (IntKind.wrap .i64 (v3 + 1))))
 none)
 none)
 none)
 none)
 (oE R L v1 (IntKind.wrap .i64 (v3 + 1))))
 none)
 none))
 none)
 none)
 (some (true, ()))) := by kernel_rfl
theorem Am6 (x0 : d75) : @Eq _ (jN (zD EE R L) x0) ((tL R x0.1 0 19).bind fun r0 =>
 cond (!r0.1)
 (some (false, ()))
 (cond (decide (32 < (x0.2.1.length : Int)))
 (some (false, ()))
 (cond (!(eqI x0.1 0))
 (cond (decide (0 < (x0.2.1.length : Int)))
 (some (false, ()))
 (xT R L x0 x0 false 0))
 (xT R L x0 x0 false 0)))) := by kernel_rfl
theorem bU (v0 v1 : d75) (v2 : Bool) (v3 : Int) : @Eq _ (xT R L v0 v1 v2 v3 ([1, 1, 0, 1, 0] ++ [0])) (cond (decide (v3 < (v1.2.1.length : Int)))
 (cond (zA v3)
 (cond (Nat.blt v3.toNat v1.2.1.length)
 ((tL R (v1.2.1.getD v3.toNat 0) 0 999999).bind fun r0 =>
 cond (!r0.1)
 (some (false, ()))
 (xT R L v0 v1 v2 (IntKind.wrap .i64 (v3 + 1))))
 none)
 none)
 (some (true, ()))) := by kernel_rfl
theorem Av2 (x0:List d75):@Eq _ (gG (zD EE R L) x0) (vY R L x0 false 0):=by kernel_rfl
theorem AE2 (v0 : List d75) (v2 : Bool) (v3 : Int) : @Eq _ (vY R L v0 v2 v3 ([1, 0, 1, 0] ++ [0])) (cond (decide (v3 < (v0.length : Int)))
 (cond (zA v3)
 (cond (Nat.blt v3.toNat v0.length)
 ((jN R (v0.getD v3.toNat (0, ([], ())))).bind fun r0 =>
 cond (!r0.1)
 (some (false, ()))
 (vY R L v0 v2 (IntKind.wrap .i64 (v3 + 1))))
 none)
 none)
 (some (decide ((v0.length : Int) ≤ 2), ()))) := by kernel_rfl
theorem A0f (x0:List d69):@Eq _ (fU (zD EE R L) x0) (uZ R L x0 0):=by kernel_rfl
theorem AI7 (v0 : List d69) (v3 : Int) : @Eq _ (uZ R L v0 v3 ([1, 0, 1, 0] ++ [0])) (cond (decide (v3 < (v0.length : Int)))
 (cond (zA v3)
 (cond (Nat.blt v3.toNat v0.length)
 ((tL R (v0.getD v3.toNat (0, (0, (0, ())))).1 0 11).bind fun r0 =>
 cond (!r0.1)
 (some (false, ()))
 ((tL R (v0.getD v3.toNat (0, (0, (0, ())))).2.1 0 7).bind fun r1 =>
 cond (!r1.1)
 (some (false, ()))
 ((tL R (v0.getD v3.toNat (0, (0, (0, ())))).2.2.1 0 999999).bind fun r2 =>
 cond (!r2.1)
 (some (false, ()))
 (uZ R L v0 (IntKind.wrap .i64 (v3 + 1))))))
 none)
 none)
 (some (decide ((v0.length : Int) ≤ 2), ()))) := by kernel_rfl
theorem A4R (x0:d81):@Eq _ (AR9 (zD EE R L) x0) (some ((x0.1,(x0.2.1,(x0.2.2.1,(false,(true,x0.2.2.2.2.2))))),())):=by kernel_rfl
theorem Aa8 (x0 : d81) : @Eq _ (lE (zD EE R L) x0) (cond (zA (IntKind.wrap .i64 (16 * (IntKind.wrap .i64 (x0.2.1.2.1 + 1)))))
 (cond (zA (IntKind.wrap .i64 (16 * x0.2.1.2.1)))
 (cond (Nat.ble (IntKind.wrap .i64 (16 * (IntKind.wrap .i64 (x0.2.1.2.1 + 1)))).toNat x0.2.2.1.1.length)
 (cond (Nat.ble (IntKind.wrap .i64 (16 * x0.2.1.2.1)).toNat (IntKind.wrap .i64 (16 * (IntKind.wrap .i64 (x0.2.1.2.1 + 1)))).toNat)
 (some (List.drop (IntKind.wrap .i64 (16 * x0.2.1.2.1)).toNat (List.take (IntKind.wrap .i64 (16 * (IntKind.wrap .i64 (x0.2.1.2.1 + 1)))).toNat x0.2.2.1.1), ()))
 none)
 none)
 none)
 none) := by kernel_rfl
theorem A57 (x0 x1 x2 x3 : List UInt8) : @Eq _ (AM6 (zD EE R L) x0 x1 x2 x3) (cond (decide ((x3.length : Int) < 16))
 (some ([], (false, ())))
 (cond (zA (IntKind.wrap .i64 ((x3.length : Int) - 16)))
 (cond (Nat.ble (IntKind.wrap .i64 ((x3.length : Int) - 16)).toNat x3.length)
 (cond (zA (IntKind.wrap .i64 ((x3.length : Int) - 16)))
 (cond (Nat.ble x3.length x3.length)
 (cond (Nat.ble (IntKind.wrap .i64 ((x3.length : Int) - 16)).toNat x3.length)
 ((AM2 R x0 x1 x2 (List.drop 0 (List.take (IntKind.wrap .i64 ((x3.length : Int) - 16)).toNat x3))).bind fun r0 =>
 cond (!(eqS r0.1 (List.drop (IntKind.wrap .i64 ((x3.length : Int) - 16)).toNat (List.take x3.length x3))))
 (some ([], (false, ())))
 ((Ad9 R x0 x1 1 (List.drop 0 (List.take (IntKind.wrap .i64 ((x3.length : Int) - 16)).toNat x3))).bind fun r1 =>
 some (r1.1, (true, ()))))
 none)
 none)
 none)
 none)
 none)) := by kernel_rfl
theorem A8F (x0 : List UInt8) (x1 x2 x3 : Int) (x4 : List UInt8) : @Eq _ (hM (zD EE R L) x0 x1 x2 x3 x4) ((AA9 R x1 x2 x3).bind fun r0 =>
 (AM6 R x0 r0.1 [98, 108, 111, 99, 107] x4).bind fun r1 =>
 some (r1.1, (r1.2.1, ()))) := by kernel_rfl
theorem A12 (x0:List UInt8):@Eq _ (cM (zD EE R L) x0) (pJ R L x0 [] 0):=by kernel_rfl
theorem AP7 (v0 : List UInt8) (v3 : List Int) (v4 : Int) : @Eq _ (pJ R L v0 v3 v4 ([1, 1, 0, 1, 0] ++ [0])) (cond (decide (v4 < (v0.length : Int)))
 (cond (zA v4)
 (cond (Nat.ble v0.length v0.length)
 (cond (Nat.ble v4.toNat v0.length)
 ((lQ R (List.drop v4.toNat (List.take v0.length v0))).bind fun r0 =>
 cond (yT (v3.length + ([IntKind.wrap .i64 r0.1]).length))
 (pJ R L v0 (v3 ++ [IntKind.wrap .i64 r0.1]) (IntKind.wrap .i64 (v4 + 4)))
 none)
 none)
 none)
 none)
 (some (v3, ()))) := by kernel_rfl
theorem AE7 (x0 : d75) (x1 : FnVal) : @Eq _ (nD (zD EE R L) x0 x1) ((uC EE R x1 [⟨t12, (x0 : d75)⟩]).bind fun (r0 : Bool) =>
 some (!r0, ())) := by kernel_rfl
theorem mB (x0:List d75) (x1:FnVal):@Eq _ (xF (zD EE R L) x0 x1) (wC R L x0 x1 0 (x0.length:Int) 0):=by kernel_rfl
theorem nE (v0 : List d75) (v1 : FnVal) (v4 v7 v8 : Int) : @Eq _ (wC R L v0 v1 v4 v7 v8 ([1, 0, 1, 0] ++ [0])) (cond (decide (v8 < v7))
 (cond (zA v8)
 (cond (Nat.blt v8.toNat v0.length)
 ((uC EE R v1 [⟨t12, (v0.getD v8.toNat (0, ([], ())) : d75)⟩]).bind fun (r0 : Bool) =>
 cond r0
 (some (v8, ()))
 (zE R L v0 v1 v4 v8 v7 (IntKind.wrap .i64 (v8 + 1))))
 none)
 none)
 (some (-1, ()))) := by kernel_rfl
theorem wH (v0 : List d75) (v1 : FnVal) (v4 v5 v7 v8 : Int) : @Eq _ (zE R L v0 v1 v4 v5 v7 v8 ([1, 0, 1, 0] ++ [0])) (cond (decide (v8 < v7))
 (cond (zA v8)
 (cond (Nat.blt v8.toNat v0.length)
 ((uC EE R v1 [⟨t12, (v0.getD v8.toNat (0, ([], ())) : d75)⟩]).bind fun (r0 : Bool) =>
 cond r0
 (some (v8, ()))
 (zE R L v0 v1 v4 v8 v7 (IntKind.wrap .i64 (v8 + 1))))
 none)
 none)
 (some (-1, ()))) := by kernel_rfl
theorem oU (x0 : List d75) (x1 : FnVal) : @Eq _ (yU (zD EE R L) x0 x1) ((xF R x0 x1).bind fun r0 =>
 some (decide (0 ≤ r0.1), ())) := by kernel_rfl
theorem AN6 (x0 : List d75) (x1 : FnVal) : @Eq _ (qZ (zD EE R L) x0 x1) ((yU R x0 (FnVal.mk (299 : Nat) (FCaps.fn x1 FCaps.nil))).bind fun r0 =>
 some (!r0.1, ())) := by kernel_rfl
theorem A7n (x0 : Int) : @Eq _ (AL7 (zD EE R L) x0) ((sQ R x0 0 19).bind fun r0 =>
 some (r0.1, ())) := by kernel_rfl
theorem A3Y (x0 : d75) : @Eq _ (cS (zD EE R L) x0) ((AL7 R x0.1).bind fun r0 =>
 cond r0.1
 (cond (decide ((x0.2.1.length : Int) ≤ 32))
 ((uS R x0.2.1 (FnVal.mk (235 : Nat) FCaps.nil)).bind fun r1 =>
 cond r1.1
 (cond (eqI x0.1 0)
 (some (true, ()))
 (some (eqI (x0.2.1.length : Int) 0, ())))
 (some (false, ())))
 (some (false, ())))
 (some (false, ()))) := by kernel_rfl
theorem Aw0 (x0 : List d75) : @Eq _ (gO (zD EE R L) x0) (cond (decide ((x0.length : Int) ≤ 2))
 ((qZ R x0 (FnVal.mk (239 : Nat) FCaps.nil)).bind fun r0 =>
 some (r0.1, ()))
 (some (false, ()))) := by kernel_rfl
theorem Ai8 (x0 : d81) : @Eq _ (kC (zD EE R L) x0) ((mV R x0).bind fun r0 =>
 some ((r0.1.1, (r0.1.2.1, (r0.1.2.2.1, (false, (true, r0.1.2.2.2.2.2))))), ())) := by kernel_rfl
end Go.Rf.S

end
section
namespace Go.Rf.S
open Go.Proofs
set_option maxRecDepth 100000
instance Bz1:Laid:=⟨[]⟩
def Bw8:List Dyn → Option (Ty.pair .str .unit).D
 | [k,n,c,t]=>(A9v k).bind fun k=>(A9v n).bind fun n=>(Ba1 c).bind fun c=>(A9v t).bind fun t=>some (chX k n (t.length / 64 + 1) c.toNat t,())
 | _=>none
def itx (x:Int):List UInt8:=ub (lit x.toNat 4)
def By8:List Dyn → Option (Ty.pair .bool .unit).D
 | [e]=>(lV e.t tE e.x).bind fun e=>some (Ac6 e,())
 | _=>none
abbrev tB:Ty:=.pair (.int .i64) (.pair (.int .i64) (.pair (.int .i64) .unit))
def Bw4:List Dyn → Option (Ty.pair (.sl tB) .unit).D
 | [l]=>(Bv2 (.sl tB) l).bind fun l=>some ((List.flatten (l:List (List tB.D)):List tB.D),())
 | _=>none
def Bx0:List Dyn → Option (Ty.pair (.sl (.int .i64)) .unit).D
 | [l]=>(Bv2 (.int .i64) l).bind fun l=>some ((l.reverse:List Int),())
 | _=>none
noncomputable def X:(f:FuncId) → Option (List Dyn → Option (EE.cfg f).rt.D)
 | 311=>some Bp2
 | 273=>some (okH EE 273 Bw8)
 | 162=>some (okH EE 162 By8)
 | 303=>some (okH EE 303 Bw4)
 | 366=>some (okH EE 366 Bx0)
 | _=>none
noncomputable abbrev R:Run EE:=run X
noncomputable abbrev L:jU:=lps X
theorem A81 {f:FuncId} {h:List Dyn → Option (EE.cfg f).rt.D} (hX:X f = some h) (ds:List Dyn):run X f ds = h ds:=by
 rw [BU7];unfold AS5;rw [hX]
theorem call {f:FuncId} {ds:List Dyn} {r:Option (EE.cfg f).rt.D} (h:zD EE R L f ds = r) (hX:X f = none:=by rfl):R f ds = r:=(Bo4 X hX ds).trans h
theorem round {f:FuncId} {fn:Func} {p:List Nat} {σ:List SV} {r:Option (EE.cfg f).rt.D} (h:(jX (A5y fn) p && !A7x (EE.cfg f).keep) = true) (q:zT EE R L f fn (p ++ [0]) σ = r):zT EE R L f fn p σ = r:=(BF5 h).trans q
theorem Bu6:∀ f h,X f = some h → ∀ ds x,h ds = some x → BW0 EE f ds x:=by
 intro f h hX ds x hx
 unfold X at hX
 split at hX
 ·cases hX
  obtain ⟨s,n,rfl,h1,h2,rfl⟩:=A9c hx
  exact BB8 (E:=EE) Tryz.laysRep Tryz.extra rfl Tryz.func311 (by kernel_rfl) (by kernel_rfl) s n h1 h2
 ·cases hX;exact A5q hx
 ·cases hX;exact A5q hx
 ·cases hX;exact A5q hx
 ·cases hX;exact A5q hx
 ·cases hX
theorem mixed:EE.P.follows .mixedOrders = true:=by kernel_rfl
theorem Bc9:Ac2 EE.P:=A0V (by kernel_rfl)
theorem A7L:Aw6 EE R:=BT3 X Bu6 mixed Bc9
end Go.Rf.S

end
section
namespace Go.Rf.S
set_option maxRecDepth 100000
theorem At6 {k:IntKind} {a b:Nat} (h:a + b < sJ k):IntKind.wrap k ((a:Int) + (b:Int)) = ((a + b:Nat):Int):=by
 rw [show (a:Int) + (b:Int) = ((a + b:Nat):Int) from by omega,AZ5 h]
theorem BU1 (a b:Nat):IntKind.wrap .u32 ((a:Int) + (b:Int)) = (((a + b) % 4294967296:Nat):Int):=by
 rw [show (a:Int) + (b:Int) = ((a + b:Nat):Int) from by omega,Ap2]
theorem m32 {a:Nat} (h:a < 9223372036854775808):xH .and .i64 (a:Int) 4294967295 = ((a % 4294967296:Nat):Int):=by
 rw [show (4294967295:Int) = ((4294967295:Nat):Int) from rfl,AT6 (k:=.i64) h (by decide),BY4]
theorem A9y {a c:Nat} (h:c ≤ a) (ha:a < 9223372036854775808):IntKind.wrap .i64 ((a:Int) - (c:Int)) = ((a - c:Nat):Int):=by
 rw [zI (by omega) (by omega)];omega
theorem A22 {k:IntKind} {a n:Nat} (h:a * 2 ^ n < sJ k):IntKind.wrap k ((a:Int) * (2 ^ n:Int)) = ((a * 2 ^ n:Nat):Int):=by
 rw [A7k,AZ5 h]
theorem Bt8:∀ n:Fin 32,0 < n.val → xH .and .u64 (IntKind.wrap .u64 (Be1 .i64 (n.val:Int))) 31 = ((32 - n.val:Nat):Int):=by decide +kernel
theorem Bl2 (x n:Nat) (hx:x < 4294967296) (h0:0 < n) (hn:n < 32):yX R (x:Int) (Be1 .i64 (n:Int)) = some (((rr n x:Nat):Int),()):=by
 have hq:yX R (x:Int) (Be1 .i64 (n:Int)) = _:=call (kQ R L (x:Int) (Be1 .i64 (n:Int)))
 have e1:=Bt8 ⟨n,hn⟩ h0
 simp only at e1
 have e2:IntKind.wrap .u64 ((32:Int) - ((32 - n:Nat):Int)) = (n:Int):=by
  rw [show (32:Int) - ((32 - n:Nat):Int) = (n:Int) by omega,AZ5 (by simp only [sJ];omega)]
 rw [hq,e1,e2,decide_eq_false (show ¬ ((n:Int) < 0) by omega)]
 simp only [cond_false,tn]
 rw [show Min.min (32 - n) (IntKind.bits .u32) = 32 - n from Nat.min_eq_left (by simp only [IntKind.bits];omega),show Min.min n (IntKind.bits .u32) = n from Nat.min_eq_left (by simp only [IntKind.bits];omega),A7k,Ap2,jO,
  Ah6 (k:=.u32) (wU _) (lD _ hx)]
 unfold rr rl
 rw [show 32 - (32 - n) = n by omega]
theorem gC (x n:Nat) (hx:x < 4294967296) (h0:0 < n) (hn:n < 32):xQ R (x:Int) (n:Int) = some (((rr n x:Nat):Int),()):=by
 have hq:xQ R (x:Int) (n:Int) = _:=call (A7c R L (x:Int) (n:Int))
 rw [hq,Bl2 x n hx h0 hn]
 rfl
theorem bJ (x n:Nat) (hx:x < 4294967296) (h0:0 < n) (hn:n < 32):yJ R (x:Int) (n:Int) = some (((rr n x:Nat):Int),()):=by
 have hq:yJ R (x:Int) (n:Int) = _:=call (A3s R L (x:Int) (n:Int))
 have e2:IntKind.wrap .i64 ((32:Int) - (n:Int)) = ((32 - n:Nat):Int):=by
  rw [zI (by omega) (by omega)];omega
 have hb:x * 2 ^ (32 - n) < 9223372036854775808:=by
  have h1:2 ^ (32 - n) ≤ 2 ^ 31:=Nat.pow_le_pow_right (by decide) (by omega)
  have h2:x * 2 ^ (32 - n) ≤ x * 2 ^ 31:=Nat.mul_le_mul_left _ h1
  omega
 rw [hq,e2,decide_eq_false (show ¬ ((n:Int) < 0) by omega),decide_eq_false (show ¬ (((32 - n:Nat):Int) < 0) by omega)]
 simp only [cond_false,tn]
 rw [show Min.min (32 - n) (IntKind.bits .i64) = 32 - n from Nat.min_eq_left (by simp only [IntKind.bits];omega),show Min.min n (IntKind.bits .i64) = n from Nat.min_eq_left (by simp only [IntKind.bits];omega),A22 (k:=.i64) hb,jO,
  Ah6 (k:=.i64) (Nat.lt_trans (lD _ hx) (by decide)) hb,m32 (Nat.or_lt_two_pow (n:=63) (Nat.lt_trans (lD _ hx) (by decide)) hb),Bf0 (by omega) hx]
theorem R7 {x:Nat} (hx:x < 4294967296):yJ R (x:Int) 7 = some (((rr 7 x:Nat):Int),()):=bJ x 7 hx (by decide) (by decide)
theorem T7 {x:Nat} (hx:x < 4294967296):xQ R (x:Int) 7 = some (((rr 7 x:Nat):Int),()):=gC x 7 hx (by decide) (by decide)
theorem R18 {x:Nat} (hx:x < 4294967296):yJ R (x:Int) 18 = some (((rr 18 x:Nat):Int),()):=bJ x 18 hx (by decide) (by decide)
theorem T18 {x:Nat} (hx:x < 4294967296):xQ R (x:Int) 18 = some (((rr 18 x:Nat):Int),()):=gC x 18 hx (by decide) (by decide)
theorem R17 {x:Nat} (hx:x < 4294967296):yJ R (x:Int) 17 = some (((rr 17 x:Nat):Int),()):=bJ x 17 hx (by decide) (by decide)
theorem T17 {x:Nat} (hx:x < 4294967296):xQ R (x:Int) 17 = some (((rr 17 x:Nat):Int),()):=gC x 17 hx (by decide) (by decide)
theorem R19 {x:Nat} (hx:x < 4294967296):yJ R (x:Int) 19 = some (((rr 19 x:Nat):Int),()):=bJ x 19 hx (by decide) (by decide)
theorem T19 {x:Nat} (hx:x < 4294967296):xQ R (x:Int) 19 = some (((rr 19 x:Nat):Int),()):=gC x 19 hx (by decide) (by decide)
theorem R6 {x:Nat} (hx:x < 4294967296):yJ R (x:Int) 6 = some (((rr 6 x:Nat):Int),()):=bJ x 6 hx (by decide) (by decide)
theorem T6 {x:Nat} (hx:x < 4294967296):xQ R (x:Int) 6 = some (((rr 6 x:Nat):Int),()):=gC x 6 hx (by decide) (by decide)
theorem R11 {x:Nat} (hx:x < 4294967296):yJ R (x:Int) 11 = some (((rr 11 x:Nat):Int),()):=bJ x 11 hx (by decide) (by decide)
theorem T11 {x:Nat} (hx:x < 4294967296):xQ R (x:Int) 11 = some (((rr 11 x:Nat):Int),()):=gC x 11 hx (by decide) (by decide)
theorem R25 {x:Nat} (hx:x < 4294967296):yJ R (x:Int) 25 = some (((rr 25 x:Nat):Int),()):=bJ x 25 hx (by decide) (by decide)
theorem T25 {x:Nat} (hx:x < 4294967296):xQ R (x:Int) 25 = some (((rr 25 x:Nat):Int),()):=gC x 25 hx (by decide) (by decide)
theorem R2 {x:Nat} (hx:x < 4294967296):yJ R (x:Int) 2 = some (((rr 2 x:Nat):Int),()):=bJ x 2 hx (by decide) (by decide)
theorem T2 {x:Nat} (hx:x < 4294967296):xQ R (x:Int) 2 = some (((rr 2 x:Nat):Int),()):=gC x 2 hx (by decide) (by decide)
theorem R13 {x:Nat} (hx:x < 4294967296):yJ R (x:Int) 13 = some (((rr 13 x:Nat):Int),()):=bJ x 13 hx (by decide) (by decide)
theorem T13 {x:Nat} (hx:x < 4294967296):xQ R (x:Int) 13 = some (((rr 13 x:Nat):Int),()):=gC x 13 hx (by decide) (by decide)
theorem R22 {x:Nat} (hx:x < 4294967296):yJ R (x:Int) 22 = some (((rr 22 x:Nat):Int),()):=bJ x 22 hx (by decide) (by decide)
theorem T22 {x:Nat} (hx:x < 4294967296):xQ R (x:Int) 22 = some (((rr 22 x:Nat):Int),()):=gC x 22 hx (by decide) (by decide)
theorem A28 {k:IntKind} (hk:256 ≤ sJ k) (b:UInt8):IntKind.wrap k ((b.toNat:Nat):Int) = ((b.toNat:Nat):Int):=AZ5 (Nat.lt_of_lt_of_le (UInt8.toNat_lt _) hk)
theorem Bf7 {k:IntKind} (hk:4294967296 ≤ sJ k) {a b:Nat} (ha:a < 4294967296) (hb:b < 4294967296):xH .or k (a:Int) (b:Int) = ((a ||| b:Nat):Int):=Ah6 (Nat.lt_of_lt_of_le ha hk) (Nat.lt_of_lt_of_le hb hk)
theorem AF6 {k:IntKind} (hk:4294967296 ≤ sJ k) {a b:Nat} (ha:a < 4294967296) (hb:b < 4294967296):xH .xor k (a:Int) (b:Int) = ((a ^^^ b:Nat):Int):=A0w (Nat.lt_of_lt_of_le ha hk) (Nat.lt_of_lt_of_le hb hk)
theorem BC6 {k:IntKind} (hk:4294967296 ≤ sJ k) {a b:Nat} (ha:a < 4294967296) (hb:b < 4294967296):xH .and k (a:Int) (b:Int) = ((a &&& b:Nat):Int):=AT6 (Nat.lt_of_lt_of_le ha hk) (Nat.lt_of_lt_of_le hb hk)
theorem BS2 (k:IntKind) (hk:4294967296 ≤ sJ k) (h32:32 ≤ k.bits) (t:List UInt8) (i:Nat):
  xH .or k (xH .or k (xH .or k (IntKind.wrap k (IntKind.wrap k (((t.getD i 0).toNat:Nat):Int) * ((2:Int) ^ Min.min (Int.toNat 24) k.bits)))
   (IntKind.wrap k (IntKind.wrap k (((t.getD (i + 1) 0).toNat:Nat):Int) * ((2:Int) ^ Min.min (Int.toNat 16) k.bits))))
   (IntKind.wrap k (IntKind.wrap k (((t.getD (i + 2) 0).toNat:Nat):Int) * ((2:Int) ^ Min.min (Int.toNat 8) k.bits))))
   (IntKind.wrap k (((t.getD (i + 3) 0).toNat:Nat):Int)) = ((wBE t i:Nat):Int):=by
 have h0:=qB t i;have h1:=qB t (i + 1);have h2:=qB t (i + 2);have h3:=qB t (i + 3)
 have m24:Min.min (Int.toNat 24) k.bits = 24:=Nat.min_eq_left (by show 24 ≤ _;omega)
 have m16:Min.min (Int.toNat 16) k.bits = 16:=Nat.min_eq_left (by show 16 ≤ _;omega)
 have m8:Min.min (Int.toNat 8) k.bits = 8:=Nat.min_eq_left (by show 8 ≤ _;omega)
 have hk8:256 ≤ sJ k:=Nat.le_trans (by decide) hk
 unfold bt at h0 h1 h2 h3
 rw [m24,m16,m8,A28 hk8,A28 hk8,A28 hk8,A28 hk8,A22 (by omega),A22 (by omega),A22 (by omega),Bf7 hk (by omega) (by omega),Bf7 hk (iQ (by omega) (by omega)) (by omega),Bf7 hk (iQ (iQ (by omega) (by omega)) (by omega)) (by omega)]
 rfl
theorem Aq9 {i:Nat} (c:Nat) (h:i + c < 9223372036854775808):IntKind.wrap .i64 ((i:Int) + (c:Int)) = ((i + c:Nat):Int):=At6 h
theorem Bh8 (t:List UInt8) (i:Nat) (h:i + 3 < t.length) (hi:i < 1099511627776):AB5 R t (i:Int) = some (((wBE t i:Nat):Int),()):=by
 have hq:AB5 R t (i:Int) = _:=call (A4O R L t (i:Int))
 have e1:IntKind.wrap .i64 ((i:Int) + 1) = ((i + 1:Nat):Int):=Aq9 1 (by omega)
 have e2:IntKind.wrap .i64 ((i:Int) + 2) = ((i + 2:Nat):Int):=Aq9 2 (by omega)
 have e3:IntKind.wrap .i64 ((i:Int) + 3) = ((i + 3:Nat):Int):=Aq9 3 (by omega)
 rw [hq,e1,e2,e3]
 simp only [nn,tn,zX (show i < t.length by omega),zX (show i + 1 < t.length by omega),zX (show i + 2 < t.length by omega),zX h,cond_true]
 rw [BS2 .i64 (by decide) (by decide)]
end Go.Rf.S

end
section
namespace Go.Rf.S
set_option maxRecDepth 100000
theorem g0C (k:IntKind) (hk:4294967296 ≤ sJ k) (h32:32 ≤ k.bits) {x:Nat} (h:x < 4294967296):
  xH .xor k (xH .xor k ((rr 7 x:Nat):Int) ((rr 18 x:Nat):Int)) (Int.fdiv (x:Int) ((2:Int) ^ Min.min (Int.toNat 3) k.bits)) = ((g0 x:Nat):Int):=by
 rw [show Min.min (Int.toNat 3) k.bits = 3 from Nat.min_eq_left (by show 3 ≤ _;omega),jO,AF6 hk (iE h) (iE h),AF6 hk (xJ (iE h) (iE h)) (lD _ h)]
 rfl
theorem g1C (k:IntKind) (hk:4294967296 ≤ sJ k) (h32:32 ≤ k.bits) {x:Nat} (h:x < 4294967296):
  xH .xor k (xH .xor k ((rr 17 x:Nat):Int) ((rr 19 x:Nat):Int)) (Int.fdiv (x:Int) ((2:Int) ^ Min.min (Int.toNat 10) k.bits)) = ((g1 x:Nat):Int):=by
 rw [show Min.min (Int.toNat 10) k.bits = 10 from Nat.min_eq_left (by show 10 ≤ _;omega),jO,AF6 hk (iE h) (iE h),AF6 hk (xJ (iE h) (iE h)) (lD _ h)]
 rfl
theorem S1C (k:IntKind) (hk:4294967296 ≤ sJ k) {x:Nat} (h:x < 4294967296):
  xH .xor k (xH .xor k ((rr 6 x:Nat):Int) ((rr 11 x:Nat):Int)) ((rr 25 x:Nat):Int) = ((S1 x:Nat):Int):=by
 rw [AF6 hk (iE h) (iE h),AF6 hk (xJ (iE h) (iE h)) (iE h)]
 rfl
theorem S0C (k:IntKind) (hk:4294967296 ≤ sJ k) {x:Nat} (h:x < 4294967296):
  xH .xor k (xH .xor k ((rr 2 x:Nat):Int) ((rr 13 x:Nat):Int)) ((rr 22 x:Nat):Int) = ((S0 x:Nat):Int):=by
 rw [AF6 hk (iE h) (iE h),AF6 hk (xJ (iE h) (iE h)) (iE h)]
 rfl
theorem chC (k:IntKind) (hk:4294967296 ≤ sJ k) {e f g:Nat} (he:e < 4294967296) (hf:f < 4294967296) (hg:g < 4294967296):
  xH .xor k (xH .and k (e:Int) (f:Int)) (xH .and k (xH .xor k 4294967295 (e:Int)) (g:Int)) = ((ch e f g:Nat):Int):=by
 rw [show (4294967295:Int) = ((4294967295:Nat):Int) from rfl,BC6 hk he hf,AF6 hk (by decide) he,BC6 hk (xJ (by decide) he) hg,AF6 hk (kA he) (kA (xJ (by decide) he))]
 rfl
theorem mjC (k:IntKind) (hk:4294967296 ≤ sJ k) {e f g:Nat} (he:e < 4294967296) (hf:f < 4294967296) (hg:g < 4294967296):
  xH .xor k (xH .xor k (xH .and k (e:Int) (f:Int)) (xH .and k (e:Int) (g:Int))) (xH .and k (f:Int) (g:Int)) = ((mj e f g:Nat):Int):=by
 rw [BC6 hk he hf,BC6 hk he hg,BC6 hk hf hg,AF6 hk (kA he) (kA he),AF6 hk (xJ (kA he) (kA he)) (kA hf)]
 rfl
def Wd (n:Nat) (w:List Nat):Prop:=w.length = n ∧ Bd 4294967296 w
theorem Wd.g {n:Nat} {w:List Nat} (h:Wd n w) (i:Nat):w.getD i 0 < 4294967296:=h.2.get (by decide) i
theorem Wd.s {n:Nat} {w:List Nat} (h:Wd n w) {i a:Nat} (ha:a < 4294967296):Wd n (w.set i a):=⟨by rw [List.length_set];exact h.1,h.2.set ha⟩
theorem Wd.rep (n:Nat):Wd n (List.replicate n 0):=⟨List.length_replicate,Bd.rep (by decide)⟩
theorem Bo7 {t:List UInt8} {i:Nat} {w:List Nat} (h:Wd 64 w):Wd 64 (stA t i w):=h.s (Bn6 _ _)
theorem Bl3 {i:Nat} {w:List Nat} (h:Wd 64 w):Wd 64 (stB i w):=h.s (wU _)
theorem Bm4 {k w v:List Nat} {i:Nat} (h:Wd 8 v):Wd 8 (stC k w i v):=⟨rfl,fun x hx=>by
 simp only [stC,List.mem_cons,List.not_mem_nil,or_false] at hx
 rcases hx with rfl | rfl | rfl | rfl | rfl | rfl | rfl | rfl
 ·exact wU _
 ·exact h.g 0
 ·exact h.g 1
 ·exact h.g 2
 ·exact wU _
 ·exact h.g 4
 ·exact h.g 5
 ·exact h.g 6⟩
theorem Bd5 {v:List Nat} {i:Nat} {w:List Nat} {n:Nat} (h:Wd n w):Wd n (stD v i w):=h.s (wU _)
def kT:List Nat:=[1116352408,1899447441,3049323471,3921009573,961987163,1508970993,2453635748,2870763221,3624381080,310598401,607225278,1426881987,1925078388,2162078206,2614888103,3248222580,3835390401,4022224774,264347078,604807628,770255983,1249150122,1555081692,1996064986,2554220882,2821834349,2952996808,3210313671,3336571891,3584528711,113926993,338241895,666307205,773529912,1294757372,1396182291,1695183700,1986661051,2177026350,2456956037,2730485921,2820302411,3259730800,3345764771,3516065817,3600352804,4094571909,275423344,430227734,506948616,659060556,883997877,958139571,1322822218,1537002063,1747873779,1955562222,2024104815,2227730452,2361852424,2428436474,2756734187,3204031479,3329325298]
def hT:List Nat:=[1779033703,3144134277,1013904242,2773480762,1359893119,2600822924,528734635,1541459225]
theorem Bj8:Wd 8 hT:=⟨rfl,by intro x hx;revert x;decide⟩
theorem By2:Wd 64 kT:=⟨rfl,by intro x hx;revert x;decide⟩
theorem Ba8:AJ0 R = some (cl kT,()):=call (A2q R L)
theorem A42:AC1 R = some (cl kT,()):=call (A0l R L)
theorem Bd0:AI5 R = some (cl hT,()):=call (A2n R L)
theorem Bk5 (t:List UInt8) (ht:64 ≤ t.length) (v2 v4:List Int):
  uQ R L t v2 v4 (cl (List.replicate 64 0)) 0 = xR R L v2 v4 (cl (wK (stA t) 16 0 (List.replicate 64 0))) 16 ∧ Wd 64 (wK (stA t) 16 0 (List.replicate 64 0)):=
 yL (fun (w:List Nat) i=>uQ R L t v2 v4 (cl w) i) (stA t) (fun _ w=>Wd 64 w) 16 (fun w=>xR R L v2 v4 (cl w) 16)
  (fun w hw=>by
   have hq:uQ R L t v2 v4 (cl w) (16:Nat) = _:=round (by kernel_rfl) (AO6 R L t v2 v4 (cl w) (16:Nat))
   show uQ R L t v2 v4 (cl w) (16:Nat) = _
   rw [hq];rfl)
  (fun w i hi hw=>by
   have hq:uQ R L t v2 v4 (cl w) (i:Nat) = _:=round (by kernel_rfl) (AO6 R L t v2 v4 (cl w) (i:Nat))
   refine ⟨?_,Bo7 hw⟩
   show uQ R L t v2 v4 (cl w) (i:Nat) = _
   have e4:IntKind.wrap .i64 ((4:Int) * (i:Int)) = ((4 * i:Nat):Int):=by rw [zI (by omega) (by omega)];omega
   rw [hq,show decide ((i:Int) < 16) = true from decide_eq_true (by omega),e4,Bh8 t (4 * i) (by omega) (by omega),zB (by omega)]
   simp only [nn,tn,cond_true,Option.bind_some]
   rw [zX (show i < 64 by omega),tM]
   rfl)
  (List.replicate 64 0) (Wd.rep 64)
theorem Bh6 (v2 v4:List Int) (w0:List Nat) (h0:Wd 64 w0):
  xR R L v2 v4 (cl w0) 16 = xY R L v2 v4 (cl (wK stB 48 0 w0)) (cl kT) v2 0 ∧ Wd 64 (wK stB 48 0 w0):=by
 have h:xR R L v2 v4 (cl w0) (0 + 16) = xY R L v2 v4 (cl (wK stB 48 0 w0)) (cl kT) v2 0 ∧ Wd 64 (wK stB 48 0 w0):=yL (fun (w:List Nat) i=>xR R L v2 v4 (cl w) (i + 16)) stB (fun _ w=>Wd 64 w) 48 (fun w=>xY R L v2 v4 (cl w) (cl kT) v2 0)
  (fun w hw=>by
   have hq:xR R L v2 v4 (cl w) (64:Nat) = _:=round (by kernel_rfl) (AN9 R L v2 v4 (cl w) (64:Nat))
   show xR R L v2 v4 (cl w) (64:Nat) = _
   rw [hq,show decide (((64:Nat):Int) < 64) = false from by decide,Ba8];rfl)
  (fun w i hi hw=>by
   have hq:xR R L v2 v4 (cl w) ((i + 16:Nat):Int) = _:=round (by kernel_rfl) (AN9 R L v2 v4 (cl w) ((i + 16:Nat):Int))
   refine ⟨?_,Bl3 hw⟩
   show xR R L v2 v4 (cl w) ((i:Int) + 16) = xR R L v2 v4 (cl (stB i w)) (((i + 1:Nat):Int) + 16)
   rw [show (i:Int) + 16 = ((i + 16:Nat):Int) by omega,show ((i + 1:Nat):Int) + 16 = ((i + 16 + 1:Nat):Int) by omega]
   have e15:IntKind.wrap .i64 (((i + 16:Nat):Int) - 15) = ((i + 1:Nat):Int):=A9y (c:=15) (by omega) (by omega)
   have e2:IntKind.wrap .i64 (((i + 16:Nat):Int) - 2) = ((i + 14:Nat):Int):=A9y (c:=2) (by omega) (by omega)
   have e16:IntKind.wrap .i64 (((i + 16:Nat):Int) - 16) = ((i:Nat):Int):=A9y (c:=16) (by omega) (by omega)
   have e7:IntKind.wrap .i64 (((i + 16:Nat):Int) - 7) = ((i + 9:Nat):Int):=A9y (c:=7) (by omega) (by omega)
   have a1:=hw.g (i + 1);have a14:=hw.g (i + 14);have a0:=hw.g i;have a9:=hw.g (i + 9)
   have b1:=Bs6 a1;have b2:=Bq9 a14
   rw [hq,show decide (((i + 16:Nat):Int) < 64) = true from decide_eq_true (by omega),e15,e2,e16,e7,zB (by omega)]
   simp only [nn,tn,cond_true,zX (show i + 1 < 64 by omega),zX (show i + 14 < 64 by omega),zX (show i < 64 by omega),zX (show i + 9 < 64 by omega),zX (show i + 16 < 64 by omega),yG]
   rw [R7 a1,R18 a1,R17 a14,R19 a14]
   simp only [Option.bind_some]
   rw [g0C .i64 (by decide) (by decide) a1,g1C .i64 (by decide) (by decide) a14,At6 (by simp only [sJ];omega),At6 (by simp only [sJ];omega),At6 (by simp only [sJ];omega),m32 (by omega),tM]
   rfl)
  w0 h0
 rw [Int.zero_add] at h
 exact h
theorem Bh4 (v2 v4:List Int) (w v0:List Nat) (hw:Wd 64 w) (h0:Wd 8 v0):
  xY R L v2 v4 (cl w) (cl kT) (cl v0) 0 = wM R L v2 v4 (cl (wK (stC kT w) 64 0 v0)) 0 ∧ Wd 8 (wK (stC kT w) 64 0 v0):=
 yL (fun (v:List Nat) i=>xY R L v2 v4 (cl w) (cl kT) (cl v) i) (stC kT w) (fun _ v=>Wd 8 v) 64 (fun v=>wM R L v2 v4 (cl v) 0)
  (fun v hv=>by
   have hq:xY R L v2 v4 (cl w) (cl kT) (cl v) (64:Nat) = _:=round (by kernel_rfl) (AQ9 R L v2 v4 (cl w) (cl kT) (cl v) (64:Nat))
   show xY R L v2 v4 (cl w) (cl kT) (cl v) (64:Nat) = _
   rw [hq];rfl)
  (fun v i hi hv=>by
   have hq:xY R L v2 v4 (cl w) (cl kT) (cl v) (i:Nat) = _:=round (by kernel_rfl) (AQ9 R L v2 v4 (cl w) (cl kT) (cl v) (i:Nat))
   refine ⟨?_,Bm4 hv⟩
   show xY R L v2 v4 (cl w) (cl kT) (cl v) (i:Nat) = _
   have a0:=hv.g 0;have a1:=hv.g 1;have a2:=hv.g 2;have a3:=hv.g 3;have a4:=hv.g 4;have a5:=hv.g 5;have a6:=hv.g 6;have a7:=hv.g 7
   have ak:=By2.g i;have aw:=hw.g i
   have b1:=Bq6 a4;have b0:=Bs9 a0;have bc:=Bq0 (f:=v.getD 5 0) (g:=v.getD 6 0) a4;have bm:=Bq3 (c:=v.getD 2 0) a0 a1
   rw [hq,show decide ((i:Int) < 64) = true from decide_eq_true (by omega),zB (by omega)]
   simp only [nn,tn,cond_true,zX (show i < 64 by omega),yG,show Int.toNat 0 = 0 from rfl,show Int.toNat 1 = 1 from rfl,show Int.toNat 2 = 2 from rfl,show Int.toNat 3 = 3 from rfl,show Int.toNat 4 = 4 from rfl,show Int.toNat 5 = 5 from rfl,show Int.toNat 6 = 6 from rfl,show Int.toNat 7 = 7 from rfl]
   rw [R6 a4,R11 a4,R25 a4,R2 a0,R13 a0,R22 a0]
   simp only [Option.bind_some]
   rw [S1C .i64 (by decide) a4,S0C .i64 (by decide) a0,chC .i64 (by decide) a4 a5 a6,mjC .i64 (by decide) a0 a1 a2]
   rw [At6 (a:=v.getD 7 0) (by simp only [sJ];omega),At6 (b:=ch _ _ _) (by simp only [sJ];omega),At6 (b:=kT.getD i 0) (by simp only [sJ];omega),At6 (b:=w.getD i 0) (by simp only [sJ];omega),At6 (b:=S0 _) (by simp only [sJ];omega),At6 (b:=mj _ _ _) (by simp only [sJ];omega),At6 (a:=v.getD 3 0) (by simp only [sJ];omega),m32 (by omega),m32 (by omega)]
   rfl)
  v0 h0
theorem Bk4 (v4:List Int) (v h0:List Nat) (hv:Wd 8 v) (hh:Wd 8 h0):
  wM R L (cl h0) v4 (cl v) 0 = some (cl (wK (stD v) 8 0 h0),()) ∧ Wd 8 (wK (stD v) 8 0 h0):=
 yL (fun (h:List Nat) i=>wM R L (cl h) v4 (cl v) i) (stD v) (fun _ h=>Wd 8 h) 8 (fun h=>some (cl h,()))
  (fun h _=>by
   have hq:wM R L (cl h) v4 (cl v) (8:Nat) = _:=round (by kernel_rfl) (AN8 R L (cl h) v4 (cl v) (8:Nat))
   show wM R L (cl h) v4 (cl v) (8:Nat) = _
   rw [hq];rfl)
  (fun h i hi hh=>by
   have hq:wM R L (cl h) v4 (cl v) (i:Nat) = _:=round (by kernel_rfl) (AN8 R L (cl h) v4 (cl v) (i:Nat))
   refine ⟨?_,Bd5 hh⟩
   show wM R L (cl h) v4 (cl v) (i:Nat) = _
   have a:=hh.g i;have b:=hv.g i
   rw [hq,show decide ((i:Int) < 8) = true from decide_eq_true (by omega),zB (by omega)]
   simp only [nn,tn,cond_true,zX (show i < 8 from hi),yG]
   rw [At6 (by simp only [sJ];omega),m32 (by omega),tM]
   rfl)
  h0 hh
theorem A4n (h:List Nat) (t:List UInt8) (hh:Wd 8 h) (ht:64 ≤ t.length):cY R (cl h) t = some (cl (BF6 kT h t),()) ∧ Wd 8 (BF6 kT h t):=by
 have hq:cY R (cl h) t = _:=call (A2u R L (cl h) t)
 obtain ⟨a1,a2⟩:=Bk5 t ht (cl h) (List.replicate 8 0)
 obtain ⟨b1,b2⟩:=Bh6 (cl h) (List.replicate 8 0) _ a2
 obtain ⟨c1,c2⟩:=Bh4 (cl h) (List.replicate 8 0) _ h b2 hh
 obtain ⟨d1,d2⟩:=Bk4 (List.replicate 8 0) _ h c2 hh
 exact ⟨hq.trans (a1.trans (b1.trans (c1.trans d1))),d2⟩
end Go.Rf.S

end
section
namespace Go.Rf.S
set_option maxRecDepth 100000
abbrev HS:Type:=List Int × (List UInt8 × (Int × Unit))
theorem Bo1 (v0:HS) (t:List UInt8) (ht:64 ≤ t.length) (v2:List Int):
  xE R L v0 t v2 (cl (List.replicate 64 0)) 0 = zV R L v0 v2 (cl (wK (stA t) 16 0 (List.replicate 64 0))) 16 ∧ Wd 64 (wK (stA t) 16 0 (List.replicate 64 0)):=
 yL (fun (w:List Nat) i=>xE R L v0 t v2 (cl w) i) (stA t) (fun _ w=>Wd 64 w) 16 (fun w=>zV R L v0 v2 (cl w) 16)
  (fun w hw=>by
   have hq:xE R L v0 t v2 (cl w) (16:Nat) = _:=round (by kernel_rfl) (fL R L v0 t v2 (cl w) (16:Nat))
   show xE R L v0 t v2 (cl w) (16:Nat) = _
   rw [hq];rfl)
  (fun w i hi hw=>by
   have hq:xE R L v0 t v2 (cl w) (i:Nat) = _:=round (by kernel_rfl) (fL R L v0 t v2 (cl w) (i:Nat))
   refine ⟨?_,Bo7 hw⟩
   show xE R L v0 t v2 (cl w) (i:Nat) = _
   have e4:IntKind.wrap .i64 ((4:Int) * (i:Int)) = ((4 * i:Nat):Int):=by rw [zI (by omega) (by omega)];omega
   have e1:IntKind.wrap .i64 (((4 * i:Nat):Int) + 1) = ((4 * i + 1:Nat):Int):=Aq9 1 (by omega)
   have e2:IntKind.wrap .i64 (((4 * i:Nat):Int) + 2) = ((4 * i + 2:Nat):Int):=Aq9 2 (by omega)
   have e3:IntKind.wrap .i64 (((4 * i:Nat):Int) + 3) = ((4 * i + 3:Nat):Int):=Aq9 3 (by omega)
   rw [hq,show decide ((i:Int) < 16) = true from decide_eq_true (by omega),e4,e1,e2,e3,zB (by omega)]
   simp only [nn,tn,cond_true,zX (show 4 * i < t.length by omega),zX (show 4 * i + 1 < t.length by omega),zX (show 4 * i + 2 < t.length by omega),zX (show 4 * i + 3 < t.length by omega)]
   rw [BS2 .u32 (by decide) (by decide),zX (show i < 64 by omega),tM]
   rfl)
  (List.replicate 64 0) (Wd.rep 64)
theorem Bf2 (a b c d:Nat):(((a + b) % 4294967296 + c) % 4294967296 + d) % 4294967296 = (a + b + c + d) % 4294967296:=by simp only [Nat.mod_add_mod]
theorem Bi0 (v0:HS) (v2:List Int) (w0:List Nat) (h0:Wd 64 w0):
  zV R L v0 v2 (cl w0) 16 = zY R L v0 v2 (cl (wK stB 48 0 w0)) (List.replicate 8 0) v0.1 0 ∧ Wd 64 (wK stB 48 0 w0):=by
 have h:zV R L v0 v2 (cl w0) (0 + 16) = zY R L v0 v2 (cl (wK stB 48 0 w0)) (List.replicate 8 0) v0.1 0 ∧ Wd 64 (wK stB 48 0 w0):=
  yL (fun (w:List Nat) i=>zV R L v0 v2 (cl w) (i + 16)) stB (fun _ w=>Wd 64 w) 48 (fun w=>zY R L v0 v2 (cl w) (List.replicate 8 0) v0.1 0)
  (fun w hw=>by
   have hq:zV R L v0 v2 (cl w) (64:Nat) = _:=round (by kernel_rfl) (fK R L v0 v2 (cl w) (64:Nat))
   show zV R L v0 v2 (cl w) (64:Nat) = _
   rw [hq,show decide (((64:Nat):Int) < 64) = false from by decide];rfl)
  (fun w i hi hw=>by
   have hq:zV R L v0 v2 (cl w) ((i + 16:Nat):Int) = _:=round (by kernel_rfl) (fK R L v0 v2 (cl w) ((i + 16:Nat):Int))
   refine ⟨?_,Bl3 hw⟩
   show zV R L v0 v2 (cl w) ((i:Int) + 16) = zV R L v0 v2 (cl (stB i w)) (((i + 1:Nat):Int) + 16)
   rw [show (i:Int) + 16 = ((i + 16:Nat):Int) by omega,show ((i + 1:Nat):Int) + 16 = ((i + 16 + 1:Nat):Int) by omega]
   have e15:IntKind.wrap .i64 (((i + 16:Nat):Int) - 15) = ((i + 1:Nat):Int):=A9y (c:=15) (by omega) (by omega)
   have e2:IntKind.wrap .i64 (((i + 16:Nat):Int) - 2) = ((i + 14:Nat):Int):=A9y (c:=2) (by omega) (by omega)
   have e16:IntKind.wrap .i64 (((i + 16:Nat):Int) - 16) = ((i:Nat):Int):=A9y (c:=16) (by omega) (by omega)
   have e7:IntKind.wrap .i64 (((i + 16:Nat):Int) - 7) = ((i + 9:Nat):Int):=A9y (c:=7) (by omega) (by omega)
   have a1:=hw.g (i + 1);have a14:=hw.g (i + 14);have a0:=hw.g i;have a9:=hw.g (i + 9)
   rw [hq,show decide (((i + 16:Nat):Int) < 64) = true from decide_eq_true (by omega),e15,e2,e16,e7,zB (by omega)]
   simp only [nn,tn,cond_true,zX (show i + 1 < 64 by omega),zX (show i + 14 < 64 by omega),zX (show i < 64 by omega),zX (show i + 9 < 64 by omega),zX (show i + 16 < 64 by omega),yG]
   rw [T7 a1,T18 a1,T17 a14,T19 a14]
   simp only [Option.bind_some]
   rw [g0C .u32 (by decide) (by decide) a1,g1C .u32 (by decide) (by decide) a14,BU1,BU1,BU1,Bf2,tM]
   rfl)
  w0 h0
 rw [Int.zero_add] at h
 exact h
theorem Br8 {x:List Nat} (h:x.length = 8):x = [x.getD 0 0,x.getD 1 0,x.getD 2 0,x.getD 3 0,x.getD 4 0,x.getD 5 0,x.getD 6 0,x.getD 7 0]:=by
 match x,h with
 | [a,b,c,d,e,f,g,i],_=>rfl
theorem Bo5 (v0:HS) (v2 v6:List Int) (h:List Nat) (hh:Wd 8 h):
  zY R L v0 v2 v6 (List.replicate 8 0) (cl h) 0 = yH R L v0 v2 v6 (cl h) 0:=by
 have:=(yL (fun (w:List Nat) i=>zY R L v0 v2 v6 (cl w) (cl h) i) (fun i w=>w.set i (h.getD i 0)) (fun _ w=>True) 8 (fun w=>yH R L v0 v2 v6 (cl w) 0)
  (fun w hw=>by
   have hq:zY R L v0 v2 v6 (cl w) (cl h) (8:Nat) = _:=round (by kernel_rfl) (fO R L v0 v2 v6 (cl w) (cl h) (8:Nat))
   show zY R L v0 v2 v6 (cl w) (cl h) (8:Nat) = _
   rw [hq];rfl)
  (fun w i hi hw=>by
   have hq:zY R L v0 v2 v6 (cl w) (cl h) (i:Nat) = _:=round (by kernel_rfl) (fO R L v0 v2 v6 (cl w) (cl h) (i:Nat))
   refine ⟨?_,trivial⟩
   show zY R L v0 v2 v6 (cl w) (cl h) (i:Nat) = _
   rw [hq,show decide ((i:Int) < 8) = true from decide_eq_true (by omega),zB (by omega)]
   simp only [nn,tn,cond_true,zX (show i < 8 from hi),yG]
   rw [AZ5 (k:=.u32) (hh.g i),tM])
  (List.replicate 8 0) trivial).1
 refine this.trans ?_
 rw [Br8 hh.1]
 rfl
theorem BY3 (h s c k w a m:Nat):(((((h + s) % 4294967296 + c) % 4294967296 + k) % 4294967296 + w) % 4294967296 + (a + m) % 4294967296) % 4294967296 = (h + s + c + k + w + a + m) % 4294967296:=by
 simp only [Nat.mod_add_mod,Nat.add_mod_mod,Nat.add_assoc]
theorem BL0 (d h s c k w:Nat):(d + ((((h + s) % 4294967296 + c) % 4294967296 + k) % 4294967296 + w) % 4294967296) % 4294967296 = (d + (h + s + c + k + w)) % 4294967296:=by
 simp only [Nat.mod_add_mod,Nat.add_mod_mod]
theorem Bi5 (v0:HS) (w v00:List Nat) (hw:Wd 64 w) (h0:Wd 8 v00):
  yH R L v0 (cl kT) (cl w) (cl v00) 0 = yI R L v0 (cl (wK (stC kT w) 64 0 v00)) 0 ∧ Wd 8 (wK (stC kT w) 64 0 v00):=
 yL (fun (v:List Nat) i=>yH R L v0 (cl kT) (cl w) (cl v) i) (stC kT w) (fun _ v=>Wd 8 v) 64 (fun v=>yI R L v0 (cl v) 0)
  (fun v hv=>by
   have hq:yH R L v0 (cl kT) (cl w) (cl v) (64:Nat) = _:=round (by kernel_rfl) (fP R L v0 (cl kT) (cl w) (cl v) (64:Nat))
   show yH R L v0 (cl kT) (cl w) (cl v) (64:Nat) = _
   rw [hq];rfl)
  (fun v i hi hv=>by
   have hq:yH R L v0 (cl kT) (cl w) (cl v) (i:Nat) = _:=round (by kernel_rfl) (fP R L v0 (cl kT) (cl w) (cl v) (i:Nat))
   refine ⟨?_,Bm4 hv⟩
   show yH R L v0 (cl kT) (cl w) (cl v) (i:Nat) = _
   have a0:=hv.g 0;have a1:=hv.g 1;have a2:=hv.g 2;have a3:=hv.g 3;have a4:=hv.g 4;have a5:=hv.g 5;have a6:=hv.g 6;have a7:=hv.g 7
   rw [hq,show decide ((i:Int) < 64) = true from decide_eq_true (by omega),zB (by omega),show ((2:Int) ^ IntKind.bits .u32 - 1) = 4294967295 from by decide]
   simp only [nn,tn,cond_true,zX (show i < 64 by omega),yG,show Int.toNat 0 = 0 from rfl,show Int.toNat 1 = 1 from rfl,show Int.toNat 2 = 2 from rfl,show Int.toNat 3 = 3 from rfl,show Int.toNat 4 = 4 from rfl,show Int.toNat 5 = 5 from rfl,show Int.toNat 6 = 6 from rfl,show Int.toNat 7 = 7 from rfl]
   rw [T6 a4,T11 a4,T25 a4,T2 a0,T13 a0,T22 a0]
   simp only [Option.bind_some]
   rw [S1C .u32 (by decide) a4,S0C .u32 (by decide) a0,chC .u32 (by decide) a4 a5 a6,mjC .u32 (by decide) a0 a1 a2]
   simp only [BU1]
   rw [BY3,BL0]
   rfl)
  v00 h0
theorem Bm0 (rest:List UInt8 × (Int × Unit)) (v h0:List Nat) (hv:Wd 8 v) (hh:Wd 8 h0):
  yI R L (cl h0,rest) (cl v) 0 = some ((cl (wK (stD v) 8 0 h0),rest),()) ∧ Wd 8 (wK (stD v) 8 0 h0):=
 yL (fun (h:List Nat) i=>yI R L (cl h,rest) (cl v) i) (stD v) (fun _ h=>Wd 8 h) 8 (fun h=>some ((cl h,rest),()))
  (fun h _=>by
   have hq:yI R L (cl h,rest) (cl v) (8:Nat) = _:=round (by kernel_rfl) (fQ R L (cl h,rest) (cl v) (8:Nat))
   show yI R L (cl h,rest) (cl v) (8:Nat) = _
   rw [hq];rfl)
  (fun h i hi hh=>by
   have hq:yI R L (cl h,rest) (cl v) (i:Nat) = _:=round (by kernel_rfl) (fQ R L (cl h,rest) (cl v) (i:Nat))
   refine ⟨?_,Bd5 hh⟩
   show yI R L (cl h,rest) (cl v) (i:Nat) = _
   have a:=hh.g i;have b:=hv.g i
   rw [hq,show decide ((i:Int) < 8) = true from decide_eq_true (by omega),zB (by omega)]
   simp only [nn,tn,cond_true,zX (show i < 8 from hi),yG]
   rw [AZ5 (k:=.u32) a,BU1,rA (by omega),tM]
   rfl)
  h0 hh
theorem bW (t:List UInt8) {i n:Nat} (h:i < n):(t.take n).getD i 0 = t.getD i 0:=by
 rw [List.getD_eq_getElem?_getD,List.getD_eq_getElem?_getD,List.getElem?_take,if_pos h]
theorem Aq2 {α:Type} {f g:Nat → α → α}:∀ (n i:Nat) (a:α),(∀ j b,i ≤ j → j < i + n → f j b = g j b) → wK f n i a = wK g n i a
 | 0,_,_,_=>rfl
 | n + 1,i,a,h=>by
  show wK f n (i + 1) (f i a) = wK g n (i + 1) (g i a)
  rw [h i a (Nat.le_refl _) (by omega),Aq2 n (i + 1) _ (fun j b h1 h2=>h j b (by omega) (by omega))]
theorem BA7 (k h:List Nat) (t:List UInt8):BF6 k h (t.take 64) = BF6 k h t:=by
 have e:wK (stA (t.take 64)) 16 0 (List.replicate 64 0) = wK (stA t) 16 0 (List.replicate 64 0):=Aq2 16 0 _ fun j b h1 h2=>by
  unfold stA wBE bt
  rw [bW t (by omega),bW t (by omega),bW t (by omega),bW t (by omega)]
 unfold BF6 Bv3
 rw [e]
theorem Bf4 (h:List Nat) (rest:List UInt8 × (Int × Unit)) (t:List UInt8) (hh:Wd 8 h) (ht:64 ≤ t.length):
  nJ R (cl h,rest) t (cl kT) = some ((cl (BF6 kT h t),rest),()):=by
 have hq:nJ R (cl h,rest) t (cl kT) = _:=call (AZ3 R L (cl h,rest) t (cl kT))
 obtain ⟨a1,a2⟩:=Bo1 (cl h,rest) t ht (cl kT)
 obtain ⟨b1,b2⟩:=Bi0 (cl h,rest) (cl kT) _ a2
 obtain ⟨c1,c2⟩:=Bi5 (cl h,rest) _ h b2 hh
 obtain ⟨d1,d2⟩:=Bm0 rest _ h c2 hh
 exact hq.trans (a1.trans (b1.trans ((Bo5 _ _ _ h hh).trans (c1.trans d1))))
end Go.Rf.S

end
section
namespace Go.Rf.S
set_option maxRecDepth 100000
theorem A9A {k h:List Nat} {t:List UInt8} (hh:Wd 8 h):Wd 8 (BF6 k h t):=by
 have:∀ (v:List Nat) (n i:Nat) (x:List Nat),Wd 8 x → Wd 8 (wK (stD v) n i x):=by
  intro v n
  induction n with
  | zero=>intro i x hx;exact hx
  | succ n ih=>intro i x hx;exact ih (i + 1) _ (Bd5 hx)
 exact this _ _ _ _ hh
theorem BR9 {k:List Nat}:∀ {n:Nat} {h:List Nat} {t:List UInt8},Wd 8 h → t.length < 64 * (n + 1) → Wd 8 (A9e k n h t).1 ∧ (A9e k n h t).2.length = t.length % 64
 | 0,h,t,hh,ht=>⟨hh,by show t.length = _;omega⟩
 | n + 1,h,t,hh,ht=>by
  unfold A9e
  split
  ·rename_i h64
   have:=BR9 (k:=k) (n:=n) (h:=BF6 k h t) (t:=t.drop 64) (A9A hh) (by rw [List.length_drop];omega)
   refine ⟨this.1,this.2.trans ?_⟩
   rw [List.length_drop]
   omega
  ·exact ⟨hh,by show t.length = _;omega⟩
theorem A8B {a b:Nat} (h:a ≤ b):Nat.ble a b = true:=by rw [Nat.ble_eq];exact h
theorem A9f (v4:HS) (m:Int):∀ (n:Nat) (h:List Nat) (t:List UInt8),Wd 8 h → t.length < 64 * (n + 1) →
  qU R L (cl h,(t,(m,()))) v4 = some ((cl (A9e kT n h t).1,((A9e kT n h t).2,(m,()))),()):=by
 have stop:∀ (h:List Nat) (t:List UInt8),t.length < 64 → qU R L (cl h,(t,(m,()))) v4 = some ((cl h,(t,(m,()))),()):=by
  intro h t ht
  have hq:qU R L (cl h,(t,(m,()))) v4 = _:=round (by kernel_rfl) (AY6 R L (cl h,(t,(m,()))) v4)
  rw [hq,decide_eq_false (show ¬ ((64:Int) ≤ ((t.length:Nat):Int)) by omega)]
  rfl
 intro n
 induction n with
 | zero=>intro h t hh ht;exact stop h t (by omega)
 | succ n ih=>
  intro h t hh ht
  unfold A9e
  split
  ·rename_i h64
   have hq:qU R L (cl h,(t,(m,()))) v4 = _:=round (by kernel_rfl) (AY6 R L (cl h,(t,(m,()))) v4)
   rw [hq,decide_eq_true (show (64:Int) ≤ ((t.length:Nat):Int) by omega),(A4n h t hh h64).1]
   simp only [cond_true,Option.bind_some]
   rw [A8B (Nat.le_refl _),show Int.toNat 64 = 64 from rfl,A8B h64,List.take_length]
   exact ih (BF6 kT h t) (t.drop 64) (A9A hh) (by rw [List.length_drop];omega)
  ·rename_i h64
   exact stop h t (by omega)
theorem BF1 (v4:HS) (m:Int) (old:List UInt8):∀ (n:Nat) (h:List Nat) (t:List UInt8),Wd 8 h → t.length < 64 * (n + 1) →
  sX R L t (cl h,(old,(m,()))) v4 (cl kT) = some ((cl (A9e kT n h t).1,((A9e kT n h t).2,(m,()))),()):=by
 have stop:∀ (h:List Nat) (t:List UInt8),t.length < 64 → sX R L t (cl h,(old,(m,()))) v4 (cl kT) = some ((cl h,(t,(m,()))),()):=by
  intro h t ht
  have hq:sX R L t (cl h,(old,(m,()))) v4 (cl kT) = _:=round (by kernel_rfl) (AI9 R L t (cl h,(old,(m,()))) v4 (cl kT))
  rw [hq,decide_eq_false (show ¬ ((64:Int) ≤ ((t.length:Nat):Int)) by omega)]
  rfl
 intro n
 induction n with
 | zero=>intro h t hh ht;exact stop h t (by omega)
 | succ n ih=>
  intro h t hh ht
  unfold A9e
  split
  ·rename_i h64
   have hq:sX R L t (cl h,(old,(m,()))) v4 (cl kT) = _:=round (by kernel_rfl) (AI9 R L t (cl h,(old,(m,()))) v4 (cl kT))
   rw [hq,decide_eq_true (show (64:Int) ≤ ((t.length:Nat):Int) by omega),show Int.toNat 64 = 64 from rfl,A8B h64,List.drop_zero,Bf4 h _ (t.take 64) hh (by rw [List.length_take];omega),BA7]
   simp only [cond_true,Option.bind_some]
   rw [A8B (Nat.le_refl _),List.take_length]
   exact ih (BF6 kT h t) (t.drop 64) (A9A hh) (by rw [List.length_drop];omega)
  ·rename_i h64
   exact stop h t (by omega)
def hS (h:List Nat) (r:List UInt8) (m:Nat):HS:=(cl h,(r,((m:Int),())))
def BN6 (h:List Nat) (r t:List UInt8):List Nat × List UInt8:=A9e kT ((r ++ t).length / 64) h (r ++ t)
theorem A4i (n:Nat):n < 64 * (n / 64 + 1):=by omega
theorem Ay8 (h:List Nat) (r t:List UInt8) (m:Nat) (hh:Wd 8 h) (hr:r.length ≤ 1024) (ht:t.length ≤ 549755813888) (hm:m ≤ 549755813888):
  kK R (hS h r m) t = some (hS (BN6 h r t).1 (BN6 h r t).2 (m + t.length),()):=by
 have hq:kK R (hS h r m) t = _:=call (A48 R L (hS h r m) t)
 rw [hq]
 unfold hS
 simp only
 rw [vU (by omega),At6 (by simp only [sJ];omega)]
 simp only [cond_true]
 exact A9f _ _ _ h (r ++ t) hh (A4i _)
theorem BS8 (h:List Nat) (r t:List UInt8) (m:Nat) (hh:Wd 8 h) (hr:r.length ≤ 1024) (ht:t.length ≤ 549755813888) (hm:m ≤ 549755813888):
  oQ R (hS h r m) t = some (hS (BN6 h r t).1 (BN6 h r t).2 (m + t.length),()):=by
 have hq:oQ R (hS h r m) t = _:=call (A0i R L (hS h r m) t)
 rw [hq,A42]
 unfold hS
 simp only [Option.bind_some]
 rw [vU (by omega),At6 (by simp only [sJ];omega)]
 simp only [cond_true]
 exact BF1 _ _ _ _ h (r ++ t) hh (A4i _)
theorem Az3 {h:List Nat} {r t:List UInt8} (hh:Wd 8 h):Wd 8 (BN6 h r t).1 ∧ (BN6 h r t).2.length = (r ++ t).length % 64:=BR9 hh (A4i _)
theorem Ap4 (l:List Nat):List.map (fun n:Int=>UInt8.ofNat (Int.toNat n)) (cl l) = ub l:=by
 unfold cl ub
 rw [List.map_map]
 rfl
theorem AX8 (a b:List Nat):cl a ++ cl b = cl (a ++ b):=by
 unfold cl;rw [List.map_append]
def A37 (m:Nat):Nat:=(119 - m % 64) % 64
def BI4 (b:Nat):List Nat:=[b / 2 ^ 56 % 256,b / 2 ^ 48 % 256,b / 2 ^ 40 % 256,b / 2 ^ 32 % 256,b / 2 ^ 24 % 256,b / 2 ^ 16 % 256,b / 2 ^ 8 % 256,b / 2 ^ 0 % 256]
def BW5 (m:Nat):List Nat:=128 :: List.replicate (A37 m) 0
def BU2 (m:Nat):List UInt8:=ub (BW5 m ++ BI4 (8 * m))
theorem A5r (m:Nat):(BU2 m).length = A37 m + 9:=by
 unfold BU2 ub BW5 BI4
 rw [List.length_map,List.length_append,List.length_cons,List.length_replicate]
 rfl
def be4 (x:Nat):List Nat:=[x / 2 ^ 24 % 256,x / 2 ^ 16 % 256,x / 2 ^ 8 % 256,x % 256]
theorem BA6 (a b:Nat):Int.tmod (a:Int) (b:Int) = ((a % b:Nat):Int):=rfl
theorem A6A (v1:HS) (v3:Int) (m:Nat) (hv:v1.2.2.1 = (m:Int)) (hm:m ≤ 549755813888):∀ (k j:Nat),j + k = A37 m →
  oM R L v1 v3 (cl (128 :: List.replicate j 0)) = vS R L v1 v3 (cl (BW5 m)) 7
 | 0,j,hj=>by
  have hq:oM R L v1 v3 (cl (128 :: List.replicate j 0)) = _:=round (by kernel_rfl) (Ah3 R L v1 v3 (cl (128 :: List.replicate j 0)))
  have hp:A37 m = (119 - m % 64) % 64:=rfl
  rw [hq,hv,fB,List.length_cons,List.length_replicate,At6 (by simp only [sJ];omega),show Int.tmod ((m + (j + 1):Nat):Int) 64 = (((m + (j + 1)) % 64:Nat):Int) from BA6 _ 64,
   show eqI (((m + (j + 1)) % 64:Nat):Int) 56 = true from by rw [wY];exact decide_eq_true (by omega)]
  have:j = A37 m:=by omega
  subst this
  rfl
 | k + 1,j,hj=>by
  have hq:oM R L v1 v3 (cl (128 :: List.replicate j 0)) = _:=round (by kernel_rfl) (Ah3 R L v1 v3 (cl (128 :: List.replicate j 0)))
  have hp:A37 m = (119 - m % 64) % 64:=rfl
  rw [hq,hv,fB,List.length_cons,List.length_replicate,At6 (by simp only [sJ];omega),show Int.tmod ((m + (j + 1):Nat):Int) 64 = (((m + (j + 1)) % 64:Nat):Int) from BA6 _ 64,
   show eqI (((m + (j + 1)) % 64:Nat):Int) 56 = false from by rw [wY];exact decide_eq_false (by omega)]
  simp only [Bool.not_false,cond_true]
  rw [vU (by simp only [List.length_cons,List.length_nil];omega)]
  simp only [cond_true]
  have e:cl (128 :: List.replicate j 0) ++ [(0:Int)] = cl (128 :: List.replicate (j + 1) 0):=by
   rw [show [(0:Int)] = cl [0] from rfl,AX8,List.replicate_succ',List.cons_append]
  rw [e]
  exact A6A v1 v3 m hv hm k (j + 1) (by omega)
theorem BQ8 (v1:HS) (b:Nat) (hb:b < 9223372036854775808) (p:List Nat) (hp:p.length ≤ 100) (j:Nat) (hj:j < 8):
  vS R L v1 (b:Int) (cl p) (j:Int) = vS R L v1 (b:Int) (cl (p ++ [b / 2 ^ (8 * j) % 256])) (IntKind.wrap .i64 ((j:Int) - 1)):=by
 have hq:vS R L v1 (b:Int) (cl p) (j:Int) = _:=round (by kernel_rfl) (Ai3 R L v1 (b:Int) (cl p) (j:Int))
 have e8:IntKind.wrap .i64 ((8:Int) * (j:Int)) = ((8 * j:Nat):Int):=by rw [zI (by omega) (by omega)];omega
 rw [hq,decide_eq_true (show (0:Int) ≤ (j:Int) by omega),e8,decide_eq_false (show ¬ (((8 * j:Nat):Int) < 0) by omega),tn,show Min.min (8 * j) (IntKind.bits .i64) = 8 * j from Nat.min_eq_left (by simp only [IntKind.bits];omega),jO,sO,
  vU (by rw [fB];simp only [List.length_cons,List.length_nil];omega)]
 simp only [cond_true,cond_false]
 rw [show [((b / 2 ^ (8 * j) % 256:Nat):Int)] = cl [b / 2 ^ (8 * j) % 256] from rfl,AX8]
theorem BQ1 (v1:HS) (b:Nat) (hb:b < 9223372036854775808) (p:List Nat) (hp:p.length ≤ 100) (j:Nat) (hj:j < 8):
  wB R L v1 (b:Int) (ub p) (j:Int) = wB R L v1 (b:Int) (ub (p ++ [b / 2 ^ (8 * j) % 256])) (IntKind.wrap .i64 ((j:Int) - 1)):=by
 have hq:wB R L v1 (b:Int) (ub p) (j:Int) = _:=round (by kernel_rfl) (AQ8 R L v1 (b:Int) (ub p) (j:Int))
 have e8:IntKind.wrap .i64 ((8:Int) * (j:Int)) = ((8 * j:Nat):Int):=by rw [zI (by omega) (by omega)];omega
 have hl:(ub p).length = p.length:=List.length_map _
 rw [hq,decide_eq_true (show (0:Int) ≤ (j:Int) by omega),e8,decide_eq_false (show ¬ (((8 * j:Nat):Int) < 0) by omega),tn,show Min.min (8 * j) (IntKind.bits .i64) = 8 * j from Nat.min_eq_left (by simp only [IntKind.bits];omega),jO,sO,
  vU (by rw [hl,List.length_map];simp only [List.length_cons,List.length_nil];omega)]
 simp only [cond_true,cond_false]
 rw [show [((b / 2 ^ (8 * j) % 256:Nat):Int)] = cl [b / 2 ^ (8 * j) % 256] from rfl,Ap4]
 unfold ub
 rw [List.map_append]
theorem BB0 (v1:HS) (b:Nat) (hb:b < 9223372036854775808) (p:List Nat) (hp:p.length ≤ 64):
  vS R L v1 (b:Int) (cl p) 7 = (kK R v1 (ub (p ++ BI4 b))).bind fun r0=>vT R L r0.1 ([]:List Int) 0:=by
 have st:=fun (q:List Nat) (hq:q.length ≤ 100) (j:Nat) hj=>BQ8 v1 b hb q hq j hj
 have e:vS R L v1 (b:Int) (cl p) 7 = vS R L v1 (b:Int) (cl (p ++ BI4 b)) (-1):=by
  have d:∀ j:Nat,j < 8 → IntKind.wrap .i64 (((j + 1:Nat):Int) - 1) = (j:Int):=fun j hj=>A9y (c:=1) (by omega) (by omega)
  have len:∀ (q:List Nat) (x:Nat),(q ++ [x]).length = q.length + 1:=fun q x=>by simp
  show vS R L v1 (b:Int) (cl p) ((7:Nat):Int) = _
  rw [st p (by omega) 7 (by decide),d 6 (by decide),st _ (by simp only [len];omega) 6 (by decide),d 5 (by decide),st _ (by simp only [len];omega) 5 (by decide),d 4 (by decide),st _ (by simp only [len];omega) 4 (by decide),d 3 (by decide),
   st _ (by simp only [len];omega) 3 (by decide),d 2 (by decide),st _ (by simp only [len];omega) 2 (by decide),d 1 (by decide),st _ (by simp only [len];omega) 1 (by decide),d 0 (by decide),st _ (by simp only [len];omega) 0 (by decide)]
  simp only [List.append_assoc]
  rfl
 have hq:vS R L v1 (b:Int) (cl (p ++ BI4 b)) (-1) = _:=round (by kernel_rfl) (Ai3 R L v1 (b:Int) (cl (p ++ BI4 b)) (-1))
 rw [e,hq,show decide ((0:Int) ≤ -1) = false from by decide,Ap4]
 rfl
theorem A8y (v1:HS) (b:Nat) (hb:b < 9223372036854775808) (p:List Nat) (hp:p.length ≤ 64):
  wB R L v1 (b:Int) (ub p) 7 = (oQ R v1 (ub (p ++ BI4 b))).bind fun r0=>vK R L ([]:List Int) r0.1.1 0:=by
 have st:=fun (q:List Nat) (hq:q.length ≤ 100) (j:Nat) hj=>BQ1 v1 b hb q hq j hj
 have e:wB R L v1 (b:Int) (ub p) 7 = wB R L v1 (b:Int) (ub (p ++ BI4 b)) (-1):=by
  have d:∀ j:Nat,j < 8 → IntKind.wrap .i64 (((j + 1:Nat):Int) - 1) = (j:Int):=fun j hj=>A9y (c:=1) (by omega) (by omega)
  have len:∀ (q:List Nat) (x:Nat),(q ++ [x]).length = q.length + 1:=fun q x=>by simp
  show wB R L v1 (b:Int) (ub p) ((7:Nat):Int) = _
  rw [st p (by omega) 7 (by decide),d 6 (by decide),st _ (by simp only [len];omega) 6 (by decide),d 5 (by decide),st _ (by simp only [len];omega) 5 (by decide),d 4 (by decide),st _ (by simp only [len];omega) 4 (by decide),d 3 (by decide),
   st _ (by simp only [len];omega) 3 (by decide),d 2 (by decide),st _ (by simp only [len];omega) 2 (by decide),d 1 (by decide),st _ (by simp only [len];omega) 1 (by decide),d 0 (by decide),st _ (by simp only [len];omega) 0 (by decide)]
  simp only [List.append_assoc]
  rfl
 have hq:wB R L v1 (b:Int) (ub (p ++ BI4 b)) (-1) = _:=round (by kernel_rfl) (AQ8 R L v1 (b:Int) (ub (p ++ BI4 b)) (-1))
 rw [e,hq,show decide ((0:Int) ≤ -1) = false from by decide]
 rfl
end Go.Rf.S

end
section
namespace Go.Rf.S
set_option maxRecDepth 100000
def stO (h:List Nat) (i:Nat) (o:List Nat):List Nat:=o ++ be4 (h.getD i 0)
theorem A8q (h:List Nat) (hh:Wd 8 h) (rest:List UInt8 × (Int × Unit)) (o:List Nat) (ho:o.length ≤ 100) (i:Nat) (hi:i < 8):
  sA R L (cl h,rest) (cl o) (i:Int) 3 = vT R L (cl h,rest) (cl (stO h i o)) ((i + 1:Nat):Int):=by
 have st:∀ (q:List Nat),q.length ≤ 200 → ∀ j,j < 4 → sA R L (cl h,rest) (cl q) (i:Int) (j:Nat) = sA R L (cl h,rest) (cl (q ++ [h.getD i 0 / 2 ^ (8 * j) % 256])) (i:Int) (IntKind.wrap .i64 ((j:Int) - 1)):=by
  intro q hq j hj
  have hq':sA R L (cl h,rest) (cl q) (i:Int) (j:Nat) = _:=round (by kernel_rfl) (Ah8 R L (cl h,rest) (cl q) (i:Int) (j:Nat))
  have e8:IntKind.wrap .i64 ((8:Int) * (j:Int)) = ((8 * j:Nat):Int):=by rw [zI (by omega) (by omega)];omega
  rw [hq',decide_eq_true (show (0:Int) ≤ (j:Int) by omega),e8,decide_eq_false (show ¬ (((8 * j:Nat):Int) < 0) by omega)]
  simp only [nn,tn,cond_true,cond_false,zX (show i < 8 from hi),yG]
  rw [show Min.min (8 * j) (IntKind.bits .i64) = 8 * j from Nat.min_eq_left (by simp only [IntKind.bits];omega),jO,sO,vU (by rw [fB];simp only [List.length_cons,List.length_nil];omega)]
  simp only [cond_true]
  rw [show [((h.getD i 0 / 2 ^ (8 * j) % 256:Nat):Int)] = cl [h.getD i 0 / 2 ^ (8 * j) % 256] from rfl,AX8]
 have d:∀ j:Nat,j < 8 → IntKind.wrap .i64 (((j + 1:Nat):Int) - 1) = (j:Int):=fun j hj=>A9y (c:=1) (by omega) (by omega)
 have len:∀ (q:List Nat) (x:Nat),(q ++ [x]).length = q.length + 1:=fun q x=>by simp
 have hend:∀ q,sA R L (cl h,rest) q (i:Int) (-1) = vT R L (cl h,rest) q (IntKind.wrap .i64 ((i:Int) + 1)):=fun q=>by
  have hq':sA R L (cl h,rest) q (i:Int) (-1) = _:=round (by kernel_rfl) (Ah8 R L (cl h,rest) q (i:Int) (-1))
  rw [hq'];rfl
 show sA R L (cl h,rest) (cl o) (i:Int) ((3:Nat):Int) = _
 rw [st o (by omega) 3 (by decide),d 2 (by decide),st _ (by simp only [len];omega) 2 (by decide),d 1 (by decide),st _ (by simp only [len];omega) 1 (by decide),d 0 (by decide),st _ (by simp only [len];omega) 0 (by decide),
  show IntKind.wrap .i64 (((0:Nat):Int) - 1) = -1 from by decide,hend,zB (by omega)]
 simp only [List.append_assoc]
 unfold stO be4
 simp only [Nat.mul_zero,Nat.pow_zero,Nat.div_one,List.cons_append,List.nil_append,show 8 * 3 = 24 from rfl,show 8 * 2 = 16 from rfl,show 8 * 1 = 8 from rfl]
theorem A8d (h:List Nat) (i:Nat) (o:List Nat):(stO h i o).length = o.length + 4:=by
 unfold stO be4;rw [List.length_append];rfl
theorem A6I (h:List Nat) (hh:Wd 8 h) (rest:List UInt8 × (Int × Unit)):
  vT R L (cl h,rest) (cl []) 0 = some (ub (wK (stO h) 8 0 []),()) ∧ (wK (stO h) 8 0 []).length = 4 * 8:=
 yL (fun (o:List Nat) i=>vT R L (cl h,rest) (cl o) i) (stO h) (fun i o=>o.length = 4 * i) 8 (fun o=>some (ub o,()))
  (fun o _=>by
   have hq:vT R L (cl h,rest) (cl o) (8:Nat) = _:=round (by kernel_rfl) (Ah2 R L (cl h,rest) (cl o) (8:Nat))
   show vT R L (cl h,rest) (cl o) (8:Nat) = _
   rw [hq,show decide (((8:Nat):Int) < 8) = false from by decide,Ap4];rfl)
  (fun o i hi ho=>by
   have hq:vT R L (cl h,rest) (cl o) (i:Nat) = _:=round (by kernel_rfl) (Ah2 R L (cl h,rest) (cl o) (i:Nat))
   refine ⟨?_,by rw [A8d];omega⟩
   show vT R L (cl h,rest) (cl o) (i:Nat) = _
   rw [hq,show decide ((i:Int) < 8) = true from decide_eq_true (by omega)]
   exact A8q h hh rest o (by omega) i hi)
  [] rfl
theorem BJ9 (h:List Nat) (hh:Wd 8 h):
  vK R L (cl []) (cl h) 0 = some (ub (wK (stO h) 8 0 []),()) ∧ (wK (stO h) 8 0 []).length = 4 * 8:=
 yL (fun (o:List Nat) i=>vK R L (cl o) (cl h) i) (stO h) (fun i o=>o.length = 4 * i) 8 (fun o=>some (ub o,()))
  (fun o _=>by
   have hq:vK R L (cl o) (cl h) (8:Nat) = _:=round (by kernel_rfl) (AO4 R L (cl o) (cl h) (8:Nat))
   show vK R L (cl o) (cl h) (8:Nat) = _
   rw [hq,show decide (((8:Nat):Int) < 8) = false from by decide,Ap4];rfl)
  (fun o i hi ho=>by
   have hq:vK R L (cl o) (cl h) (i:Nat) = _:=round (by kernel_rfl) (AO4 R L (cl o) (cl h) (i:Nat))
   refine ⟨?_,by rw [A8d];omega⟩
   show vK R L (cl o) (cl h) (i:Nat) = _
   have m24:Min.min (Int.toNat 24) (IntKind.bits .i64) = 24:=rfl
   have m16:Min.min (Int.toNat 16) (IntKind.bits .i64) = 16:=rfl
   have m8:Min.min (Int.toNat 8) (IntKind.bits .i64) = 8:=rfl
   rw [hq,show decide ((i:Int) < 8) = true from decide_eq_true (by omega),zB (by omega)]
   simp only [nn,tn,cond_true,zX (show i < 8 from hi),yG]
   rw [m24,m16,m8,jO,jO,jO,sO,sO,sO,sO,vU (by rw [fB];simp only [List.length_cons,List.length_nil];omega)]
   simp only [cond_true]
   rw [show [((h.getD i 0 / 2 ^ 24 % 256:Nat):Int),((h.getD i 0 / 2 ^ 16 % 256:Nat):Int),((h.getD i 0 / 2 ^ 8 % 256:Nat):Int),((h.getD i 0 % 256:Nat):Int)] = cl (be4 (h.getD i 0)) from rfl,AX8]
   rfl)
  [] rfl
theorem Am5:∀ n:Nat,Go.Lib.repeatL [(0:UInt8)] n = ub (List.replicate n 0)
 | 0=>by simp [Go.Lib.repeatL,ub]
 | n + 1=>by
  show [(0:UInt8)] ++ Go.Lib.repeatL [0] n = _
  rw [Am5 n]
  unfold ub
  rw [List.replicate_succ,List.map_cons]
  rfl
theorem A3T (n:Nat) (hn:n ≤ 64):oW R [0] (n:Int) = some (ub (List.replicate n 0),()):=by
 have e:oW R [0] (n:Int) = Bp2 [⟨.str,[0]⟩,⟨.int .i64,(n:Int)⟩]:=A81 rfl _
 rw [e]
 show cond (decide (0 ≤ (n:Int)) && (Nat.blt 0 ([0]:List UInt8).length && Nat.ble (([0]:List UInt8).length * Int.toNat (n:Int)) 1099511627776)) (some (Go.Lib.repeatL [0] (Int.toNat (n:Int)),())) none = _
 rw [decide_eq_true (show (0:Int) ≤ (n:Int) by omega),tn,show Nat.blt 0 ([0]:List UInt8).length = true from rfl,show Nat.ble (([0]:List UInt8).length * n) 1099511627776 = true from by rw [Nat.ble_eq];simp only [List.length_cons,List.length_nil];omega,Am5]
 rfl
def Bk1 (h:List Nat) (r:List UInt8) (m:Nat):List UInt8:=ub (wK (stO (BN6 h r (BU2 m)).1) 8 0 [])
theorem BR7 (h:List Nat) (r:List UInt8) (m:Nat) (hh:Wd 8 h):(Bk1 h r m).length = 32:=by
 unfold Bk1 ub
 rw [List.length_map,(A6I _ (Az3 (r:=r) (t:=BU2 m) hh).1 ([],((0:Int),()))).2]
theorem A9l (h:List Nat) (r:List UInt8) (m:Nat) (hh:Wd 8 h) (hr:r.length = m % 64) (hm:m ≤ 549755813888):AL3 R (hS h r m) = some (Bk1 h r m,()):=by
 have hq:AL3 R (hS h r m) = _:=call (A7X R L (hS h r m))
 have e8:IntKind.wrap .i64 ((8:Int) * (m:Int)) = ((8 * m:Nat):Int):=by rw [zI (by omega) (by omega)];omega
 have hp:A37 m ≤ 63:=by unfold A37;omega
 have hpl:(BW5 m).length ≤ 64:=by unfold BW5;rw [List.length_cons,List.length_replicate];omega
 have hT:=A5r m
 rw [hq]
 show oM R L (hS h r m) (IntKind.wrap .i64 ((8:Int) * (m:Int))) (cl (128 :: List.replicate 0 0)) = _
 rw [e8,A6A (hS h r m) _ m rfl hm (A37 m) 0 (by omega),BB0 _ _ (by omega) _ hpl]
 show (kK R (hS h r m) (BU2 m)).bind _ = _
 rw [Ay8 h r (BU2 m) m hh (by omega) (by omega) hm]
 simp only [Option.bind_some]
 exact (A6I _ (Az3 hh).1 _).1
theorem Bs4 (h:List Nat) (r:List UInt8) (m:Nat) (hh:Wd 8 h) (hr:r.length = m % 64) (hm:m ≤ 549755813888):bB R (hS h r m) = some (Bk1 h r m,()):=by
 have hq:bB R (hS h r m) = _:=call (A3K R L (hS h r m))
 have e8:IntKind.wrap .i64 ((8:Int) * (m:Int)) = ((8 * m:Nat):Int):=by rw [zI (by omega) (by omega)];omega
 have hp:A37 m ≤ 63:=by unfold A37;omega
 have hpl:(BW5 m).length ≤ 64:=by unfold BW5;rw [List.length_cons,List.length_replicate];omega
 have hT:=A5r m
 have en:Int.tmod (IntKind.wrap .i64 ((119:Int) - ((r.length:Nat):Int))) 64 = ((A37 m:Nat):Int):=by
  rw [show (119:Int) - ((r.length:Nat):Int) = ((119 - r.length:Nat):Int) by omega,rA (by omega),show Int.tmod ((119 - r.length:Nat):Int) 64 = (((119 - r.length) % 64:Nat):Int) from BA6 _ 64,hr]
  rfl
 rw [hq]
 show (oW R [0] (Int.tmod (IntKind.wrap .i64 ((119:Int) - ((r.length:Nat):Int))) 64)).bind (fun r0=>cond (yT (1 + r0.1.length)) (wB R L (hS h r m) (IntKind.wrap .i64 ((8:Int) * (m:Int))) ([128] ++ r0.1) 7) none) = _
 rw [en,A3T _ (by omega)]
 simp only [Option.bind_some]
 have hul:(ub (List.replicate (A37 m) 0)).length = A37 m:=by unfold ub;rw [List.length_map,List.length_replicate]
 rw [vU (by omega),e8,show ([128]:List UInt8) ++ ub (List.replicate (A37 m) 0) = ub (BW5 m) from rfl]
 simp only [cond_true]
 rw [A8y _ _ (by omega) _ hpl]
 show (oQ R (hS h r m) (BU2 m)).bind _ = _
 rw [BS8 h r (BU2 m) m hh (by omega) (by omega) hm]
 simp only [Option.bind_some]
 exact (BJ9 _ (Az3 hh).1).1
def dig (t:List UInt8):List UInt8:=Bk1 (BN6 hT [] t).1 (BN6 hT [] t).2 t.length
theorem BA0 (t:List UInt8):(dig t).length = 32:=BR7 _ _ _ (Az3 Bj8).1
theorem A5x (t:List UInt8) (ht:t.length ≤ 549755813888):aO R t = some (dig t,()):=by
 have hq:aO R t = _:=call (A69 R L t)
 have hn:AT5 R = some (hS hT [] 0,()):=call (A4U R L)
 have hw:=Az3 (r:=[]) (t:=t) Bj8
 rw [hq,hn]
 simp only [Option.bind_some]
 rw [BS8 hT [] t 0 Bj8 (by simp) ht (by decide)]
 simp only [Option.bind_some]
 rw [Nat.zero_add,Bs4 _ _ t.length hw.1 hw.2 ht]
 rfl
theorem A9n (t:List UInt8) (ht:t.length ≤ 549755813888):AF9 R t = some (dig t,()):=by
 have hq:AF9 R t = _:=call (A8x R L t)
 have hn0:AD1 R = _:=call (A4h R L)
 have hn:AD1 R = some (hS hT [] 0,()):=by rw [hn0,Bd0];rfl
 have hw:=Az3 (r:=[]) (t:=t) Bj8
 rw [hq,hn]
 simp only [Option.bind_some]
 rw [Ay8 hT [] t 0 Bj8 (by simp) ht (by decide)]
 simp only [Option.bind_some]
 rw [Nat.zero_add,A9l _ _ t.length hw.1 hw.2 ht]
 rfl
end Go.Rf.S

end
