/- What the program computes, in plain words: part 5. No condition. -/
import Derived.Test.YtcikhcfofnlegaaGreatProg
import Derived.KernelRfl
import Derived.Test.YtcikhcfofnlegaaGreatRgC
import Derived.Test.YtcikhcfofnlegaaGreatRec1
set_option linter.unusedVariables false
set_option linter.unusedSimpArgs false
section
open Go Go.Rf
set_option maxRecDepth 100000
namespace Go.Rf.S
def mvD (l:List (Nat × Nat)) (d:List (Nat × List Nat)):List (Nat × Nat):=l ++ d.flatMap fun x=>x.2.map fun s=>(4000000 + x.1,s)
abbrev t0:Ty:=(.pair .bool .unit)
abbrev t1:Ty:=(.sl (.int .i64))
abbrev t2:Ty:=(.pair (.int .i64) .unit)
abbrev t3:Ty:=(.pair t1 .unit)
abbrev t4:Ty:=(.pair (.int .i64) (.pair (.int .i64) (.pair (.int .i64) .unit)))
abbrev t5:Ty:=(.ptr (.int .i64))
abbrev t6:Ty:=(.pair (.sl t4) .unit)
abbrev t7:Ty:=(.sl (.sl t4))
abbrev t8:Ty:=(.pair t1 (.pair (.sl t4) (.pair t7 .unit)))
abbrev t9:Ty:=(.pair t1 (.pair (.int .i64) (.pair .bool .unit)))
abbrev t10:Ty:=(.pair .bool (.pair (.ptr t9) .unit))
abbrev t11:Ty:=(.pair t1 (.pair t8 .unit))
abbrev t12:Ty:=(.pair (.int .i64) (.pair t1 .unit))
abbrev t13:Ty:=(.pair t11 (.pair (.sl t12) (.pair .bool .unit)))
abbrev t14:Ty:=(.pair (.sl t4) (.pair .bool .unit))
abbrev t15:Ty:=(.pair (.int .i64) (.pair (.int .i64) (.pair (.int .i64) (.pair (.int .i64) (.pair .str (.pair .str (.pair .str .unit)))))))
abbrev t16:Ty:=(.pair (.int .i64) (.pair .str .unit))
abbrev t17:Ty:=(.pair (.sl .str) (.pair (.sl t16) .unit))
abbrev t18:Ty:=(.pair .str (.pair t15 (.pair t17 (.pair .bool (.pair .bool .unit)))))
abbrev t19:Ty:=(.pair t18 (.pair (.int .i64) .unit))
abbrev t20:Ty:=(.pair (.ptr t9) .unit)
abbrev t21:Ty:=(.pair (.int .i64) (.pair (.ptr t9) .unit))
abbrev t22:Ty:=(.pair t1 (.pair (.ptr t9) .unit))
abbrev t23:Ty:=(.pair (.sl t4) (.pair (.ptr t9) .unit))
abbrev t24:Ty:=(.pair t1 (.pair (.int .i64) .unit))
abbrev t25:Ty:=(.pair (.ptr t24) .unit)
abbrev t26:Ty:=(.pair (.int .i64) (.pair (.ptr t24) .unit))
abbrev t27:Ty:=(.pair .bool (.pair (.ptr t24) .unit))
abbrev t28:Ty:=(.sl (.int .u8))
abbrev t29:Ty:=(.pair t28 .unit)
abbrev t30:Ty:=(.arr 8 (.int .i64))
abbrev t31:Ty:=(.pair t30 .unit)
abbrev t32:Ty:=(.pair t30 (.pair .str (.pair (.int .i64) .unit)))
abbrev t33:Ty:=(.pair t32 .unit)
abbrev t34:Ty:=(.arr 64 (.int .i64))
abbrev t35:Ty:=(.pair t34 .unit)
abbrev t36:Ty:=(.pair .str .unit)
abbrev t37:Ty:=(.arr 64 (.int .u32))
abbrev t38:Ty:=(.pair t37 .unit)
abbrev t39:Ty:=(.pair (.int .u32) .unit)
abbrev t40:Ty:=(.pair (.ptr t32) .unit)
abbrev t41:Ty:=(.pair (.int .u32) (.pair (.int .u32) (.pair (.int .u32) (.pair (.int .u32) .unit))))
abbrev t42:Ty:=(.arr 4 (.int .i64))
abbrev t43:Ty:=(.pair t42 .unit)
abbrev t44:Ty:=(.arr 16 (.int .i64))
abbrev t45:Ty:=(.pair t44 .unit)
abbrev t46:Ty:=(.pair t15 .unit)
abbrev t47:Ty:=(.pair (.sl .str) .unit)
abbrev t48:Ty:=(.pair t16 .unit)
abbrev t49:Ty:=(.pair (.sl t16) .unit)
abbrev t50:Ty:=(.pair t17 .unit)
abbrev t51:Ty:=(.pair t18 .unit)
abbrev t52:Ty:=(.arr 5 (.int .i64))
abbrev t53:Ty:=(.pair t52 .unit)
abbrev t54:Ty:=(.arr 5 (.int .u64))
abbrev t55:Ty:=(.pair t54 .unit)
abbrev t56:Ty:=(.pair (.int .i64) (.pair (.sl .str) .unit))
abbrev t57:Ty:=(.pair (.int .i64) (.pair (.sl t16) .unit))
abbrev t58:Ty:=(.pair (.int .i64) (.pair t17 .unit))
abbrev t59:Ty:=(.pair (.int .i64) (.pair t18 .unit))
abbrev t60:Ty:=(.pair t8 .unit)
abbrev t61:Ty:=(.sl (.sl .str))
abbrev t62:Ty:=(.pair t61 .unit)
abbrev t63:Ty:=(.pair .str (.pair .bool .unit))
abbrev t64:Ty:=(.pair t1 (.pair .bool .unit))
abbrev t65:Ty:=(.pair (.sl .str) (.pair .bool .unit))
abbrev d66:Type:=(Bool × Unit)
abbrev d67:Type:=(Int × Unit)
abbrev d68:Type:=(List Int × Unit)
abbrev d69:Type:=(Int × (Int × (Int × Unit)))
abbrev d70:Type:=(List d69 × Unit)
abbrev d71:Type:=(List Int × (List d69 × (List (List d69) × Unit)))
abbrev d72:Type:=(List Int × (Int × (Bool × Unit)))
abbrev d73:Type:=(Bool × (d72 × Unit))
abbrev d74:Type:=(List Int × (d71 × Unit))
abbrev d75:Type:=(Int × (List Int × Unit))
abbrev d76:Type:=(d74 × (List d75 × (Bool × Unit)))
abbrev d77:Type:=(List d69 × (Bool × Unit))
abbrev d78:Type:=(Int × (Int × (Int × (Int × (List UInt8 × (List UInt8 × (List UInt8 × Unit)))))))
abbrev d79:Type:=(Int × (List UInt8 × Unit))
abbrev d80:Type:=(List (List UInt8) × (List d79 × Unit))
abbrev d81:Type:=(List UInt8 × (d78 × (d80 × (Bool × (Bool × Unit)))))
abbrev d82:Type:=(d81 × (Int × Unit))
abbrev d83:Type:=(d72 × Unit)
abbrev d84:Type:=(Int × (d72 × Unit))
abbrev d85:Type:=(List Int × (d72 × Unit))
abbrev d86:Type:=(List d69 × (d72 × Unit))
abbrev d87:Type:=(List Int × (Int × Unit))
abbrev d88:Type:=(d87 × Unit)
abbrev d89:Type:=(Int × (d87 × Unit))
abbrev d90:Type:=(Bool × (d87 × Unit))
abbrev d91:Type:=(List Int × (List UInt8 × (Int × Unit)))
abbrev d92:Type:=(d91 × Unit)
abbrev d93:Type:=(List UInt8 × Unit)
abbrev d94:Type:=(Int × (Int × (Int × (Int × Unit))))
abbrev d95:Type:=(d78 × Unit)
abbrev d96:Type:=(List (List UInt8) × Unit)
abbrev d97:Type:=(d79 × Unit)
abbrev d98:Type:=(List d79 × Unit)
abbrev d99:Type:=(d80 × Unit)
abbrev Bj4:Type:=(d81 × Unit)
abbrev Bt2:Type:=(Int × (List (List UInt8) × Unit))
abbrev Bt1:Type:=(Int × (List d79 × Unit))
abbrev Bv8:Type:=(Int × (d80 × Unit))
abbrev Bv6:Type:=(Int × (d81 × Unit))
abbrev Bu9:Type:=(d71 × Unit)
abbrev Bn4:Type:=(List (List (List UInt8)) × Unit)
abbrev Bn3:Type:=(List UInt8 × (Bool × Unit))
abbrev Bt4:Type:=(List Int × (Bool × Unit))
abbrev Bt8:Type:=(List (List UInt8) × (Bool × Unit))
abbrev Bu8:Ty:=(.arr 12 .bool)
abbrev Bp1:Ty:=(.arr 8 (.int .u32))
abbrev Bv0:Ty:=(.arr 2 (.int .i64))
abbrev Bv3:Ty:=(.arr 2 Bv0)
abbrev BF7:Ty:=(.arr 16 (.int .u32))
noncomputable def Bn7:List (Nat × FCfg):=[
(149,⟨[.ro (.int .i64),.ro (.int .i64),.ro (.int .i64)],1,t0,.sh,[0,1,2,6],[(1,8)]⟩),
(228,⟨[.ro (.int .i64)],1,t0,.sh,[0,2],[(1,2)]⟩),
(268,⟨[.ro (.int .i64),.ro (.ptr .fn)],1,t0,.sh,[0,1,3],[(1,4)]⟩),
(315,⟨[.ro t1,.ro .fn],1,t2,.sh,[0,1,4,5,7,8,9,16],[(7,0),(5,1)]⟩),
(267,⟨[.ro t1,.ro .fn],1,t0,.sh,[0,1,4],[(1,4)]⟩),
(204,⟨[.ro t1,.ro .fn],1,t0,.sh,[0,1,3,4],[(1,4)]⟩),
(205,⟨[.ro (.int .i64)],1,t0,.sh,[0,2],[(1,2)]⟩),
(366,⟨[.io t1 (.own .sh) (.own .sh) 0 []],0,t3,(.pr (.own .sh) .sh),[],[]⟩),
(336,⟨[.ro (.int .i64)],1,t3,(.pr (.own .sh) .sh),[0,2,3,4,15],mvD [(7,1),(4,4)] [(30,[0,2,15])]⟩),
(365,⟨[.ro t1,.ro (.int .i64)],1,t2,.sh,[0,1,4,5,7,8,9,16],mvD [(7,0),(5,1)] [(25,[4,5,9,16])]⟩),
(335,⟨[.ro t1,.ro (.int .i64)],1,t0,.sh,[0,1,4],[(1,4)]⟩),
(293,⟨[.ro (.int .i64),.ro (.int .i64)],1,t0,.sh,[0,1,4],[(1,4)]⟩),
(292,⟨[.ro t4,.ro t5],1,t0,.sh,[0,1,2,3],[(1,9)]⟩),
(334,⟨[.ro t4,.ro (.ptr .fn)],1,t0,.sh,[0,1,2,3],[(1,4)]⟩),
(364,⟨[.ro (.sl t4),.ro .fn],1,t2,.sh,[0,1,4,5,7,8,9,16],mvD [(7,0),(5,1)] [(25,[4,5,9,16])]⟩),
(333,⟨[.ro (.sl t4),.ro .fn],1,t0,.sh,[0,1,4],[(1,4)]⟩),
(291,⟨[.ro (.sl t4),.ro .fn],1,t0,.sh,[0,1,3,4],[(1,4)]⟩),
(302,⟨[.ro (.sl t4)],1,t6,(.pr (.own .sh) .sh),[900000,0,2,4],[(3,3),(2,0),(3,0)]⟩),
(303,⟨[.ro t7],1,t6,(.pr (.own .sh) .sh),[],[]⟩),
(244,⟨[.ro t8],1,t6,(.pr (.own .sh) .sh),[0,1,2],[(1,7)]⟩),
(337,⟨[.ro (.int .i64)],1,t0,.sh,[0,2],[(1,2)]⟩),
(235,⟨[.ro (.int .i64)],1,t0,.sh,[0,2],[(1,2)]⟩),
(294,⟨[.ro t4],1,t0,.sh,[0,1,2],[(1,13)]⟩),
(229,⟨[.ro t8],1,t0,.sh,[0,1,2,3,4,5,7,23,25,26,27,28,40,43,44,45,46,68],mvD [(2,0),(7,0),(17,0),(14,0)] [(35,[0,2,3,4,5,7,23,28,40,43,44,45,46,68]),(87,[0,2,3,4,7,23,25,26,27,28,40,46,68])]⟩),
(290,⟨[.ro (.int .i64)],1,t0,.sh,[0,2],[(1,2)]⟩),
(227,⟨[.io (.ptr t9) (.own (.pr (.own .sh) .sh)) (.own .sh) 0 []],1,t10,(.pr .sh (.pr (.own .sh) .sh)),[0,2],[(1,17),(1,0),(1,6),(1,10)]⟩),
(160,⟨[.ro .str],3,t13,(.pr (.pr (.own .sh) (.pr (.pr (.own .sh) (.pr (.own .sh) (.pr (.own (.own .sh)) .sh))) .sh)) (.pr (.own (.pr .sh (.pr (.own .sh) .sh))) .sh)),[0,2,3,4,5,6,7,8,9,23,24,25,50],mvD [(12,2),(12,3),(12,4),(11,1),(11,2),(11,3),(1,2),(2,5),(2,7),(3,3),(3,5),(7,2),(8,6),(8,7),(8,8),(8,9),(2,0),(2,2),(3,0),(8,2),(8,3),(11,0)] [(34,[0,3,4,6,9,25,50])]⟩),
(161,⟨[.ro .str],2,t14,(.pr (.own .sh) .sh),[0,2,3,4,5],[(3,3),(3,4),(1,2),(2,2)]⟩),
(83,⟨[.ro t18],3,t13,(.pr (.pr (.own .sh) (.pr (.pr (.own .sh) (.pr (.own .sh) (.pr (.own (.own .sh)) .sh))) .sh)) (.pr (.own (.pr .sh (.pr (.own .sh) .sh))) .sh)),[0,1,2,3,4,5,6,7,8,9,10,11,12,13,14,15,16,24,54,59,60,61,91],mvD [(3,1),(3,2),(3,3),(8,1),(8,2),(8,3),(18,4),(18,5),(18,6),(15,1),(15,2),(15,3),(1,2),(5,13),(5,14),(6,7),(6,8),(6,9),(12,18),(12,19),(13,5),(13,6),(16,6),(3,0),(8,0),(15,0)] [(116,[0,3,4,7,8,11,12,13,14,15,16,24,54,61,91])]⟩),
(34,⟨[.ro t18],2,t19,(.pr (.pr .sh (.pr .sh (.pr (.pr (.own .sh) (.pr (.own .sh) .sh)) .sh))) .sh),[0,1,2,3,6,7,8,13,18,23,42],[(2,1),(2,2),(4,2),(4,3),(6,2),(6,3),(8,2),(8,3),(11,2),(11,3),(15,1),(15,2),(9,7),(9,8),(9,9),(12,3),(2,0)]⟩),
(7,⟨[.ro t18],1,t0,.sh,[0,1,2,3,4,5,6,7,8,9,10,11,12,13,18,40,45,61,69,72,87,92,95],[(4,0),(9,0),(11,0),(15,0),(21,0),(23,0),(26,0),(30,0),(33,0),(32,0)]⟩),
(217,⟨[.ro .str],3,t13,(.pr (.pr (.own .sh) (.pr (.pr (.own .sh) (.pr (.own .sh) (.pr (.own (.own .sh)) .sh))) .sh)) (.pr (.own (.pr .sh (.pr (.own .sh) .sh))) .sh)),[0,2,3,4,5,6,7,8,9,10,11,12,13,14,21,36,57,71,81],mvD [(27,2),(27,3),(28,12),(28,13),(28,14),(1,2),(2,2),(2,4),(6,5),(6,9),(7,2),(10,2),(10,4),(11,3),(12,3),(13,8),(17,4),(17,7),(18,1),(19,2),(22,3),(22,5),(23,2),(26,4),(26,7),(27,4),(6,3),(17,2),(26,2),(28,2)] [(18,[0,3,4,8,9,10,11,12,13,14,21,36,57,71,81]),(69,[0,3,4,7,9,10,11,12,13,14,21,36,57,71,81]),(51,[0,3,4,7,8,9,11,12,13,14,21,36,57,71,81]),(196,[0,3,4,7,8,9,10,13,14,21,36,57,71,81]),(78,[0,3,4,7,8,9,10,21,36,57,71,81])]⟩),
(153,⟨[.ro t18],3,t13,(.pr (.pr (.own .sh) (.pr (.pr (.own .sh) (.pr (.own .sh) (.pr (.own (.own .sh)) .sh))) .sh)) (.pr (.own (.pr .sh (.pr (.own .sh) .sh))) .sh)),[0,1,2,3,4,5,6,7,8,9,10,11,12,13,14,15,16,19,39,69,73,107],mvD [(7,2),(7,3),(7,4),(11,2),(11,3),(11,4),(20,4),(20,5),(20,6),(18,2),(18,3),(18,4),(1,1),(5,10),(5,12),(8,16),(8,17),(9,7),(9,8),(9,9),(15,21),(15,22),(16,5),(16,6),(19,6),(7,0),(7,1),(11,0),(11,1),(18,0),(18,1)] [(15,[0,3,4,7,8,9,10,11,12,13,14,15,16,19,39,69,73,107]),(119,[0,3,4,6,7,8,11,13,14,15,16,19,39,69,73,107])]⟩),
(81,⟨[.ro t18],2,t19,.sh,[0,1,2,3,6,8,10,13,18,36],[(2,1),(2,2),(4,1),(4,2),(6,1),(6,2),(10,2),(10,3),(13,1),(13,2),(7,7),(7,8),(7,9),(8,5),(8,6)]⟩),
(33,⟨[.ro t18],2,t19,(.pr (.pr .sh (.pr .sh (.pr (.pr (.own .sh) (.pr (.own .sh) .sh)) .sh))) .sh),[0,1,2,3,4,5,8],[(2,1),(2,2),(4,3),(4,4),(3,6),(3,7),(2,0)]⟩),
(223,⟨[.ro .str,.ro (.int .i64)],1,t20,(.pr (.own (.pr (.own .sh) .sh)) .sh),[0,1,4,9],[(3,4),(2,2),(3,2),(3,3),(2,0),(2,1)]⟩),
(226,⟨[.io (.ptr t9) (.own (.pr (.own .sh) .sh)) (.own (.pr (.own .sh) .sh)) 0 [],.ro (.int .i64),.ro (.int .i64)],1,t21,(.pr .sh (.pr (.own (.pr (.own .sh) .sh)) .sh)),[0,1,2,6,38],[(3,0),(5,11),(1,0),(1,5),(1,9),(1,17),(1,21),(5,0),(5,4)]⟩),
(224,⟨[.io (.ptr t9) (.own (.pr (.own .sh) .sh)) (.own (.pr (.own .sh) .sh)) 0 [],.ro (.int .i64),.ro (.int .i64),.ro (.int .i64)],1,t22,(.pr (.own .sh) (.pr (.own (.pr (.own .sh) .sh)) .sh)),[0,1,2,3,8,9,10,11,12],mvD [(6,1),(4,5),(4,7)] [(15,[1,8,12])]⟩),
(225,⟨[.io (.ptr t9) (.own (.pr (.own .sh) .sh)) (.own (.pr (.own .sh) .sh)) 0 [],.ro (.int .i64)],1,t23,(.pr (.own .sh) (.pr (.own (.pr (.own .sh) .sh)) .sh)),[0,1,4,5,8,9,10],mvD [(6,1),(4,7),(4,8),(4,10)] [(15,[1,4,10])]⟩),
(277,⟨[.ro .str,.ro (.int .i64)],1,t25,(.pr (.own (.pr (.own .sh) .sh)) .sh),[0,1,4,5,6,19],[(4,3),(3,2),(1,5),(1,6),(4,1),(4,2),(3,0),(3,1)]⟩),
(279,⟨[.io (.ptr t24) (.own (.pr (.own .sh) .sh)) (.own (.pr (.own .sh) .sh)) 0 []],1,t26,(.pr .sh (.pr (.own (.pr (.own .sh) .sh)) .sh)),[0,2,12],[(2,0),(4,11)]⟩),
(280,⟨[.io (.ptr t24) (.own (.pr (.own .sh) .sh)) (.own (.pr (.own .sh) .sh)) 0 [],.ro (.int .i64)],1,t26,(.pr .sh (.pr (.own (.pr (.own .sh) .sh)) .sh)),[0,1,4,5,11],[(5,1),(4,0),(1,2)]⟩),
(281,⟨[.io (.ptr t24) (.own (.pr (.own .sh) .sh)) (.own (.pr (.own .sh) .sh)) 0 []],1,t27,(.pr .sh (.pr (.own (.pr (.own .sh) .sh)) .sh)),[0,2,3,14,24],mvD [(6,10),(5,0)] [(18,[2,14,24])]⟩),
(218,⟨[.ro .str],2,t14,(.pr (.own .sh) .sh),[0,2,3,4,5,6,7,14],mvD [(10,7),(10,8),(1,2),(2,1),(3,2),(6,2),(6,4),(7,3),(8,3),(9,4)] [(45,[0,2,3,7,14])]⟩),
(263,⟨[.mv t28 (.own .sh),.ro (.int .i64)],1,t29,(.pr (.own .sh) .sh),[0,1,4],[(1,14)]⟩),
(305,⟨[],1,t31,.sh,[0],[(1,1)]⟩),
(250,⟨[],1,t33,.sh,[0],[(1,2)]⟩),
(341,⟨[.ro .str,.ro (.int .i64)],1,t2,.sh,[0,1,4],[(1,25)]⟩),
(342,⟨[.ro (.int .i64),.ro (.int .i64)],1,t2,.sh,[0,1,4],[(1,9)]⟩),
(343,⟨[],1,t35,.sh,[0],[(1,1)]⟩),
(304,⟨[.ro t30,.ro .str],1,t31,.sh,[0,1,2,4,5,6,7,8,9,10,11,12,13,14,15,16,17,18,21,31,87,180],mvD [(27,1)] [(15,[0,7,8,9,10,11,12,13,14,15,16,17,18,21,31,87,180]),(50,[0,1,6,8,9,10,11,12,13,14,15,16,17,18,21,31,87,180]),(156,[0,1,6,7,8,9,13,14,15,16,17,18,21,31,87,180]),(78,[0,1,5,6,7,8,9,10,12,13,14,15,16,17,21,31,87,180])]⟩),
(249,⟨[.ro t32,.ro .str],1,t33,.sh,[0,1,2,4,19],mvD [(6,1)] [(15,[0,1,19])]⟩),
(248,⟨[.ro t32],1,t36,.sh,[0,1,2,3,4,5,6,7,8,19,24,41,45],mvD [(18,2)] [(9,[0,2,5,6,7,8,19,24,41,45]),(24,[0,2,6,7,8,19,24,41,45]),(93,[0,2,3,4,5,8,19,24,41,45]),(51,[0,2,3,4,5,19,24,41,45])]⟩),
(181,⟨[.ro .str],1,t36,.sh,[0,2],[(1,4)]⟩),
(257,⟨[],1,t33,.sh,[0],[(1,2)]⟩),
(309,⟨[],1,t38,.sh,[0],[(1,1)]⟩),
(367,⟨[.ro (.int .u32),.ro (.int .i64)],1,t39,.sh,[0,1,4,5],[(2,8)]⟩),
(344,⟨[.ro (.int .u32),.ro (.int .i64)],1,t39,.sh,[0,1,4],[(1,4)]⟩),
(310,⟨[.io (.ptr t32) (.own .sh) (.own .sh) 0 [],.ro .str,.ro (.ptr t37)],0,t40,(.pr (.own .sh) .sh),[0,1,2,6,7,8,9,10,11,12,13,14,15,16,17,18,19,20,21,22,23,24,25,26,61,104,105,106,114,115,194,195,196],mvD [] [(18,[7,8,9,10,11,12,13,14,15,16,17,18,19,20,21,22,23,24,26,61,104,105,106,114,115,194,195,196]),(38,[1,7,9,10,11,12,13,14,15,16,17,18,19,20,21,22,23,24,25,26,61,104,105,106,114,115,194,195,196]),(62,[1,7,8,9,10,12,13,14,15,16,17,18,19,20,21,22,23,24,25,26,61,106,114,115,194,195,196]),(154,[1,7,8,9,10,12,13,14,15,16,17,18,19,20,21,22,23,24,25,26,61,104,105,106,115,194,195,196]),(114,[1,2,6,7,8,9,10,11,12,13,14,15,16,17,18,19,20,21,22,23,24,25,26,61,104,105,106,114,115,196])]⟩),
(258,⟨[.ro t32,.ro .str],1,t33,.sh,[0,1,2,4,5,19],mvD [(8,1)] [(18,[0,19])]⟩),
(311,⟨[.ro .str,.ro (.int .i64)],1,t36,.sh,[],[]⟩),
(259,⟨[.ro t32],1,t36,.sh,[0,1,2,3,4,5,6,8,20,35,36,37],mvD [(13,2)] [(18,[0,2,6,8,20,35,36,37]),(46,[0,1,2,3,4,5,8,20,37])]⟩),
(190,⟨[.ro .str],1,t36,.sh,[0,2],[(1,4)]⟩),
(139,⟨[.ro (.int .i64),.ro (.int .i64)],1,t36,.sh,[0,1,4,5,6,7,8,9],mvD [(7,2)] [(22,[1,4,6,9])]⟩),
(332,⟨[.ro .str],1,t39,.sh,[0,2],[(1,18)]⟩),
(354,⟨[.ro (.int .u32),.ro (.int .u32),.ro (.int .u32),.ro (.int .u32)],4,t41,.sh,[0,1,2,3,8,9,10,11,13,16,17,18],mvD [(9,4),(9,5),(9,6),(9,7)] [(42,[8,9,10,11,13,18])]⟩),
(322,⟨[.ro .str,.ro .str,.ro (.int .i64)],1,t36,.sh,[0,1,2,6,7,8,9,10,11,12,13,14,15,16,17,25,26,41,42,43,44,46,47,95,96],mvD [(28,1)] [(35,[0,1,2,6,10,11,12,13,14,15,16,17,26,41,42,43,44,46,47,95,96]),(198,[0,1,2,6,7,10,11,12,13,14,15,16,17,25,26,42,43,44,46,47,95,96]),(153,[0,1,2,6,7,10,11,12,13,14,15,16,17,25,26,42,44,46,47,95,96]),(90,[0,1,2,6,7,10,12,13,14,15,16,17,25,26,42,44,47,95,96]),(106,[0,1,2,6,7,10,11,12,13,14,15,17,25,26,41,42,43,44,46,47,96])]⟩),
(361,⟨[.ro .str,.ro (.int .i64)],1,t2,.sh,[0,1,4],[(1,25)]⟩),
(382,⟨[.ro (.int .i64),.ro (.int .i64)],1,t2,.sh,[0,1,4],[(1,9)]⟩),
(381,⟨[.ro (.int .i64),.ro (.int .i64),.ro (.int .i64),.ro (.int .i64)],1,t43,.sh,[0,1,2,3,8],[(9,5)]⟩),
(372,⟨[.ro t44,.ro (.int .i64),.ro (.int .i64),.ro (.int .i64),.ro (.int .i64)],1,t45,.sh,[0,1,2,3,4,5,10,11],[(6,1)]⟩),
(349,⟨[.ro .str,.ro .str,.ro (.int .i64)],1,t36,.sh,[0,1,2,6,7,8,9,10,11,12,13,14,15,16,19,28,41,53,57,70,90],mvD [(32,2)] [(15,[6,9,10,11,12,13,14,15,16,19,28,41,53,57,70,90]),(27,[6,8,10,11,12,13,14,15,16,19,28,41,53,57,70,90]),(42,[0,2,6,8,9,11,12,13,14,15,16,19,28,41,53,57,70,90]),(225,[0,1,2,6,8,9,10,13,14,15,16,19,28,41,53,57,70,90]),(66,[0,1,2,6,8,9,10,14,15,16,19,28,41,53,57,70,90]),(78,[0,1,2,6,8,9,10,13,15,16,19,28,41,53,57,70,90]),(93,[0,1,2,6,8,9,10,12,13,14,19,28,41,53,57,70,90])]⟩),
(321,⟨[.ro .str,.ro .str],1,t36,.sh,[0,1,4,5,6,10,11,12],mvD [(7,2)] [(22,[0,4,6,12])]⟩),
(313,⟨[.ro .str,.ro .str,.ro (.int .i64),.ro .str],1,t36,.sh,[0,1,2,3,8,9,10,11,16,21],mvD [(9,2)] [(35,[8,16,21])]⟩),
(60,⟨[.ro t15,.ro (.int .i64)],1,t2,.sh,[0,1,2,4,11,18,25],[(3,0),(6,0),(10,1),(9,0)]⟩),
(122,⟨[.ro (.sl .str),.ro (.int .i64)],1,t2,.sh,[0,1,4,5,11,15,26],[(3,0),(10,1),(9,0)]⟩),
(195,⟨[.ro t16,.ro (.int .i64)],1,t2,.sh,[0,1,2,4,11],[(4,1),(3,0)]⟩),
(123,⟨[.ro (.sl t16),.ro (.int .i64)],1,t2,.sh,[0,1,4,5,11,15,25],[(3,0),(10,1),(9,0)]⟩),
(61,⟨[.ro t17,.ro (.int .i64)],1,t2,.sh,[0,1,2,4,10,16],[(3,0),(7,1),(6,0)]⟩),
(20,⟨[.ro t18,.ro (.int .i64)],1,t2,.sh,[0,1,2,4,11,17,23],[(3,0),(6,0),(10,1),(9,0)]⟩),
(66,⟨[.ro t15],1,t46,.sh,[0,1,2,3],[(9,1)]⟩),
(132,⟨[.ro (.sl .str)],1,t47,(.pr (.own .sh) .sh),[0,2,3,4,11],[(1,2),(6,1)]⟩),
(202,⟨[.ro t16],1,t48,.sh,[0,1,2,3],[(4,1)]⟩),
(133,⟨[.ro (.sl t16)],1,t49,(.pr (.own .sh) .sh),[0,2,3,4,11],[(1,2),(6,1)]⟩),
(67,⟨[.ro t17],1,t50,(.pr (.pr (.own .sh) (.pr (.own .sh) .sh)) .sh),[0,1,2,3],[(4,1)]⟩),
(23,⟨[.ro t18],1,t51,(.pr (.pr .sh (.pr .sh (.pr (.pr (.own .sh) (.pr (.own .sh) .sh)) .sh))) .sh),[0,1,2,3],[(7,1)]⟩),
(102,⟨[.ro (.int .i64),.ro (.int .i64),.ro (.int .i64)],1,t0,.sh,[0,1,2,6],[(1,8)]⟩),
(44,⟨[.ro t1],1,t0,.sh,[0,2,3,7,15],mvD [(6,0),(5,0)] [(18,[2,7,15])]⟩),
(151,⟨[.ro t15],1,t0,.sh,[0,1,2],[(1,56)]⟩),
(214,⟨[.ro (.int .i64)],1,t0,.sh,[0,2],[(1,2)]⟩),
(152,⟨[.ro t17],1,t0,.sh,[0,1,2,3,4,14,19,28,33,53],[(2,0),(7,0),(13,0),(12,0)]⟩),
(80,⟨[.ro t18],1,t0,.sh,[0,1,2],[(1,30)]⟩),
(312,⟨[.ro (.int .i64)],1,t36,.sh,[0,2,3,4,7],mvD [(6,2)] [(15,[2,7])]⟩),
(264,⟨[.ro (.int .i64),.ro (.int .i64),.ro (.int .i64)],1,t36,.sh,[0,1,2,6],[(1,12)]⟩),
(351,⟨[.ro .str],1,t36,.sh,[0,2,6],mvD [(3,1)] [(5,[2,6])]⟩),
(374,⟨[.ro .str],1,t36,.sh,[0,2,3,4,5,10,20],mvD [(10,2)] [(15,[0,2,5,10,20]),(27,[0,2,4,10,20])]⟩),
(373,⟨[.ro .str],1,t53,.sh,[0,2,3,4,5,6,9,36],mvD [(10,1)] [(49,[5,6,9,36])]⟩),
(377,⟨[.ro t52],1,t53,.sh,[0,1,2,3,4,6,10],mvD [(11,1)] [(63,[0,4,6,10]),(30,[0,6,10])]⟩),
(375,⟨[.ro t52,.ro t52],1,t53,.sh,[0,1,2,3,4,5,6,7,8,11,15,28],mvD [(12,2)] [(72,[0,1,7,8,11,15,28]),(57,[0,1,8,11,15,28])]⟩),
(376,⟨[.ro t52],1,t53,.sh,[0,1,2,3,4,11,32],mvD [(9,1),(11,1)] [(26,[0,11,32])]⟩),
(350,⟨[.ro .str,.ro .str],1,t36,.sh,[0,1,4,5,6,7,8,9,10,11,12,13,14,15,24,38,44,63,77],mvD [(28,2)] [(110,[4,8,9,10,11,12,13,14,15,24,38,44,63,77]),(17,[4,9,10,11,12,13,14,15,24,38,44,63,77]),(39,[4,8,11,12,13,14,15,24,38,44,63,77]),(216,[1,4,5,7,8,9,10,14,15,24,38,44,63,77])]⟩),
(314,⟨[.ro .str,.ro .str,.ro .str,.ro .str],1,t36,.sh,[0,1,2,3,8,9],[(2,15)]⟩),
(131,⟨[.ro .str,.ro .str],1,t36,.sh,[0,1,4],[(1,5)]⟩),
(103,⟨[.ro t17],1,t50,(.pr (.pr (.own .sh) (.pr (.own .sh) .sh)) .sh),[0,1,2],[(1,9)]⟩),
(65,⟨[.ro t18],1,t51,(.pr (.pr .sh (.pr .sh (.pr (.pr (.own .sh) (.pr (.own .sh) .sh)) .sh))) .sh),[0,1,2],[(2,1)]⟩),
(220,⟨[.ro .str],1,t0,.sh,[0,2],[(1,3)]⟩),
(137,⟨[.ro t15],1,t2,.sh,[0,1,2],[(1,5)]⟩),
(156,⟨[.ro t15],1,t0,.sh,[0,1,2],[(1,51)]⟩),
(254,⟨[.ro .str,.ro (.ptr .fn)],1,t0,.sh,[0,1,3],[(1,4)]⟩),
(308,⟨[.ro (.sl .str),.ro .fn],1,t2,.sh,[0,1,4,5,7,8,9,16],[(7,0),(5,1)]⟩),
(253,⟨[.ro (.sl .str),.ro .fn],1,t0,.sh,[0,1,4],[(1,4)]⟩),
(185,⟨[.ro (.sl .str),.ro .fn],1,t0,.sh,[0,1,3,4],[(1,4)]⟩),
(285,⟨[.ro .str],1,t0,.sh,[0,2],[(1,3)]⟩),
(331,⟨[.ro t16,.ro (.ptr .fn)],1,t0,.sh,[0,1,2,3],[(1,4)]⟩),
(363,⟨[.ro (.sl t16),.ro .fn],1,t2,.sh,[0,1,4,5,7,8,9,16],[(7,0),(5,1)]⟩),
(330,⟨[.ro (.sl t16),.ro .fn],1,t0,.sh,[0,1,4],[(1,4)]⟩),
(286,⟨[.ro (.sl t16),.ro .fn],1,t0,.sh,[0,1,3,4],[(1,4)]⟩),
(288,⟨[.ro (.int .i64)],1,t0,.sh,[0,2],[(1,2)]⟩),
(287,⟨[.ro t16],1,t0,.sh,[0,1,2],[(1,8)]⟩),
(221,⟨[.ro t17],1,t0,.sh,[0,1,2],[(1,20)]⟩),
(157,⟨[.ro t17],1,t0,.sh,[0,1,2],[(1,8)]⟩),
(82,⟨[.ro t18],1,t0,.sh,[0,1,2],[(1,23)]⟩),
(138,⟨[.ro (.int .i64)],1,t2,.sh,[0,2],[(1,3)]⟩),
(209,⟨[.ro (.int .i64),.ro (.int .i64),.ro (.int .i64)],1,t36,.sh,[0,1,2,6],[(1,10)]⟩),
(273,⟨[.ro .str,.ro .str,.ro (.int .i64),.ro .str],1,t36,.sh,[],[]⟩),
(325,⟨[.ro .str],1,t36,.sh,[0,2],[(1,8)]⟩),
(356,⟨[.ro .str],1,t36,.sh,[0,2,3,4,5,10,20],mvD [(10,2)] [(15,[0,2,5,10,20]),(27,[0,2,4,10,20])]⟩),
(355,⟨[.ro .str],1,t55,.sh,[0,2,3,4,5,6,7,9,10,11,12,16,17,27],mvD [(13,1)] [(85,[0,4,5,6,7,12,16,17,27]),(57,[0,6,7,12,17,27])]⟩),
(379,⟨[.ro t54],1,t55,.sh,[0,1,2,3,4,5,6,7,8],mvD [(13,1)] [(88,[0,3,4,6,7,8]),(51,[0,4,6,8])]⟩),
(357,⟨[.ro t54,.ro t54],1,t55,.sh,[0,1,2,3,4,5,6,7],mvD [(6,2)] [(18,[0,1,5,7])]⟩),
(358,⟨[.ro t54,.ro t54],1,t55,.sh,[0,1,2,3,4,5,6,7,8,9,10,11,12,15,16,17,23],mvD [(13,2)] [(85,[0,1,2,6,7,8,9,12,15,16,17,23]),(57,[0,1,2,8,9,12,17,23])]⟩),
(359,⟨[.ro t54],1,t55,.sh,[0,1,2,3,4,5,10,19,26,28,29],mvD [(8,1),(14,1)] [(35,[0,5,10,19,26,28,29]),(50,[0,4,5,10,19,26,29])]⟩),
(360,⟨[.ro t54,.ro .str],1,t36,.sh,[0,1,2,4,5,6,7,8,9,10,13,14,15,17,18],mvD [(17,2)] [(143,[0,4,7,8,9,10,15,17,18]),(55,[0,4,9,10,15,18])]⟩),
(324,⟨[.ro .str,.ro .str],1,t36,.sh,[0,1,4,5,6,7,14],mvD [(7,5)] [(18,[4,14])]⟩),
(274,⟨[.ro .str,.ro .str,.ro .str,.ro .str],1,t36,.sh,[0,1,2,3,8],[(1,18)]⟩),
(143,⟨[.ro .str,.ro .str],1,t36,.sh,[0,1,4],[(1,5)]⟩),
(112,⟨[.ro (.sl .str)],1,t47,(.pr (.own .sh) .sh),[900000,0,2,4],[(3,3),(2,0)]⟩),
(113,⟨[.ro (.sl t16)],1,t49,(.pr (.own .sh) .sh),[900000,0,2,4],[(3,3),(2,0)]⟩),
(48,⟨[.ro t17],1,t50,(.pr (.pr (.own .sh) (.pr (.own .sh) .sh)) .sh),[0,1,2],[(1,7)]⟩),
(71,⟨[.ro t18],1,t51,(.pr (.pr .sh (.pr .sh (.pr (.pr (.own .sh) (.pr (.own .sh) .sh)) .sh))) .sh),[0,1,2],[(2,1)]⟩),
(73,⟨[.ro t15,.ro t15],1,t0,.sh,[0,1,2,3,4,9,14,19,24,29,34,39],[(2,0),(4,0),(6,0),(8,0),(10,0),(12,0),(15,0),(14,0)]⟩),
(114,⟨[.ro (.sl .str),.ro (.sl .str)],1,t0,.sh,[0,1,4,5,10,14,25],[(2,0),(8,0),(7,0)]⟩),
(192,⟨[.ro t16,.ro t16],1,t0,.sh,[0,1,2,3,4,9,14],[(2,0),(5,0),(4,0)]⟩),
(115,⟨[.ro (.sl t16),.ro (.sl t16)],1,t0,.sh,[0,1,4,5,10,14,26],[(2,0),(8,0),(7,0)]⟩),
(49,⟨[.ro t17,.ro t17],1,t0,.sh,[0,1,2,3,4,10,16],[(2,0),(5,0),(4,0)]⟩),
(26,⟨[.ro t18,.ro t18],1,t0,.sh,[0,1,2,3,4,9,15,21,26,31],[(2,0),(4,0),(6,0),(8,0),(11,0),(10,0)]⟩),
(193,⟨[.ro (.int .i64)],1,t36,.sh,[0,2,3,5,7],[(2,0),(7,2)]⟩),
(117,⟨[.io (.sl .str) (.own .sh) (.own .sh) 0 [],.ro (.int .i64)],1,t56,(.pr .sh (.pr (.own .sh) .sh)),[0,1,4,5,9],[(6,1)]⟩),
(118,⟨[.io (.sl t16) (.own .sh) (.own .sh) 0 [],.ro (.int .i64)],1,t57,(.pr .sh (.pr (.own .sh) .sh)),[0,1,4,5,9],[(8,1)]⟩),
(52,⟨[.io t17 (.pr (.own .sh) (.pr (.own .sh) .sh)) (.pr (.own .sh) (.pr (.own .sh) .sh)) 2 [.der],.ro (.int .i64)],1,t58,(.pr .sh (.pr (.pr (.own .sh) (.pr (.own .sh) .sh)) .sh)),[0,1,2,4],[(3,1)]⟩),
(28,⟨[.io t18 (.pr .sh (.pr .sh (.pr (.pr (.own .sh) (.pr (.own .sh) .sh)) .sh))) (.pr .sh (.pr .sh (.pr (.pr (.own .sh) (.pr (.own .sh) .sh)) .sh))) 2 [.der],.ro (.int .i64)],1,t59,(.pr .sh (.pr (.pr .sh (.pr .sh (.pr (.pr (.own .sh) (.pr (.own .sh) .sh)) .sh))) .sh)),[0,1,2,4],[(2,1)]⟩),
(119,⟨[.ro (.sl .str),.ro (.int .i64)],1,t2,.sh,[0,1,4,5,9,18],[(7,1),(5,0)]⟩),
(120,⟨[.ro (.sl t16),.ro (.int .i64)],1,t2,.sh,[0,1,4,5,9,18,28],[(10,1),(5,0),(8,0)]⟩),
(55,⟨[.ro t17,.ro (.int .i64)],1,t2,.sh,[0,1,2,4,10,16],[(3,0),(7,1),(6,0)]⟩),
(30,⟨[.ro t18,.ro (.int .i64)],1,t2,.sh,[0,1,2,4,10],[(4,1),(3,0)]⟩),
(278,⟨[.ro t1],1,t60,(.pr (.pr (.own .sh) (.pr (.own .sh) (.pr (.own (.own .sh)) .sh))) .sh),[0,2],[(1,6)]⟩),
(306,⟨[.ro (.int .i64),.ro .str],1,t36,.sh,[0,1,4],[(1,7)]⟩),
(251,⟨[.ro (.sl .str)],1,t47,(.pr (.own .sh) .sh),[0,2,3,4,9],mvD [(6,1)] [(15,[2,9])]⟩),
(307,⟨[.ro .str,.ro .str],1,t36,.sh,[0,1,4],[(1,5)]⟩),
(252,⟨[.ro (.sl .str)],1,t47,(.pr (.own .sh) .sh),[0,2,3,4,10],mvD [(6,1)] [(15,[2,10])]⟩),
(182,⟨[.ro (.sl .str)],1,t36,.sh,[0,2,3,8],mvD [(4,3)] [(7,[0,2,8])]⟩),
(260,⟨[.ro (.int .i64),.ro .str],1,t36,.sh,[0,1,4],[(1,7)]⟩),
(261,⟨[.ro .str,.ro .str],1,t36,.sh,[0,1,4],[(1,5)]⟩),
(191,⟨[.ro (.sl .str)],1,t62,(.pr (.own .sh) .sh),[0,2,3,4,5,6,7,8,9,10,11,12,27,31],mvD [(16,1)] [(22,[0,2,4,5,6,7,8,12,27,31]),(100,[0,2,4,5,7,8,9,10,11,12,27,31]),(39,[0,2,4,5,9,10,11,12,27,31])]⟩),
(111,⟨[.ro (.sl .str)],1,t36,.sh,[0,2],[(1,6)]⟩),
(215,⟨[.ro t17,.ro (.int .i64)],1,t36,.sh,[0,1,2,4,5,11,21],mvD [(6,5),(5,6)] [(18,[0,4,11,21])]⟩),
(326,⟨[.ro .str,.ro .str],1,t0,.sh,[0,1,4,5,6,14,24],mvD [(2,0),(8,9)] [(21,[4,14,24])]⟩),
(276,⟨[.ro .str,.ro .str,.ro .str,.ro .str],2,t63,.sh,[0,1,2,3,8,9,10,13,29],[(2,0),(2,1),(6,4),(6,5),(5,0),(5,1)]⟩),
(216,⟨[.ro .str,.ro (.int .i64),.ro (.int .i64),.ro (.int .i64),.ro .str],2,t63,.sh,[0,1,2,3,4,10,11,12],[(2,6),(2,7)]⟩),
(327,⟨[.ro .str],2,t64,(.pr (.own .sh) .sh),[0,2,3,4,5,11],mvD [(6,5),(6,6)] [(15,[2,3,11])]⟩),
(284,⟨[.ro t1,.ro (.int .i64)],1,t0,.sh,[0,1,4,5,9,17],mvD [(6,0),(5,0)] [(18,[4,9,17])]⟩),
(328,⟨[.ro t8,.ro t4,.ro t1],1,t0,.sh,[0,1,2,3,4,6],[(1,26)]⟩),
(362,⟨[.ro (.int .i64)],1,t3,(.pr (.own .sh) .sh),[0,2,3,4,16],mvD [(6,1)] [(22,[0,2,16])]⟩),
(329,⟨[.ro (.int .i64),.ro (.int .i64)],1,t0,.sh,[0,1,4,5,6,12,20],mvD [(7,0),(6,0)] [(22,[1,4,12,20])]⟩),
(283,⟨[.ro t8],1,t0,.sh,[0,1,2,3,4,5,6,7,29,35,46,57,66,74,96],mvD [(2,0),(8,0),(22,0),(14,0),(20,0)] [(40,[0,2,5,6,7,29,35,46,57,66,74,96]),(187,[0,2,4,6,7,29,35,46,57,66,74,96]),(117,[0,2,4,7,29,35,46,57,66,74,96])]⟩),
(219,⟨[.ro t11],1,t0,.sh,[0,1,2,3,13,18,47],mvD [(2,0),(8,0),(7,0)] [(26,[0,2,13,18,47])]⟩),
(231,⟨[.ro t12],1,t0,.sh,[0,1,2,3,24,29,38],[(2,0),(8,0),(7,0)]⟩),
(165,⟨[.ro (.sl t12)],1,t0,.sh,[0,2,3,7,15],[(6,3),(5,0)]⟩),
(282,⟨[.ro (.sl t4)],1,t0,.sh,[0,2,3,4,8,30],mvD [(7,3),(6,0)] [(25,[2,4,8,30])]⟩),
(154,⟨[.ro t18],2,t65,(.pr (.own .sh) .sh),[0,1,2,3,4,5,6,7,20],mvD [(9,6),(9,7)] [(35,[0,2,3,7,20])]⟩),
(155,⟨[.ro t18],1,t51,.sh,[0,1,2],[(3,1)]⟩),
(158,⟨[.ro t18],1,t47,.sh,[0,1,2],[(1,13)]⟩),
(222,⟨[.ro .str,.ro .str,.ro .str,.ro .str],2,t63,.sh,[0,1,2,3,8,9,10,11,14,31],[(2,0),(2,1),(6,4),(6,5),(5,0),(5,1)]⟩),
(159,⟨[.ro .str,.ro (.int .i64),.ro (.int .i64),.ro (.int .i64),.ro .str],2,t63,.sh,[0,1,2,3,4,10,11],[(1,9),(1,10)]⟩),
(289,⟨[.ro .str],1,t3,(.pr (.own .sh) .sh),[0,2,3,4,8],mvD [(6,1)] [(15,[2,8])]⟩),
(162,⟨[.ro t11],1,t0,.sh,[],[]⟩),
(299,⟨[.ro t12,.ro (.ptr .fn)],1,t0,.sh,[0,1,2,3],[(1,4)]⟩),
(338,⟨[.ro (.sl t12),.ro .fn],1,t2,.sh,[0,1,4,5,7,8,9,16],[(7,0),(5,1)]⟩),
(298,⟨[.ro (.sl t12),.ro .fn],1,t0,.sh,[0,1,4],[(1,4)]⟩),
(238,⟨[.ro (.sl t12),.ro .fn],1,t0,.sh,[0,1,3,4],[(1,4)]⟩),
(300,⟨[.ro (.int .i64)],1,t0,.sh,[0,2],[(1,2)]⟩),
(239,⟨[.ro t12],1,t0,.sh,[0,1,2],[(1,25)]⟩),
(172,⟨[.ro (.sl t12)],1,t0,.sh,[0,2],[(1,7)]⟩),
(84,⟨[.ro t18],1,t0,.sh,[0,1,2,3,4,16],mvD [(6,5)] [(15,[0,2,16])]⟩),
(85,⟨[.ro t18],1,t51,(.pr (.pr .sh (.pr .sh (.pr (.pr (.own .sh) (.pr (.own .sh) .sh)) .sh))) .sh),[0,1,2],[(3,1)]⟩)]
noncomputable def EE:Env:=⟨Go.Proofs.Tryz.prog,A8K Bn7⟩
variable (R:Run EE) (L:jC)
noncomputable def sL (x0 x1 x2:Int):Option d66:=R 149 [⟨(.int .i64),x0⟩,⟨(.int .i64),x1⟩,⟨(.int .i64),x2⟩]
noncomputable def Al0 (x0:Int):Option d66:=R 228 [⟨(.int .i64),x0⟩]
noncomputable def iH (x0:Int) (x1:FnVal):Option d66:=R 268 [⟨(.int .i64),x0⟩,⟨(.ptr .fn),x1⟩]
noncomputable def vN (x0:List Int) (x1:FnVal):Option d67:=R 315 [⟨t1,x0⟩,⟨.fn,x1⟩]
noncomputable def wK (x0:List Int) (x1:FnVal):Option d66:=R 267 [⟨t1,x0⟩,⟨.fn,x1⟩]
noncomputable def uL (x0:List Int) (x1:FnVal):Option d66:=R 204 [⟨t1,x0⟩,⟨.fn,x1⟩]
noncomputable def kH (x0:Int):Option d66:=R 205 [⟨(.int .i64),x0⟩]
noncomputable def nN (x0:List Int):Option d68:=R 366 [⟨t1,x0⟩]
noncomputable def AI7 (x0:Int):Option d68:=R 336 [⟨(.int .i64),x0⟩]
noncomputable def tU (x0:List Int) (x1:Int):Option d67:=R 365 [⟨t1,x0⟩,⟨(.int .i64),x1⟩]
noncomputable def sQ (x0:List Int) (x1:Int):Option d66:=R 335 [⟨t1,x0⟩,⟨(.int .i64),x1⟩]
noncomputable def gN (x0 x1:Int):Option d66:=R 293 [⟨(.int .i64),x0⟩,⟨(.int .i64),x1⟩]
noncomputable def AR9 (x0:d69) (x1:Int):Option d66:=R 292 [⟨t4,x0⟩,⟨t5,x1⟩]
noncomputable def mC (x0:d69) (x1:FnVal):Option d66:=R 334 [⟨t4,x0⟩,⟨(.ptr .fn),x1⟩]
noncomputable def xL (x0:List d69) (x1:FnVal):Option d67:=R 364 [⟨(.sl t4),x0⟩,⟨.fn,x1⟩]
noncomputable def yY (x0:List d69) (x1:FnVal):Option d66:=R 333 [⟨(.sl t4),x0⟩,⟨.fn,x1⟩]
noncomputable def oB (x0:List d69) (x1:FnVal):Option d66:=R 291 [⟨(.sl t4),x0⟩,⟨.fn,x1⟩]
noncomputable def wH (x0:List d69):Option d70:=R 302 [⟨(.sl t4),x0⟩]
noncomputable def rR (x0:List (List d69)):Option d70:=R 303 [⟨t7,x0⟩]
noncomputable def cP (x0:d71):Option d70:=R 244 [⟨t8,x0⟩]
noncomputable def Aj0 (x0:Int):Option d66:=R 337 [⟨(.int .i64),x0⟩]
noncomputable def dE (x0:Int):Option d66:=R 235 [⟨(.int .i64),x0⟩]
noncomputable def aM (x0:d69):Option d66:=R 294 [⟨t4,x0⟩]
noncomputable def AZ6 (x0:d71):Option d66:=R 229 [⟨t8,x0⟩]
noncomputable def nW (x0:Int):Option d66:=R 290 [⟨(.int .i64),x0⟩]
noncomputable def rL (x0:d72):Option d73:=R 227 [⟨(.ptr t9),x0⟩]
noncomputable def fN (x0:List UInt8):Option d76:=R 160 [⟨.str,x0⟩]
noncomputable def gA (x0:List UInt8):Option d77:=R 161 [⟨.str,x0⟩]
noncomputable def kQ (x0:d81):Option d76:=R 83 [⟨t18,x0⟩]
noncomputable def dJ (x0:d81):Option d82:=R 34 [⟨t18,x0⟩]
noncomputable def kY (x0:d81):Option d66:=R 7 [⟨t18,x0⟩]
noncomputable def hF (x0:List UInt8):Option d76:=R 217 [⟨.str,x0⟩]
noncomputable def AA1 (x0:d81):Option d76:=R 153 [⟨t18,x0⟩]
noncomputable def gD (x0:d81):Option d82:=R 81 [⟨t18,x0⟩]
noncomputable def aR (x0:d81):Option d82:=R 33 [⟨t18,x0⟩]
noncomputable def mB (x0:List UInt8) (x1:Int):Option d83:=R 223 [⟨.str,x0⟩,⟨(.int .i64),x1⟩]
noncomputable def yO (x0:d72) (x1 x2:Int):Option d84:=R 226 [⟨(.ptr t9),x0⟩,⟨(.int .i64),x1⟩,⟨(.int .i64),x2⟩]
noncomputable def xK (x0:d72) (x1 x2 x3:Int):Option d85:=R 224 [⟨(.ptr t9),x0⟩,⟨(.int .i64),x1⟩,⟨(.int .i64),x2⟩,⟨(.int .i64),x3⟩]
noncomputable def wL (x0:d72) (x1:Int):Option d86:=R 225 [⟨(.ptr t9),x0⟩,⟨(.int .i64),x1⟩]
noncomputable def lS (x0:List UInt8) (x1:Int):Option d88:=R 277 [⟨.str,x0⟩,⟨(.int .i64),x1⟩]
noncomputable def zO (x0:d87):Option d89:=R 279 [⟨(.ptr t24),x0⟩]
noncomputable def yR (x0:d87) (x1:Int):Option d89:=R 280 [⟨(.ptr t24),x0⟩,⟨(.int .i64),x1⟩]
noncomputable def tJ (x0:d87):Option d90:=R 281 [⟨(.ptr t24),x0⟩]
noncomputable def jA (x0:List UInt8):Option d77:=R 218 [⟨.str,x0⟩]
noncomputable def cN (x0:List Int) (x1:Int):Option d68:=R 263 [⟨t28,x0⟩,⟨(.int .i64),x1⟩]
noncomputable def AF5:Option d68:=R 305 []
noncomputable def AA2:Option d92:=R 250 []
noncomputable def aX (x0:List UInt8) (x1:Int):Option d67:=R 341 [⟨.str,x0⟩,⟨(.int .i64),x1⟩]
noncomputable def yF (x0 x1:Int):Option d67:=R 342 [⟨(.int .i64),x0⟩,⟨(.int .i64),x1⟩]
noncomputable def AH6:Option d68:=R 343 []
noncomputable def cM (x0:List Int) (x1:List UInt8):Option d68:=R 304 [⟨t30,x0⟩,⟨.str,x1⟩]
noncomputable def lY (x0:d91) (x1:List UInt8):Option d92:=R 249 [⟨t32,x0⟩,⟨.str,x1⟩]
noncomputable def AJ2 (x0:d91):Option d93:=R 248 [⟨t32,x0⟩]
noncomputable def aA (x0:List UInt8):Option d93:=R 181 [⟨.str,x0⟩]
noncomputable def AR7:Option d92:=R 257 []
noncomputable def AB8:Option d68:=R 309 []
noncomputable def yW (x0 x1:Int):Option d67:=R 367 [⟨(.int .u32),x0⟩,⟨(.int .i64),x1⟩]
noncomputable def xQ (x0 x1:Int):Option d67:=R 344 [⟨(.int .u32),x0⟩,⟨(.int .i64),x1⟩]
noncomputable def nC (x0:d91) (x1:List UInt8) (x2:List Int):Option d92:=R 310 [⟨(.ptr t32),x0⟩,⟨.str,x1⟩,⟨(.ptr t37),x2⟩]
noncomputable def oH (x0:d91) (x1:List UInt8):Option d92:=R 258 [⟨t32,x0⟩,⟨.str,x1⟩]
noncomputable def oP (x0:List UInt8) (x1:Int):Option d93:=R 311 [⟨.str,x0⟩,⟨(.int .i64),x1⟩]
noncomputable def cJ (x0:d91):Option d93:=R 259 [⟨t32,x0⟩]
noncomputable def eC (x0:List UInt8):Option d93:=R 190 [⟨.str,x0⟩]
noncomputable def vE (x0 x1:Int):Option d93:=R 139 [⟨(.int .i64),x0⟩,⟨(.int .i64),x1⟩]
noncomputable def lI (x0:List UInt8):Option d67:=R 332 [⟨.str,x0⟩]
noncomputable def AA9 (x0 x1 x2 x3:Int):Option d94:=R 354 [⟨(.int .u32),x0⟩,⟨(.int .u32),x1⟩,⟨(.int .u32),x2⟩,⟨(.int .u32),x3⟩]
noncomputable def bE (x0 x1:List UInt8) (x2:Int):Option d93:=R 322 [⟨.str,x0⟩,⟨.str,x1⟩,⟨(.int .i64),x2⟩]
noncomputable def nV (x0:List UInt8) (x1:Int):Option d67:=R 361 [⟨.str,x0⟩,⟨(.int .i64),x1⟩]
noncomputable def rN (x0 x1:Int):Option d67:=R 382 [⟨(.int .i64),x0⟩,⟨(.int .i64),x1⟩]
noncomputable def gH (x0 x1 x2 x3:Int):Option d68:=R 381 [⟨(.int .i64),x0⟩,⟨(.int .i64),x1⟩,⟨(.int .i64),x2⟩,⟨(.int .i64),x3⟩]
noncomputable def gS (x0:List Int) (x1 x2 x3 x4:Int):Option d68:=R 372 [⟨t44,x0⟩,⟨(.int .i64),x1⟩,⟨(.int .i64),x2⟩,⟨(.int .i64),x3⟩,⟨(.int .i64),x4⟩]
noncomputable def pU (x0 x1:List UInt8) (x2:Int):Option d93:=R 349 [⟨.str,x0⟩,⟨.str,x1⟩,⟨(.int .i64),x2⟩]
noncomputable def A3p (x0 x1:List UInt8):Option d93:=R 321 [⟨.str,x0⟩,⟨.str,x1⟩]
noncomputable def bF (x0 x1:List UInt8) (x2:Int) (x3:List UInt8):Option d93:=R 313 [⟨.str,x0⟩,⟨.str,x1⟩,⟨(.int .i64),x2⟩,⟨.str,x3⟩]
noncomputable def hJ (x0:d78) (x1:Int):Option d67:=R 60 [⟨t15,x0⟩,⟨(.int .i64),x1⟩]
noncomputable def fL (x0:List (List UInt8)) (x1:Int):Option d67:=R 122 [⟨(.sl .str),x0⟩,⟨(.int .i64),x1⟩]
noncomputable def Aj3 (x0:d79) (x1:Int):Option d67:=R 195 [⟨t16,x0⟩,⟨(.int .i64),x1⟩]
noncomputable def AW5 (x0:List d79) (x1:Int):Option d67:=R 123 [⟨(.sl t16),x0⟩,⟨(.int .i64),x1⟩]
noncomputable def dX (x0:d80) (x1:Int):Option d67:=R 61 [⟨t17,x0⟩,⟨(.int .i64),x1⟩]
noncomputable def aJ (x0:d81) (x1:Int):Option d67:=R 20 [⟨t18,x0⟩,⟨(.int .i64),x1⟩]
noncomputable def iW (x0:d78):Option d95:=R 66 [⟨t15,x0⟩]
noncomputable def fV (x0:List (List UInt8)):Option d96:=R 132 [⟨(.sl .str),x0⟩]
noncomputable def Ai7 (x0:d79):Option d97:=R 202 [⟨t16,x0⟩]
noncomputable def AU7 (x0:List d79):Option d98:=R 133 [⟨(.sl t16),x0⟩]
noncomputable def dR (x0:d80):Option d99:=R 67 [⟨t17,x0⟩]
noncomputable def lW (x0:d81):Option Bj4:=R 23 [⟨t18,x0⟩]
noncomputable def tG (x0 x1 x2:Int):Option d66:=R 102 [⟨(.int .i64),x0⟩,⟨(.int .i64),x1⟩,⟨(.int .i64),x2⟩]
noncomputable def fI (x0:List Int):Option d66:=R 44 [⟨t1,x0⟩]
noncomputable def iX (x0:d78):Option d66:=R 151 [⟨t15,x0⟩]
noncomputable def AT4 (x0:Int):Option d66:=R 214 [⟨(.int .i64),x0⟩]
noncomputable def dZ (x0:d80):Option d66:=R 152 [⟨t17,x0⟩]
noncomputable def AB1 (x0:d81):Option d66:=R 80 [⟨t18,x0⟩]
noncomputable def kJ (x0:Int):Option d93:=R 312 [⟨(.int .i64),x0⟩]
noncomputable def cF (x0 x1 x2:Int):Option d93:=R 264 [⟨(.int .i64),x0⟩,⟨(.int .i64),x1⟩,⟨(.int .i64),x2⟩]
noncomputable def bG (x0:List UInt8):Option d93:=R 351 [⟨.str,x0⟩]
noncomputable def cO (x0:List UInt8):Option d93:=R 374 [⟨.str,x0⟩]
noncomputable def kI (x0:List UInt8):Option d68:=R 373 [⟨.str,x0⟩]
noncomputable def mH (x0:List Int):Option d68:=R 377 [⟨t52,x0⟩]
noncomputable def kE (x0 x1:List Int):Option d68:=R 375 [⟨t52,x0⟩,⟨t52,x1⟩]
noncomputable def AB4 (x0:List Int):Option d68:=R 376 [⟨t52,x0⟩]
noncomputable def eH (x0 x1:List UInt8):Option d93:=R 350 [⟨.str,x0⟩,⟨.str,x1⟩]
noncomputable def AL0 (x0 x1 x2 x3:List UInt8):Option d93:=R 314 [⟨.str,x0⟩,⟨.str,x1⟩,⟨.str,x2⟩,⟨.str,x3⟩]
noncomputable def cA (x0 x1:List UInt8):Option d93:=R 131 [⟨.str,x0⟩,⟨.str,x1⟩]
noncomputable def AL4 (x0:d80):Option d99:=R 103 [⟨t17,x0⟩]
noncomputable def AJ1 (x0:d81):Option Bj4:=R 65 [⟨t18,x0⟩]
noncomputable def kC (x0:List UInt8):Option d66:=R 220 [⟨.str,x0⟩]
noncomputable def lE (x0:d78):Option d67:=R 137 [⟨t15,x0⟩]
noncomputable def iS (x0:d78):Option d66:=R 156 [⟨t15,x0⟩]
noncomputable def lA (x0:List UInt8) (x1:FnVal):Option d66:=R 254 [⟨.str,x0⟩,⟨(.ptr .fn),x1⟩]
noncomputable def xW (x0:List (List UInt8)) (x1:FnVal):Option d67:=R 308 [⟨(.sl .str),x0⟩,⟨.fn,x1⟩]
noncomputable def xJ (x0:List (List UInt8)) (x1:FnVal):Option d66:=R 253 [⟨(.sl .str),x0⟩,⟨.fn,x1⟩]
noncomputable def oZ (x0:List (List UInt8)) (x1:FnVal):Option d66:=R 185 [⟨(.sl .str),x0⟩,⟨.fn,x1⟩]
noncomputable def kM (x0:List UInt8):Option d66:=R 285 [⟨.str,x0⟩]
noncomputable def jO (x0:d79) (x1:FnVal):Option d66:=R 331 [⟨t16,x0⟩,⟨(.ptr .fn),x1⟩]
noncomputable def wV (x0:List d79) (x1:FnVal):Option d67:=R 363 [⟨(.sl t16),x0⟩,⟨.fn,x1⟩]
noncomputable def wC (x0:List d79) (x1:FnVal):Option d66:=R 330 [⟨(.sl t16),x0⟩,⟨.fn,x1⟩]
noncomputable def lR (x0:List d79) (x1:FnVal):Option d66:=R 286 [⟨(.sl t16),x0⟩,⟨.fn,x1⟩]
noncomputable def cG (x0:Int):Option d66:=R 288 [⟨(.int .i64),x0⟩]
noncomputable def hM (x0:d79):Option d66:=R 287 [⟨t16,x0⟩]
noncomputable def dV (x0:d80):Option d66:=R 221 [⟨t17,x0⟩]
noncomputable def AI9 (x0:d80):Option d66:=R 157 [⟨t17,x0⟩]
noncomputable def aZ (x0:d81):Option d66:=R 82 [⟨t18,x0⟩]
noncomputable def jG (x0:Int):Option d67:=R 138 [⟨(.int .i64),x0⟩]
noncomputable def AA7 (x0 x1 x2:Int):Option d93:=R 209 [⟨(.int .i64),x0⟩,⟨(.int .i64),x1⟩,⟨(.int .i64),x2⟩]
noncomputable def Aa4 (x0 x1:List UInt8) (x2:Int) (x3:List UInt8):Option d93:=R 273 [⟨.str,x0⟩,⟨.str,x1⟩,⟨(.int .i64),x2⟩,⟨.str,x3⟩]
noncomputable def bZ (x0:List UInt8):Option d93:=R 325 [⟨.str,x0⟩]
noncomputable def aS (x0:List UInt8):Option d93:=R 356 [⟨.str,x0⟩]
noncomputable def iB (x0:List UInt8):Option d68:=R 355 [⟨.str,x0⟩]
noncomputable def wF (x0:List Int):Option d68:=R 379 [⟨t54,x0⟩]
noncomputable def hO (x0 x1:List Int):Option d68:=R 357 [⟨t54,x0⟩,⟨t54,x1⟩]
noncomputable def jP (x0 x1:List Int):Option d68:=R 358 [⟨t54,x0⟩,⟨t54,x1⟩]
noncomputable def mN (x0:List Int):Option d68:=R 359 [⟨t54,x0⟩]
noncomputable def kW (x0:List Int) (x1:List UInt8):Option d93:=R 360 [⟨t54,x0⟩,⟨.str,x1⟩]
noncomputable def Aq1 (x0 x1:List UInt8):Option d93:=R 324 [⟨.str,x0⟩,⟨.str,x1⟩]
noncomputable def AK6 (x0 x1 x2 x3:List UInt8):Option d93:=R 274 [⟨.str,x0⟩,⟨.str,x1⟩,⟨.str,x2⟩,⟨.str,x3⟩]
noncomputable def AU1 (x0 x1:List UInt8):Option d93:=R 143 [⟨.str,x0⟩,⟨.str,x1⟩]
noncomputable def wW (x0:List (List UInt8)):Option d96:=R 112 [⟨(.sl .str),x0⟩]
noncomputable def uQ (x0:List d79):Option d98:=R 113 [⟨(.sl t16),x0⟩]
noncomputable def gB (x0:d80):Option d99:=R 48 [⟨t17,x0⟩]
noncomputable def qI (x0:d81):Option Bj4:=R 71 [⟨t18,x0⟩]
noncomputable def iU (x0 x1:d78):Option d66:=R 73 [⟨t15,x0⟩,⟨t15,x1⟩]
noncomputable def fU (x0 x1:List (List UInt8)):Option d66:=R 114 [⟨(.sl .str),x0⟩,⟨(.sl .str),x1⟩]
noncomputable def Ai1 (x0 x1:d79):Option d66:=R 192 [⟨t16,x0⟩,⟨t16,x1⟩]
noncomputable def AV7 (x0 x1:List d79):Option d66:=R 115 [⟨(.sl t16),x0⟩,⟨(.sl t16),x1⟩]
noncomputable def dY (x0 x1:d80):Option d66:=R 49 [⟨t17,x0⟩,⟨t17,x1⟩]
noncomputable def lU (x0 x1:d81):Option d66:=R 26 [⟨t18,x0⟩,⟨t18,x1⟩]
noncomputable def qB (x0:Int):Option d93:=R 193 [⟨(.int .i64),x0⟩]
noncomputable def kN (x0:List (List UInt8)) (x1:Int):Option Bt2:=R 117 [⟨(.sl .str),x0⟩,⟨(.int .i64),x1⟩]
noncomputable def AB2 (x0:List d79) (x1:Int):Option Bt1:=R 118 [⟨(.sl t16),x0⟩,⟨(.int .i64),x1⟩]
noncomputable def hU (x0:d80) (x1:Int):Option Bv8:=R 52 [⟨t17,x0⟩,⟨(.int .i64),x1⟩]
noncomputable def qD (x0:d81) (x1:Int):Option Bv6:=R 28 [⟨t18,x0⟩,⟨(.int .i64),x1⟩]
noncomputable def jH (x0:List (List UInt8)) (x1:Int):Option d67:=R 119 [⟨(.sl .str),x0⟩,⟨(.int .i64),x1⟩]
noncomputable def AB5 (x0:List d79) (x1:Int):Option d67:=R 120 [⟨(.sl t16),x0⟩,⟨(.int .i64),x1⟩]
noncomputable def gF (x0:d80) (x1:Int):Option d67:=R 55 [⟨t17,x0⟩,⟨(.int .i64),x1⟩]
noncomputable def oC (x0:d81) (x1:Int):Option d67:=R 30 [⟨t18,x0⟩,⟨(.int .i64),x1⟩]
noncomputable def AL5 (x0:List Int):Option Bu9:=R 278 [⟨t1,x0⟩]
noncomputable def aF (x0:Int) (x1:List UInt8):Option d93:=R 306 [⟨(.int .i64),x0⟩,⟨.str,x1⟩]
noncomputable def fJ (x0:List (List UInt8)):Option d96:=R 251 [⟨(.sl .str),x0⟩]
noncomputable def AB6 (x0 x1:List UInt8):Option d93:=R 307 [⟨.str,x0⟩,⟨.str,x1⟩]
noncomputable def cI (x0:List (List UInt8)):Option d96:=R 252 [⟨(.sl .str),x0⟩]
noncomputable def aL (x0:List (List UInt8)):Option d93:=R 182 [⟨(.sl .str),x0⟩]
noncomputable def iT (x0:Int) (x1:List UInt8):Option d93:=R 260 [⟨(.int .i64),x0⟩,⟨.str,x1⟩]
noncomputable def Ai6 (x0 x1:List UInt8):Option d93:=R 261 [⟨.str,x0⟩,⟨.str,x1⟩]
noncomputable def Aj5 (x0:List (List UInt8)):Option Bn4:=R 191 [⟨(.sl .str),x0⟩]
noncomputable def Aj6 (x0:List (List UInt8)):Option d93:=R 111 [⟨(.sl .str),x0⟩]
noncomputable def dL (x0:d80) (x1:Int):Option d93:=R 215 [⟨t17,x0⟩,⟨(.int .i64),x1⟩]
noncomputable def cD (x0 x1:List UInt8):Option d66:=R 326 [⟨.str,x0⟩,⟨.str,x1⟩]
noncomputable def iK (x0 x1 x2 x3:List UInt8):Option Bn3:=R 276 [⟨.str,x0⟩,⟨.str,x1⟩,⟨.str,x2⟩,⟨.str,x3⟩]
noncomputable def lT (x0:List UInt8) (x1 x2 x3:Int) (x4:List UInt8):Option Bn3:=R 216 [⟨.str,x0⟩,⟨(.int .i64),x1⟩,⟨(.int .i64),x2⟩,⟨(.int .i64),x3⟩,⟨.str,x4⟩]
noncomputable def fX (x0:List UInt8):Option Bt4:=R 327 [⟨.str,x0⟩]
noncomputable def AG6 (x0:List Int) (x1:Int):Option d66:=R 284 [⟨t1,x0⟩,⟨(.int .i64),x1⟩]
noncomputable def gK (x0:d71) (x1:d69) (x2:List Int):Option d66:=R 328 [⟨t8,x0⟩,⟨t4,x1⟩,⟨t1,x2⟩]
noncomputable def AB7 (x0:Int):Option d68:=R 362 [⟨(.int .i64),x0⟩]
noncomputable def AX0 (x0 x1:Int):Option d66:=R 329 [⟨(.int .i64),x0⟩,⟨(.int .i64),x1⟩]
noncomputable def AK0 (x0:d71):Option d66:=R 283 [⟨t8,x0⟩]
noncomputable def AG8 (x0:d74):Option d66:=R 219 [⟨t11,x0⟩]
noncomputable def jB (x0:d75):Option d66:=R 231 [⟨t12,x0⟩]
noncomputable def iZ (x0:List d75):Option d66:=R 165 [⟨(.sl t12),x0⟩]
noncomputable def fT (x0:List d69):Option d66:=R 282 [⟨(.sl t4),x0⟩]
noncomputable def AI6 (x0:d81):Option Bt8:=R 154 [⟨t18,x0⟩]
noncomputable def aU (x0:d81):Option Bj4:=R 155 [⟨t18,x0⟩]
noncomputable def mK (x0:d81):Option d96:=R 158 [⟨t18,x0⟩]
noncomputable def AL1 (x0 x1 x2 x3:List UInt8):Option Bn3:=R 222 [⟨.str,x0⟩,⟨.str,x1⟩,⟨.str,x2⟩,⟨.str,x3⟩]
noncomputable def jZ (x0:List UInt8) (x1 x2 x3:Int) (x4:List UInt8):Option Bn3:=R 159 [⟨.str,x0⟩,⟨(.int .i64),x1⟩,⟨(.int .i64),x2⟩,⟨(.int .i64),x3⟩,⟨.str,x4⟩]
noncomputable def dQ (x0:List UInt8):Option d68:=R 289 [⟨.str,x0⟩]
noncomputable def Ak4 (x0:d74):Option d66:=R 162 [⟨t11,x0⟩]
noncomputable def oX (x0:d75) (x1:FnVal):Option d66:=R 299 [⟨t12,x0⟩,⟨(.ptr .fn),x1⟩]
noncomputable def xD (x0:List d75) (x1:FnVal):Option d67:=R 338 [⟨(.sl t12),x0⟩,⟨.fn,x1⟩]
noncomputable def yT (x0:List d75) (x1:FnVal):Option d66:=R 298 [⟨(.sl t12),x0⟩,⟨.fn,x1⟩]
noncomputable def qS (x0:List d75) (x1:FnVal):Option d66:=R 238 [⟨(.sl t12),x0⟩,⟨.fn,x1⟩]
noncomputable def AK4 (x0:Int):Option d66:=R 300 [⟨(.int .i64),x0⟩]
noncomputable def dN (x0:d75):Option d66:=R 239 [⟨t12,x0⟩]
noncomputable def hP (x0:List d75):Option d66:=R 172 [⟨(.sl t12),x0⟩]
noncomputable def mP (x0:d81):Option d66:=R 84 [⟨t18,x0⟩]
noncomputable def oM (x0:d81):Option Bj4:=R 85 [⟨t18,x0⟩]
noncomputable def tA (v0:List Int) (v1:FnVal) (v4 v7 v8:Int) (p:List Nat:=[1,0,1,0]):Option d67:=zS EE R L 315 Go.Proofs.Tryz.f315 p (mk 19 [(0,.dat ⟨t1,v0,.sh⟩),(1,.dat ⟨.fn,v1,.sh⟩),(4,.dat ⟨(.int .i64),v4,.sh⟩),(7,.dat ⟨(.int .i64),v7,.sh⟩),(8,.dat ⟨(.int .i64),v8,.sh⟩)])
noncomputable def zN (v0:List Int) (v1:FnVal) (v4 v5 v7 v8:Int) (p:List Nat:=[1,0,1,0]):Option d67:=zS EE R L 315 Go.Proofs.Tryz.f315 p (mk 19 [(0,.dat ⟨t1,v0,.sh⟩),(1,.dat ⟨.fn,v1,.sh⟩),(4,.dat ⟨(.int .i64),v4,.sh⟩),(5,.dat ⟨(.int .i64),v5,.sh⟩),(7,.dat ⟨(.int .i64),v7,.sh⟩),(8,.dat ⟨(.int .i64),v8,.sh⟩)])
noncomputable def kS (v3:List Int) (v4:Int) (p:List Nat:=[1,1,1,0]):Option d68:=zS EE R L 336 Go.Proofs.Tryz.f336 p (mk 19 [(3,.dat ⟨t1,v3,(.own .sh)⟩),(4,.dat ⟨(.int .i64),v4,.sh⟩)])
noncomputable def xI (v0:List Int) (v1 v7 v8:Int) (p:List Nat:=[1,0,1,0]):Option d67:=zS EE R L 365 Go.Proofs.Tryz.f365 p (mk 19 [(0,.dat ⟨t1,v0,.sh⟩),(1,.dat ⟨(.int .i64),v1,.sh⟩),(7,.dat ⟨(.int .i64),v7,.sh⟩),(8,.dat ⟨(.int .i64),v8,.sh⟩)])
noncomputable def zI (v0:List d69) (v1:FnVal) (v7 v8:Int) (p:List Nat:=[1,0,1,0]):Option d67:=zS EE R L 364 Go.Proofs.Tryz.f364 p (mk 19 [(0,.dat ⟨(.sl t4),v0,.sh⟩),(1,.dat ⟨.fn,v1,.sh⟩),(7,.dat ⟨(.int .i64),v7,.sh⟩),(8,.dat ⟨(.int .i64),v8,.sh⟩)])
noncomputable def oJ (v1:d71) (v25:List (List d69)) (v26 v27:Int) (p:List Nat:=[1,1,0,1,0]):Option d66:=zS EE R L 229 Go.Proofs.Tryz.f229 p (mk 73 [(1,.dat ⟨(.ptr t8),v1,(.own .sh)⟩),(25,.dat ⟨t7,v25,.sh⟩),(26,.dat ⟨(.int .i64),v26,.sh⟩),(27,.dat ⟨(.int .i64),v27,.sh⟩)])
noncomputable def mR (v1:d71) (v5:List Bool) (v43:List d69) (v44 v45:Int) (p:List Nat:=[1,1,1,1,0,1,0]):Option d66:=zS EE R L 229 Go.Proofs.Tryz.f229 p (mk 73 [(1,.dat ⟨(.ptr t8),v1,(.own .sh)⟩),(5,.dat ⟨(.ptr Bu8),v5,(.own .sh)⟩),(43,.dat ⟨(.sl t4),v43,(.own .sh)⟩),(44,.dat ⟨(.int .i64),v44,.sh⟩),(45,.dat ⟨(.int .i64),v45,.sh⟩)])
noncomputable def rX (v2:d74) (v5:d72) (v7:d74) (v8:List d75) (v23 v24:Int) (p:List Nat:=[1,1,1,1,1,0,1,0]):Option d76:=zS EE R L 160 Go.Proofs.Tryz.f160 p (mk 54 [(2,.dat ⟨(.ptr t11),v2,(.own (.pr (.own .sh) (.pr (.pr (.own .sh) (.pr (.own .sh) (.pr (.own .sh) .sh))) .sh)))⟩),(5,.dat ⟨(.ptr t9),v5,(.own (.pr (.own .sh) .sh))⟩),(7,.dat ⟨(.ptr t11),v7,(.own (.pr (.own .sh) (.pr (.pr (.own .sh) (.pr (.own .sh) (.pr (.own (.own .sh)) .sh))) .sh)))⟩),(8,.dat ⟨(.sl t12),v8,(.own (.pr .sh (.pr (.own .sh) .sh)))⟩),(23,.dat ⟨(.int .i64),v23,.sh⟩),(24,.dat ⟨(.int .i64),v24,.sh⟩)])
noncomputable def sI (v1:d81) (v2:d74) (v5:List (List UInt8)) (v6:Int) (v9:d74) (v10:List d75) (v59 v60:Int) (p:List Nat:=[1,1,1,1,1,1,1,0,1,0]):Option d76:=zS EE R L 83 Go.Proofs.Tryz.f83 p (mk 104 [(1,.dat ⟨(.ptr t18),v1,(.own .sh)⟩),(2,.dat ⟨(.ptr t11),v2,(.own (.pr (.own .sh) (.pr (.pr (.own .sh) (.pr (.own .sh) (.pr (.own .sh) .sh))) .sh)))⟩),(5,.dat ⟨(.sl .str),v5,.sh⟩),(6,.dat ⟨(.int .i64),v6,.sh⟩),(9,.dat ⟨(.ptr t11),v9,(.own (.pr (.own .sh) (.pr (.pr (.own .sh) (.pr (.own .sh) (.pr (.own (.own .sh)) .sh))) .sh)))⟩),(10,.dat ⟨(.sl t12),v10,(.own (.pr .sh (.pr (.own .sh) .sh)))⟩),(59,.dat ⟨(.int .i64),v59,.sh⟩),(60,.dat ⟨(.int .i64),v60,.sh⟩)])
noncomputable def wD (v2:d74) (v5:d87) (v6:d74) (v7:Int) (p:List Nat:=[1,1,1,0,1,0]):Option d76:=zS EE R L 217 Go.Proofs.Tryz.f217 p (mk 107 [(2,.dat ⟨(.ptr t11),v2,(.own (.pr (.own .sh) (.pr (.pr (.own .sh) (.pr (.own .sh) (.pr (.own .sh) .sh))) .sh)))⟩),(5,.dat ⟨(.ptr t24),v5,(.own (.pr (.own .sh) .sh))⟩),(6,.dat ⟨(.ptr t11),v6,(.own (.pr (.own .sh) (.pr (.pr (.own .sh) (.pr (.own .sh) (.pr (.own (.own .sh)) .sh))) .sh)))⟩),(7,.dat ⟨(.int .i64),v7,.sh⟩)])
noncomputable def uA (v2:d74) (v5:d87) (v6:d74) (v8:Int) (p:List Nat:=[1,1,1,1,0,1,0]):Option d76:=zS EE R L 217 Go.Proofs.Tryz.f217 p (mk 107 [(2,.dat ⟨(.ptr t11),v2,(.own (.pr (.own .sh) (.pr (.pr (.own .sh) (.pr (.own .sh) (.pr (.own .sh) .sh))) .sh)))⟩),(5,.dat ⟨(.ptr t24),v5,(.own (.pr (.own .sh) .sh))⟩),(6,.dat ⟨(.ptr t11),v6,(.own (.pr (.own .sh) (.pr (.pr (.own .sh) (.pr (.own .sh) (.pr (.own (.own .sh)) .sh))) .sh)))⟩),(8,.dat ⟨(.int .i64),v8,.sh⟩)])
noncomputable def yN (v2:d74) (v5:d87) (v6:d74) (v10:Int) (p:List Nat:=[1,1,1,1,1,0,1,0]):Option d76:=zS EE R L 217 Go.Proofs.Tryz.f217 p (mk 107 [(2,.dat ⟨(.ptr t11),v2,(.own (.pr (.own .sh) (.pr (.pr (.own .sh) (.pr (.own .sh) (.pr (.own .sh) .sh))) .sh)))⟩),(5,.dat ⟨(.ptr t24),v5,(.own (.pr (.own .sh) .sh))⟩),(6,.dat ⟨(.ptr t11),v6,(.own (.pr (.own .sh) (.pr (.pr (.own .sh) (.pr (.own .sh) (.pr (.own (.own .sh)) .sh))) .sh)))⟩),(10,.dat ⟨(.int .i64),v10,.sh⟩)])
noncomputable def tL (v2:d74) (v5:d87) (v6:d74) (v11:List d75) (v12:Int) (p:List Nat:=[1,1,1,1,1,1,1,0,1,0]):Option d76:=zS EE R L 217 Go.Proofs.Tryz.f217 p (mk 107 [(2,.dat ⟨(.ptr t11),v2,(.own (.pr (.own .sh) (.pr (.pr (.own .sh) (.pr (.own .sh) (.pr (.own .sh) .sh))) .sh)))⟩),(5,.dat ⟨(.ptr t24),v5,(.own (.pr (.own .sh) .sh))⟩),(6,.dat ⟨(.ptr t11),v6,(.own (.pr (.own .sh) (.pr (.pr (.own .sh) (.pr (.own .sh) (.pr (.own (.own .sh)) .sh))) .sh)))⟩),(11,.dat ⟨(.sl t12),v11,(.own (.pr .sh (.pr (.own .sh) .sh)))⟩),(12,.dat ⟨(.int .i64),v12,.sh⟩)])
noncomputable def vW (v2:d74) (v5:d87) (v6:d74) (v11:List d75) (v12:Int) (v13:d75) (v14:Int) (p:List Nat:=[1,1,1,1,1,1,1,0,1,0,0,1,0,0,1,0,1,0]):Option d76:=zS EE R L 217 Go.Proofs.Tryz.f217 p (mk 107 [(2,.dat ⟨(.ptr t11),v2,(.own (.pr (.own .sh) (.pr (.pr (.own .sh) (.pr (.own .sh) (.pr (.own .sh) .sh))) .sh)))⟩),(5,.dat ⟨(.ptr t24),v5,(.own (.pr (.own .sh) .sh))⟩),(6,.dat ⟨(.ptr t11),v6,(.own (.pr (.own .sh) (.pr (.pr (.own .sh) (.pr (.own .sh) (.pr (.own (.own .sh)) .sh))) .sh)))⟩),(11,.dat ⟨(.sl t12),v11,(.own (.pr .sh (.pr (.own .sh) .sh)))⟩),(12,.dat ⟨(.int .i64),v12,.sh⟩),(13,.dat ⟨(.ptr t12),v13,(.own (.pr .sh (.pr (.own .sh) .sh)))⟩),(14,.dat ⟨(.int .i64),v14,.sh⟩)])
noncomputable def rD (v1:d81) (v2:d74) (v5:List (List UInt8)) (v6:Int) (p:List Nat:=[1,1,0,1,0]):Option d76:=zS EE R L 153 Go.Proofs.Tryz.f153 p (mk 120 [(1,.dat ⟨(.ptr t18),v1,(.own .sh)⟩),(2,.dat ⟨(.ptr t11),v2,(.own (.pr (.own .sh) (.pr (.pr (.own .sh) (.pr (.own .sh) (.pr (.own .sh) .sh))) .sh)))⟩),(5,.dat ⟨(.sl .str),v5,(.own .sh)⟩),(6,.dat ⟨(.int .i64),v6,.sh⟩)])
noncomputable def oU (v1:d81) (v2:d74) (v5:List (List UInt8)) (v9:d74) (v10:List d75) (v12:Int) (p:List Nat:=[1,1,1,1,1,1,1,0,1,0]):Option d76:=zS EE R L 153 Go.Proofs.Tryz.f153 p (mk 120 [(1,.dat ⟨(.ptr t18),v1,(.own .sh)⟩),(2,.dat ⟨(.ptr t11),v2,(.own (.pr (.own .sh) (.pr (.pr (.own .sh) (.pr (.own .sh) (.pr (.own .sh) .sh))) .sh)))⟩),(5,.dat ⟨(.sl .str),v5,(.own .sh)⟩),(9,.dat ⟨(.ptr t11),v9,(.own (.pr (.own .sh) (.pr (.pr (.own .sh) (.pr (.own .sh) (.pr (.own (.own .sh)) .sh))) .sh)))⟩),(10,.dat ⟨(.sl t12),v10,(.own (.pr .sh (.pr (.own .sh) .sh)))⟩),(12,.dat ⟨(.int .i64),v12,.sh⟩)])
noncomputable def wE (v0:d72) (v2 v3:Int) (v9:List Int) (v10 v11:Int) (p:List Nat:=[1,1,0,1,0]):Option d85:=zS EE R L 224 Go.Proofs.Tryz.f224 p (mk 22 [(0,.dat ⟨(.ptr t9),v0,(.pin 0 (.own (.pr (.own .sh) .sh)))⟩),(2,.dat ⟨(.int .i64),v2,.sh⟩),(3,.dat ⟨(.int .i64),v3,.sh⟩),(9,.dat ⟨t1,v9,(.own .sh)⟩),(10,.dat ⟨(.int .i64),v10,.sh⟩),(11,.dat ⟨(.int .i64),v11,.sh⟩)])
noncomputable def wI (v0:d72) (v5:List d69) (v8 v9:Int) (p:List Nat:=[1,1,0,1,0]):Option d86:=zS EE R L 225 Go.Proofs.Tryz.f225 p (mk 23 [(0,.dat ⟨(.ptr t9),v0,(.pin 0 (.own (.pr (.own .sh) .sh)))⟩),(5,.dat ⟨(.sl t4),v5,(.own .sh)⟩),(8,.dat ⟨(.int .i64),v8,.sh⟩),(9,.dat ⟨(.int .i64),v9,.sh⟩)])
noncomputable def yS (v0:d87) (v3:Int) (p:List Nat:=[1,0,1,0]):Option d90:=zS EE R L 281 Go.Proofs.Tryz.f281 p (mk 35 [(0,.dat ⟨(.ptr t24),v0,(.pin 0 (.own (.pr (.own .sh) .sh)))⟩),(3,.dat ⟨(.int .i64),v3,.sh⟩)])
noncomputable def wZ (v4:d87) (v5:List d69) (v6:Int) (p:List Nat:=[1,1,1,0,1,0]):Option d77:=zS EE R L 218 Go.Proofs.Tryz.f218 p (mk 37 [(4,.dat ⟨(.ptr t24),v4,(.own (.pr (.own .sh) .sh))⟩),(5,.dat ⟨(.sl t4),v5,(.own .sh)⟩),(6,.dat ⟨(.int .i64),v6,.sh⟩)])
noncomputable def uG (v1:List UInt8) (v2 v4 v5:List Int) (v6:Int) (p:List Nat:=[1,1,0,1,0]):Option d68:=zS EE R L 304 Go.Proofs.Tryz.f304 p (mk 194 [(1,.dat ⟨.str,v1,.sh⟩),(2,.dat ⟨(.ptr t30),v2,(.own .sh)⟩),(4,.dat ⟨(.ptr t30),v4,(.own .sh)⟩),(5,.dat ⟨(.ptr t34),v5,(.own .sh)⟩),(6,.dat ⟨(.int .i64),v6,.sh⟩)])
noncomputable def xP (v2 v4 v5:List Int) (v7:Int) (p:List Nat:=[1,1,1,0,1,0]):Option d68:=zS EE R L 304 Go.Proofs.Tryz.f304 p (mk 194 [(2,.dat ⟨(.ptr t30),v2,(.own .sh)⟩),(4,.dat ⟨(.ptr t30),v4,(.own .sh)⟩),(5,.dat ⟨(.ptr t34),v5,(.own .sh)⟩),(7,.dat ⟨(.int .i64),v7,.sh⟩)])
noncomputable def wB (v2 v4 v5 v10 v11:List Int) (v12:Int) (p:List Nat:=[1,1,1,1,1,1,0,1,0]):Option d68:=zS EE R L 304 Go.Proofs.Tryz.f304 p (mk 194 [(2,.dat ⟨(.ptr t30),v2,(.own .sh)⟩),(4,.dat ⟨(.ptr t30),v4,(.own .sh)⟩),(5,.dat ⟨(.ptr t34),v5,(.own .sh)⟩),(10,.dat ⟨(.ptr t34),v10,(.own .sh)⟩),(11,.dat ⟨(.ptr t30),v11,(.own .sh)⟩),(12,.dat ⟨(.int .i64),v12,.sh⟩)])
noncomputable def wM (v2 v4 v11:List Int) (v18:Int) (p:List Nat:=[1,1,1,1,1,1,1,0,1,0]):Option d68:=zS EE R L 304 Go.Proofs.Tryz.f304 p (mk 194 [(2,.dat ⟨(.ptr t30),v2,(.own .sh)⟩),(4,.dat ⟨(.ptr t30),v4,(.own .sh)⟩),(11,.dat ⟨(.ptr t30),v11,(.own .sh)⟩),(18,.dat ⟨(.int .i64),v18,.sh⟩)])
noncomputable def qN (v2 v4:d91) (p:List Nat:=[1,1,1,0,0]):Option d92:=zS EE R L 249 Go.Proofs.Tryz.f249 p (mk 31 [(2,.dat ⟨(.ptr t32),v2,(.own .sh)⟩),(4,.dat ⟨(.ptr t32),v4,(.own .sh)⟩)])
noncomputable def oE (v1:d91) (v3:Int) (v4:List Int) (p:List Nat:=[1,1,1,0,0]):Option d93:=zS EE R L 248 Go.Proofs.Tryz.f248 p (mk 61 [(1,.dat ⟨(.ptr t32),v1,(.own .sh)⟩),(3,.dat ⟨(.int .i64),v3,.sh⟩),(4,.dat ⟨t28,v4,(.own .sh)⟩)])
noncomputable def vQ (v1:d91) (v3:Int) (v4:List Int) (v5:Int) (p:List Nat:=[1,1,1,1,0,1,0]):Option d93:=zS EE R L 248 Go.Proofs.Tryz.f248 p (mk 61 [(1,.dat ⟨(.ptr t32),v1,(.own .sh)⟩),(3,.dat ⟨(.int .i64),v3,.sh⟩),(4,.dat ⟨t28,v4,(.own .sh)⟩),(5,.dat ⟨(.int .i64),v5,.sh⟩)])
noncomputable def vM (v1:d91) (v6:List Int) (v7:Int) (p:List Nat:=[1,1,1,1,1,1,1,0,1,0]):Option d93:=zS EE R L 248 Go.Proofs.Tryz.f248 p (mk 61 [(1,.dat ⟨(.ptr t32),v1,(.own .sh)⟩),(6,.dat ⟨t28,v6,(.own .sh)⟩),(7,.dat ⟨(.int .i64),v7,.sh⟩)])
noncomputable def tX (v1:d91) (v6:List Int) (v7 v8:Int) (p:List Nat:=[1,1,1,1,1,1,1,0,1,0,0,1,0,0,1,0]):Option d93:=zS EE R L 248 Go.Proofs.Tryz.f248 p (mk 61 [(1,.dat ⟨(.ptr t32),v1,(.own .sh)⟩),(6,.dat ⟨t28,v6,(.own .sh)⟩),(7,.dat ⟨(.int .i64),v7,.sh⟩),(8,.dat ⟨(.int .i64),v8,.sh⟩)])
noncomputable def xB (v0:d91) (v1:List UInt8) (v2 v6:List Int) (v25:Int) (p:List Nat:=[1,0,1,0]):Option d92:=zS EE R L 310 Go.Proofs.Tryz.f310 p (mk 215 [(0,.dat ⟨(.ptr t32),v0,(.pin 0 (.own .sh))⟩),(1,.dat ⟨.str,v1,.sh⟩),(2,.dat ⟨(.ptr t37),v2,.sh⟩),(6,.dat ⟨(.ptr t37),v6,(.own .sh)⟩),(25,.dat ⟨(.int .i64),v25,.sh⟩)])
noncomputable def zU (v0:d91) (v2 v6:List Int) (v8:Int) (p:List Nat:=[1,1,0,1,0]):Option d92:=zS EE R L 310 Go.Proofs.Tryz.f310 p (mk 215 [(0,.dat ⟨(.ptr t32),v0,(.pin 0 (.own .sh))⟩),(2,.dat ⟨(.ptr t37),v2,.sh⟩),(6,.dat ⟨(.ptr t37),v6,(.own .sh)⟩),(8,.dat ⟨(.int .i64),v8,.sh⟩)])
noncomputable def zW (v0:d91) (v2 v6 v11 v104:List Int) (v105:Int) (p:List Nat:=[1,1,1,1,0,1,0]):Option d92:=zS EE R L 310 Go.Proofs.Tryz.f310 p (mk 215 [(0,.dat ⟨(.ptr t32),v0,(.pin 0 (.own .sh))⟩),(2,.dat ⟨(.ptr t37),v2,.sh⟩),(6,.dat ⟨(.ptr t37),v6,(.own .sh)⟩),(11,.dat ⟨(.ptr Bp1),v11,(.own .sh)⟩),(104,.dat ⟨t30,v104,.sh⟩),(105,.dat ⟨(.int .i64),v105,.sh⟩)])
noncomputable def yI (v0:d91) (v2 v6 v11:List Int) (v114:Int) (p:List Nat:=[1,1,1,1,1,0,1,0]):Option d92:=zS EE R L 310 Go.Proofs.Tryz.f310 p (mk 215 [(0,.dat ⟨(.ptr t32),v0,(.pin 0 (.own .sh))⟩),(2,.dat ⟨(.ptr t37),v2,.sh⟩),(6,.dat ⟨(.ptr t37),v6,(.own .sh)⟩),(11,.dat ⟨(.ptr Bp1),v11,(.own .sh)⟩),(114,.dat ⟨(.int .i64),v114,.sh⟩)])
noncomputable def yH (v0:d91) (v194:List Int) (v195:Int) (p:List Nat:=[1,1,1,1,1,1,1,0]):Option d92:=zS EE R L 310 Go.Proofs.Tryz.f310 p (mk 215 [(0,.dat ⟨(.ptr t32),v0,(.pin 0 (.own .sh))⟩),(194,.dat ⟨Bp1,v194,.sh⟩),(195,.dat ⟨(.int .i64),v195,.sh⟩)])
noncomputable def sM (v1:List UInt8) (v2 v4:d91) (v5:List Int) (p:List Nat:=[1,1,1,1,0,0]):Option d92:=zS EE R L 258 Go.Proofs.Tryz.f258 p (mk 28 [(1,.dat ⟨.str,v1,.sh⟩),(2,.dat ⟨(.ptr t32),v2,(.own .sh)⟩),(4,.dat ⟨(.ptr t32),v4,(.own .sh)⟩),(5,.dat ⟨(.ptr t37),v5,(.own .sh)⟩)])
noncomputable def xX (v1:d91) (v3:Int) (v4:List UInt8) (v5:Int) (p:List Nat:=[1,1,1,0,1,0]):Option d93:=zS EE R L 259 Go.Proofs.Tryz.f259 p (mk 56 [(1,.dat ⟨(.ptr t32),v1,(.own .sh)⟩),(3,.dat ⟨(.int .i64),v3,.sh⟩),(4,.dat ⟨.str,v4,.sh⟩),(5,.dat ⟨(.int .i64),v5,.sh⟩)])
noncomputable def vH (v6 v35:List Int) (v36:Int) (p:List Nat:=[1,1,1,1,1,0,1,0]):Option d93:=zS EE R L 259 Go.Proofs.Tryz.f259 p (mk 56 [(6,.dat ⟨t28,v6,(.own .sh)⟩),(35,.dat ⟨t30,v35,.sh⟩),(36,.dat ⟨(.int .i64),v36,.sh⟩)])
noncomputable def sW (v0:Int) (v5:List Int) (v7 v8:Int) (p:List Nat:=[1,1,0,1,0]):Option d93:=zS EE R L 139 Go.Proofs.Tryz.f139 p (mk 22 [(0,.dat ⟨(.int .i64),v0,.sh⟩),(5,.dat ⟨t28,v5,(.own .sh)⟩),(7,.dat ⟨(.int .i64),v7,.sh⟩),(8,.dat ⟨(.int .i64),v8,.sh⟩)])
noncomputable def tY (v0 v1 v2 v3:Int) (v16:List (List Int)) (v17:Int) (p:List Nat:=[1,0,1,0]):Option d94:=zS EE R L 354 Go.Proofs.Tryz.f354 p (mk 43 [(0,.dat ⟨(.int .u32),v0,.sh⟩),(1,.dat ⟨(.int .u32),v1,.sh⟩),(2,.dat ⟨(.int .u32),v2,.sh⟩),(3,.dat ⟨(.int .u32),v3,.sh⟩),(16,.dat ⟨Bv3,v16,.sh⟩),(17,.dat ⟨(.int .i64),v17,.sh⟩)])
noncomputable def tW (v7:List UInt8) (v8 v9:List Int) (v25:Int) (p:List Nat:=[1,1,1,0,1,0]):Option d93:=zS EE R L 322 Go.Proofs.Tryz.f322 p (mk 111 [(7,.dat ⟨.str,v7,.sh⟩),(8,.dat ⟨(.ptr BF7),v8,(.own .sh)⟩),(9,.dat ⟨(.ptr BF7),v9,(.own .sh)⟩),(25,.dat ⟨(.int .i64),v25,.sh⟩)])
noncomputable def uH (v8 v9:List Int) (v41:Int) (p:List Nat:=[1,1,1,1,0,1,0]):Option d93:=zS EE R L 322 Go.Proofs.Tryz.f322 p (mk 111 [(8,.dat ⟨(.ptr BF7),v8,(.own .sh)⟩),(9,.dat ⟨(.ptr BF7),v9,(.own .sh)⟩),(41,.dat ⟨(.int .i64),v41,.sh⟩)])
noncomputable def mT (v8 v9:List Int) (v41 v43:Int) (p:List Nat:=[1,1,1,1,0,1,0,0,1,1,0,0,1,0]):Option d93:=zS EE R L 322 Go.Proofs.Tryz.f322 p (mk 111 [(8,.dat ⟨(.ptr BF7),v8,(.own .sh)⟩),(9,.dat ⟨(.ptr BF7),v9,(.own .sh)⟩),(41,.dat ⟨(.int .i64),v41,.sh⟩),(43,.dat ⟨(.int .i64),v43,.sh⟩)])
noncomputable def uR (v8 v9:List Int) (v16:List UInt8) (v95:Int) (p:List Nat:=[1,1,1,1,1,1,0,1,0]):Option d93:=zS EE R L 322 Go.Proofs.Tryz.f322 p (mk 111 [(8,.dat ⟨(.ptr BF7),v8,(.own .sh)⟩),(9,.dat ⟨(.ptr BF7),v9,(.own .sh)⟩),(16,.dat ⟨.str,v16,.sh⟩),(95,.dat ⟨(.int .i64),v95,.sh⟩)])
noncomputable def rB (v8 v9:List Int) (v11 v41 v43 v46:Int) (p:List Nat:=[1,1,1,1,0,1,0,0,1,1,0,0,1,0,0,1,1,0,0,1,1,0]):Option d93:=zS EE R L 322 Go.Proofs.Tryz.f322 p (mk 111 [(8,.dat ⟨(.ptr BF7),v8,(.own .sh)⟩),(9,.dat ⟨(.ptr BF7),v9,(.own .sh)⟩),(11,.dat ⟨(.int .i64),v11,.sh⟩),(41,.dat ⟨(.int .i64),v41,.sh⟩),(43,.dat ⟨(.int .i64),v43,.sh⟩),(46,.dat ⟨(.int .i64),v46,.sh⟩)])
noncomputable def uS (v0 v1:List UInt8) (v2:Int) (v7:List Int) (v8:Int) (p:List Nat:=[1,1,0,1,0]):Option d93:=zS EE R L 349 Go.Proofs.Tryz.f349 p (mk 105 [(0,.dat ⟨.str,v0,.sh⟩),(1,.dat ⟨.str,v1,.sh⟩),(2,.dat ⟨(.int .i64),v2,.sh⟩),(7,.dat ⟨(.ptr t44),v7,(.own .sh)⟩),(8,.dat ⟨(.int .i64),v8,.sh⟩)])
noncomputable def wP (v0 v1:List UInt8) (v2:Int) (v7:List Int) (v9:Int) (p:List Nat:=[1,1,1,0,1,0]):Option d93:=zS EE R L 349 Go.Proofs.Tryz.f349 p (mk 105 [(0,.dat ⟨.str,v0,.sh⟩),(1,.dat ⟨.str,v1,.sh⟩),(2,.dat ⟨(.int .i64),v2,.sh⟩),(7,.dat ⟨(.ptr t44),v7,(.own .sh)⟩),(9,.dat ⟨(.int .i64),v9,.sh⟩)])
noncomputable def wO (v1:List UInt8) (v7:List Int) (v10:Int) (p:List Nat:=[1,1,1,1,1,0,1,0]):Option d93:=zS EE R L 349 Go.Proofs.Tryz.f349 p (mk 105 [(1,.dat ⟨.str,v1,.sh⟩),(7,.dat ⟨(.ptr t44),v7,(.own .sh)⟩),(10,.dat ⟨(.int .i64),v10,.sh⟩)])
noncomputable def xC (v7 v11:List Int) (v12:Int) (p:List Nat:=[1,1,1,1,1,1,1,0,1,0]):Option d93:=zS EE R L 349 Go.Proofs.Tryz.f349 p (mk 105 [(7,.dat ⟨(.ptr t44),v7,(.own .sh)⟩),(11,.dat ⟨(.ptr t44),v11,(.own .sh)⟩),(12,.dat ⟨(.int .i64),v12,.sh⟩)])
noncomputable def uI (v7 v11:List Int) (v12 v13:Int) (p:List Nat:=[1,1,1,1,1,1,1,0,1,0,0,1,0,0,0,1,0]):Option d93:=zS EE R L 349 Go.Proofs.Tryz.f349 p (mk 105 [(7,.dat ⟨(.ptr t44),v7,(.own .sh)⟩),(11,.dat ⟨(.ptr t44),v11,(.own .sh)⟩),(12,.dat ⟨(.int .i64),v12,.sh⟩),(13,.dat ⟨(.int .i64),v13,.sh⟩)])
noncomputable def wN (v7 v11 v15:List Int) (v16:Int) (p:List Nat:=[1,1,1,1,1,1,1,1,1,0,1,0]):Option d93:=zS EE R L 349 Go.Proofs.Tryz.f349 p (mk 105 [(7,.dat ⟨(.ptr t44),v7,(.own .sh)⟩),(11,.dat ⟨(.ptr t44),v11,(.own .sh)⟩),(15,.dat ⟨t28,v15,(.own .sh)⟩),(16,.dat ⟨(.int .i64),v16,.sh⟩)])
noncomputable def wQ (v7 v11:List Int) (v12 v14:Int) (p:List Nat:=[1,1,1,1,1,1,1,0,1,0,0,1,0,0,1,1,0]):Option d93:=zS EE R L 349 Go.Proofs.Tryz.f349 p (mk 105 [(7,.dat ⟨(.ptr t44),v7,(.own .sh)⟩),(11,.dat ⟨(.ptr t44),v11,(.own .sh)⟩),(12,.dat ⟨(.int .i64),v12,.sh⟩),(14,.dat ⟨(.int .i64),v14,.sh⟩)])
noncomputable def kF (v1:List UInt8) (v5:List Int) (v10 v11:Int) (p:List Nat:=[1,1,0,1,0]):Option d93:=zS EE R L 321 Go.Proofs.Tryz.f321 p (mk 26 [(1,.dat ⟨.str,v1,.sh⟩),(5,.dat ⟨t28,v5,(.own .sh)⟩),(10,.dat ⟨(.int .i64),v10,.sh⟩),(11,.dat ⟨(.int .i64),v11,.sh⟩)])
noncomputable def sX (v0 v1:List UInt8) (v2:Int) (v3:List UInt8) (v9:List Int) (v10:List UInt8) (v11:Int) (p:List Nat:=[1,1,1,0,1,0]):Option d93:=zS EE R L 313 Go.Proofs.Tryz.f313 p (mk 42 [(0,.dat ⟨.str,v0,.sh⟩),(1,.dat ⟨.str,v1,.sh⟩),(2,.dat ⟨(.int .i64),v2,.sh⟩),(3,.dat ⟨.str,v3,.sh⟩),(9,.dat ⟨t28,v9,(.own .sh)⟩),(10,.dat ⟨.str,v10,.sh⟩),(11,.dat ⟨(.int .i64),v11,.sh⟩)])
noncomputable def vP (v0:List (List UInt8)) (v1 v4 v5:Int) (p:List Nat:=[1,1,1,0,1,0]):Option d67:=zS EE R L 122 Go.Proofs.Tryz.f122 p (mk 28 [(0,.dat ⟨(.sl .str),v0,.sh⟩),(1,.dat ⟨(.int .i64),v1,.sh⟩),(4,.dat ⟨(.int .i64),v4,.sh⟩),(5,.dat ⟨(.int .i64),v5,.sh⟩)])
noncomputable def pP (v0:List d79) (v1 v4 v5:Int) (p:List Nat:=[1,1,1,0,1,0]):Option d67:=zS EE R L 123 Go.Proofs.Tryz.f123 p (mk 27 [(0,.dat ⟨(.sl t16),v0,.sh⟩),(1,.dat ⟨(.int .i64),v1,.sh⟩),(4,.dat ⟨(.int .i64),v4,.sh⟩),(5,.dat ⟨(.int .i64),v5,.sh⟩)])
noncomputable def uX (v0 v2 v3:List (List UInt8)) (v4:Int) (p:List Nat:=[1,1,0,1,0]):Option d96:=zS EE R L 132 Go.Proofs.Tryz.f132 p (mk 22 [(0,.dat ⟨(.sl .str),v0,.sh⟩),(2,.dat ⟨(.sl .str),v2,(.own .sh)⟩),(3,.dat ⟨(.sl .str),v3,(.own .sh)⟩),(4,.dat ⟨(.int .i64),v4,.sh⟩)])
noncomputable def pO (v0 v2 v3:List d79) (v4:Int) (p:List Nat:=[1,1,0,1,0]):Option d98:=zS EE R L 133 Go.Proofs.Tryz.f133 p (mk 23 [(0,.dat ⟨(.sl t16),v0,.sh⟩),(2,.dat ⟨(.sl t16),v2,(.own .sh)⟩),(3,.dat ⟨(.sl t16),v3,(.own .sh)⟩),(4,.dat ⟨(.int .i64),v4,.sh⟩)])
noncomputable def qA (v0:List Int) (v3:Int) (p:List Nat:=[1,0,1,0]):Option d66:=zS EE R L 44 Go.Proofs.Tryz.f44 p (mk 16 [(0,.dat ⟨t1,v0,.sh⟩),(3,.dat ⟨(.int .i64),v3,.sh⟩)])
noncomputable def pH (v0 v1:d80) (v2:Bool) (v3:Int) (p:List Nat:=[1,1,0,1,0]):Option d66:=zS EE R L 152 Go.Proofs.Tryz.f152 p (mk 54 [(0,.dat ⟨t17,v0,.sh⟩),(1,.dat ⟨(.ptr t17),v1,(.own .sh)⟩),(2,.dat ⟨.bool,v2,.sh⟩),(3,.dat ⟨(.int .i64),v3,.sh⟩)])
noncomputable def pG (v0 v1:d80) (v2:Bool) (v3 v4:Int) (p:List Nat:=[1,1,1,0,1,0]):Option d66:=zS EE R L 152 Go.Proofs.Tryz.f152 p (mk 54 [(0,.dat ⟨t17,v0,.sh⟩),(1,.dat ⟨(.ptr t17),v1,(.own .sh)⟩),(2,.dat ⟨.bool,v2,.sh⟩),(3,.dat ⟨(.int .i64),v3,.sh⟩),(4,.dat ⟨(.int .i64),v4,.sh⟩)])
noncomputable def sD (v0:Int) (v3:List Int) (v4:Int) (p:List Nat:=[1,1,0,1,0]):Option d93:=zS EE R L 312 Go.Proofs.Tryz.f312 p (mk 20 [(0,.dat ⟨(.int .i64),v0,.sh⟩),(3,.dat ⟨t28,v3,(.own .sh)⟩),(4,.dat ⟨(.int .i64),v4,.sh⟩)])
noncomputable def jI (v0:List UInt8) (p:List Nat:=[1,0,0]):Option d93:=zS EE R L 351 Go.Proofs.Tryz.f351 p (mk 10 [(0,.dat ⟨.str,v0,.sh⟩)])
noncomputable def uK (v3:List Int) (v4:Int) (p:List Nat:=[1,1,0,1,0]):Option d93:=zS EE R L 374 Go.Proofs.Tryz.f374 p (mk 31 [(3,.dat ⟨t28,v3,(.own .sh)⟩),(4,.dat ⟨(.int .i64),v4,.sh⟩)])
noncomputable def uT (v3:List Int) (v5:Int) (p:List Nat:=[1,1,1,0,1,0]):Option d93:=zS EE R L 374 Go.Proofs.Tryz.f374 p (mk 31 [(3,.dat ⟨t28,v3,(.own .sh)⟩),(5,.dat ⟨(.int .i64),v5,.sh⟩)])
noncomputable def vL (v0:List UInt8) (v2 v3:List Int) (v4:Int) (p:List Nat:=[1,1,0,1,0]):Option d68:=zS EE R L 373 Go.Proofs.Tryz.f373 p (mk 50 [(0,.dat ⟨.str,v0,.sh⟩),(2,.dat ⟨(.ptr t52),v2,(.own .sh)⟩),(3,.dat ⟨(.ptr t52),v3,(.own .sh)⟩),(4,.dat ⟨(.int .i64),v4,.sh⟩)])
noncomputable def pD (v1 v2:List Int) (v3:Int) (p:List Nat:=[1,0,1,0]):Option d68:=zS EE R L 377 Go.Proofs.Tryz.f377 p (mk 41 [(1,.dat ⟨(.ptr t52),v1,(.own .sh)⟩),(2,.dat ⟨(.ptr t52),v2,(.own .sh)⟩),(3,.dat ⟨(.int .i64),v3,.sh⟩)])
noncomputable def uO (v1 v2:List Int) (v3 v4:Int) (p:List Nat:=[1,0,1,0,0,1,0,0,0,1,0]):Option d68:=zS EE R L 377 Go.Proofs.Tryz.f377 p (mk 41 [(1,.dat ⟨(.ptr t52),v1,(.own .sh)⟩),(2,.dat ⟨(.ptr t52),v2,(.own .sh)⟩),(3,.dat ⟨(.int .i64),v3,.sh⟩),(4,.dat ⟨(.int .i64),v4,.sh⟩)])
noncomputable def vJ (v2 v3 v4 v5:List Int) (v6:Int) (p:List Nat:=[1,1,0,1,0]):Option d68:=zS EE R L 375 Go.Proofs.Tryz.f375 p (mk 42 [(2,.dat ⟨(.ptr t52),v2,(.own .sh)⟩),(3,.dat ⟨(.ptr t52),v3,(.own .sh)⟩),(4,.dat ⟨(.ptr t52),v4,(.own .sh)⟩),(5,.dat ⟨(.ptr t52),v5,(.own .sh)⟩),(6,.dat ⟨(.int .i64),v6,.sh⟩)])
noncomputable def vG (v2 v3 v4 v5:List Int) (v6 v7:Int) (p:List Nat:=[1,1,0,1,0,0,1,0,0,1,0]):Option d68:=zS EE R L 375 Go.Proofs.Tryz.f375 p (mk 42 [(2,.dat ⟨(.ptr t52),v2,(.own .sh)⟩),(3,.dat ⟨(.ptr t52),v3,(.own .sh)⟩),(4,.dat ⟨(.ptr t52),v4,(.own .sh)⟩),(5,.dat ⟨(.ptr t52),v5,(.own .sh)⟩),(6,.dat ⟨(.int .i64),v6,.sh⟩),(7,.dat ⟨(.int .i64),v7,.sh⟩)])
noncomputable def rF (v1 v2 v3:List Int) (v4:Int) (p:List Nat:=[1,1,1,0,1,0]):Option d68:=zS EE R L 376 Go.Proofs.Tryz.f376 p (mk 39 [(1,.dat ⟨(.ptr t52),v1,(.own .sh)⟩),(2,.dat ⟨(.ptr t52),v2,(.own .sh)⟩),(3,.dat ⟨(.ptr t52),v3,(.own .sh)⟩),(4,.dat ⟨(.int .i64),v4,.sh⟩)])
noncomputable def rA (v0 v1:List UInt8) (v5 v6:List Int) (v7:Int) (p:List Nat:=[1,1,1,0,1,0]):Option d93:=zS EE R L 350 Go.Proofs.Tryz.f350 p (mk 108 [(0,.dat ⟨.str,v0,.sh⟩),(1,.dat ⟨.str,v1,.sh⟩),(5,.dat ⟨(.ptr t52),v5,(.own .sh)⟩),(6,.dat ⟨(.ptr t52),v6,(.own .sh)⟩),(7,.dat ⟨(.int .i64),v7,.sh⟩)])
noncomputable def oA (v0 v1:List UInt8) (v5 v6:List Int) (v7:Int) (v8:List UInt8) (p:List Nat:=[1,1,1,0,1,0,0,1,0,0,1,0,0]):Option d93:=zS EE R L 350 Go.Proofs.Tryz.f350 p (mk 108 [(0,.dat ⟨.str,v0,.sh⟩),(1,.dat ⟨.str,v1,.sh⟩),(5,.dat ⟨(.ptr t52),v5,(.own .sh)⟩),(6,.dat ⟨(.ptr t52),v6,(.own .sh)⟩),(7,.dat ⟨(.int .i64),v7,.sh⟩),(8,.dat ⟨.str,v8,.sh⟩)])
noncomputable def uN (v0:List UInt8) (v6 v11:List Int) (v12 v13:Int) (p:List Nat:=[1,1,1,1,1,1,1,0,1,0]):Option d93:=zS EE R L 350 Go.Proofs.Tryz.f350 p (mk 108 [(0,.dat ⟨.str,v0,.sh⟩),(6,.dat ⟨(.ptr t52),v6,(.own .sh)⟩),(11,.dat ⟨t28,v11,(.own .sh)⟩),(12,.dat ⟨(.int .i64),v12,.sh⟩),(13,.dat ⟨(.int .i64),v13,.sh⟩)])
noncomputable def tV (v0 v1:List UInt8) (v5 v6:List Int) (v7:Int) (v9:List Int) (v10:Int) (p:List Nat:=[1,1,1,0,1,0,0,1,0,0,1,1,1,0,1,0]):Option d93:=zS EE R L 350 Go.Proofs.Tryz.f350 p (mk 108 [(0,.dat ⟨.str,v0,.sh⟩),(1,.dat ⟨.str,v1,.sh⟩),(5,.dat ⟨(.ptr t52),v5,(.own .sh)⟩),(6,.dat ⟨(.ptr t52),v6,(.own .sh)⟩),(7,.dat ⟨(.int .i64),v7,.sh⟩),(9,.dat ⟨(.ptr t52),v9,(.own .sh)⟩),(10,.dat ⟨(.int .i64),v10,.sh⟩)])
noncomputable def wT (v0:List (List UInt8)) (v1:FnVal) (v4 v7 v8:Int) (p:List Nat:=[1,0,1,0]):Option d67:=zS EE R L 308 Go.Proofs.Tryz.f308 p (mk 19 [(0,.dat ⟨(.sl .str),v0,.sh⟩),(1,.dat ⟨.fn,v1,.sh⟩),(4,.dat ⟨(.int .i64),v4,.sh⟩),(7,.dat ⟨(.int .i64),v7,.sh⟩),(8,.dat ⟨(.int .i64),v8,.sh⟩)])
noncomputable def zG (v0:List (List UInt8)) (v1:FnVal) (v4 v5 v7 v8:Int) (p:List Nat:=[1,0,1,0]):Option d67:=zS EE R L 308 Go.Proofs.Tryz.f308 p (mk 19 [(0,.dat ⟨(.sl .str),v0,.sh⟩),(1,.dat ⟨.fn,v1,.sh⟩),(4,.dat ⟨(.int .i64),v4,.sh⟩),(5,.dat ⟨(.int .i64),v5,.sh⟩),(7,.dat ⟨(.int .i64),v7,.sh⟩),(8,.dat ⟨(.int .i64),v8,.sh⟩)])
noncomputable def uD (v0:List d79) (v1:FnVal) (v4 v7 v8:Int) (p:List Nat:=[1,0,1,0]):Option d67:=zS EE R L 363 Go.Proofs.Tryz.f363 p (mk 19 [(0,.dat ⟨(.sl t16),v0,.sh⟩),(1,.dat ⟨.fn,v1,.sh⟩),(4,.dat ⟨(.int .i64),v4,.sh⟩),(7,.dat ⟨(.int .i64),v7,.sh⟩),(8,.dat ⟨(.int .i64),v8,.sh⟩)])
noncomputable def zK (v0:List d79) (v1:FnVal) (v4 v5 v7 v8:Int) (p:List Nat:=[1,0,1,0]):Option d67:=zS EE R L 363 Go.Proofs.Tryz.f363 p (mk 19 [(0,.dat ⟨(.sl t16),v0,.sh⟩),(1,.dat ⟨.fn,v1,.sh⟩),(4,.dat ⟨(.int .i64),v4,.sh⟩),(5,.dat ⟨(.int .i64),v5,.sh⟩),(7,.dat ⟨(.int .i64),v7,.sh⟩),(8,.dat ⟨(.int .i64),v8,.sh⟩)])
noncomputable def tZ (v3:List Int) (v4:Int) (p:List Nat:=[1,1,0,1,0]):Option d93:=zS EE R L 356 Go.Proofs.Tryz.f356 p (mk 31 [(3,.dat ⟨t28,v3,(.own .sh)⟩),(4,.dat ⟨(.int .i64),v4,.sh⟩)])
noncomputable def tT (v3:List Int) (v5:Int) (p:List Nat:=[1,1,1,0,1,0]):Option d93:=zS EE R L 356 Go.Proofs.Tryz.f356 p (mk 31 [(3,.dat ⟨t28,v3,(.own .sh)⟩),(5,.dat ⟨(.int .i64),v5,.sh⟩)])
noncomputable def wR (v2 v3 v9:List Int) (v10 v11:Int) (p:List Nat:=[1,1,0,1,0]):Option d68:=zS EE R L 355 Go.Proofs.Tryz.f355 p (mk 40 [(2,.dat ⟨(.ptr t54),v2,(.own .sh)⟩),(3,.dat ⟨(.ptr t54),v3,(.own .sh)⟩),(9,.dat ⟨t28,v9,(.own .sh)⟩),(10,.dat ⟨(.int .i64),v10,.sh⟩),(11,.dat ⟨(.int .i64),v11,.sh⟩)])
noncomputable def vI (v2 v3:List Int) (v4 v5:Int) (v9:List Int) (v10 v11 v16:Int) (p:List Nat:=[1,1,0,1,0,0,1,1,0,0,1,1,0]):Option d68:=zS EE R L 355 Go.Proofs.Tryz.f355 p (mk 40 [(2,.dat ⟨(.ptr t54),v2,(.own .sh)⟩),(3,.dat ⟨(.ptr t54),v3,(.own .sh)⟩),(4,.dat ⟨(.int .i64),v4,.sh⟩),(5,.dat ⟨(.int .u8),v5,.sh⟩),(9,.dat ⟨t28,v9,(.own .sh)⟩),(10,.dat ⟨(.int .i64),v10,.sh⟩),(11,.dat ⟨(.int .i64),v11,.sh⟩),(16,.dat ⟨(.int .i64),v16,.sh⟩)])
noncomputable def uV (v1 v2:List Int) (v5:Int) (p:List Nat:=[1,0,1,0]):Option d68:=zS EE R L 379 Go.Proofs.Tryz.f379 p (mk 34 [(1,.dat ⟨(.ptr t54),v1,(.own .sh)⟩),(2,.dat ⟨(.ptr t54),v2,(.own .sh)⟩),(5,.dat ⟨(.int .i64),v5,.sh⟩)])
noncomputable def xN (v1 v2:List Int) (v3 v5 v7:Int) (p:List Nat:=[1,0,1,0,0,1,1,0,0,1,0,1,0]):Option d68:=zS EE R L 379 Go.Proofs.Tryz.f379 p (mk 34 [(1,.dat ⟨(.ptr t54),v1,(.own .sh)⟩),(2,.dat ⟨(.ptr t54),v2,(.own .sh)⟩),(3,.dat ⟨(.int .u64),v3,.sh⟩),(5,.dat ⟨(.int .i64),v5,.sh⟩),(7,.dat ⟨(.int .i64),v7,.sh⟩)])
noncomputable def vV (v2 v3 v4:List Int) (v6:Int) (p:List Nat:=[1,0,1,0]):Option d68:=zS EE R L 357 Go.Proofs.Tryz.f357 p (mk 20 [(2,.dat ⟨(.ptr t54),v2,(.own .sh)⟩),(3,.dat ⟨(.ptr t54),v3,(.own .sh)⟩),(4,.dat ⟨(.ptr t54),v4,(.own .sh)⟩),(6,.dat ⟨(.int .i64),v6,.sh⟩)])
noncomputable def xU (v3 v4 v5 v10:List Int) (v11:Int) (p:List Nat:=[1,1,0,1,0]):Option d68:=zS EE R L 358 Go.Proofs.Tryz.f358 p (mk 50 [(3,.dat ⟨(.ptr t54),v3,(.own .sh)⟩),(4,.dat ⟨(.ptr t54),v4,(.own .sh)⟩),(5,.dat ⟨(.ptr t54),v5,(.own .sh)⟩),(10,.dat ⟨t54,v10,.sh⟩),(11,.dat ⟨(.int .i64),v11,.sh⟩)])
noncomputable def xV (v3 v4 v5:List Int) (v6 v7:Int) (v10:List Int) (v11:Int) (v15:List Int) (v16:Int) (p:List Nat:=[1,1,0,1,0,0,1,1,0,0,1,1,0]):Option d68:=zS EE R L 358 Go.Proofs.Tryz.f358 p (mk 50 [(3,.dat ⟨(.ptr t54),v3,(.own .sh)⟩),(4,.dat ⟨(.ptr t54),v4,(.own .sh)⟩),(5,.dat ⟨(.ptr t54),v5,(.own .sh)⟩),(6,.dat ⟨(.int .i64),v6,.sh⟩),(7,.dat ⟨(.int .u64),v7,.sh⟩),(10,.dat ⟨t54,v10,.sh⟩),(11,.dat ⟨(.int .i64),v11,.sh⟩),(15,.dat ⟨t54,v15,.sh⟩),(16,.dat ⟨(.int .i64),v16,.sh⟩)])
noncomputable def xM (v1 v2 v3:List Int) (v4:Int) (p:List Nat:=[1,1,1,0,1,0]):Option d68:=zS EE R L 359 Go.Proofs.Tryz.f359 p (mk 41 [(1,.dat ⟨(.ptr t54),v1,(.own .sh)⟩),(2,.dat ⟨(.ptr t54),v2,(.own .sh)⟩),(3,.dat ⟨(.ptr t54),v3,(.own .sh)⟩),(4,.dat ⟨(.int .i64),v4,.sh⟩)])
noncomputable def zV (v1 v2 v3:List Int) (v28:Int) (p:List Nat:=[1,1,1,1,0,1,0]):Option d68:=zS EE R L 359 Go.Proofs.Tryz.f359 p (mk 41 [(1,.dat ⟨(.ptr t54),v1,(.own .sh)⟩),(2,.dat ⟨(.ptr t54),v2,(.own .sh)⟩),(3,.dat ⟨(.ptr t54),v3,(.own .sh)⟩),(28,.dat ⟨(.int .i64),v28,.sh⟩)])
noncomputable def xE (v1:List UInt8) (v2 v5:List Int) (v6 v13 v14:Int) (p:List Nat:=[1,1,1,0,1,0]):Option d93:=zS EE R L 360 Go.Proofs.Tryz.f360 p (mk 56 [(1,.dat ⟨.str,v1,.sh⟩),(2,.dat ⟨(.ptr t54),v2,(.own .sh)⟩),(5,.dat ⟨t28,v5,(.own .sh)⟩),(6,.dat ⟨(.int .i64),v6,.sh⟩),(13,.dat ⟨(.int .i64),v13,.sh⟩),(14,.dat ⟨(.int .i64),v14,.sh⟩)])
noncomputable def xT (v1:List UInt8) (v2 v5:List Int) (v6 v7 v8 v13 v14 v17:Int) (p:List Nat:=[1,1,1,0,1,0,0,1,1,0,0,1,1,0,1,0]):Option d93:=zS EE R L 360 Go.Proofs.Tryz.f360 p (mk 56 [(1,.dat ⟨.str,v1,.sh⟩),(2,.dat ⟨(.ptr t54),v2,(.own .sh)⟩),(5,.dat ⟨t28,v5,(.own .sh)⟩),(6,.dat ⟨(.int .i64),v6,.sh⟩),(7,.dat ⟨(.int .i64),v7,.sh⟩),(8,.dat ⟨(.int .i64),v8,.sh⟩),(13,.dat ⟨(.int .i64),v13,.sh⟩),(14,.dat ⟨(.int .i64),v14,.sh⟩),(17,.dat ⟨(.int .i64),v17,.sh⟩)])
noncomputable def jW (v0 v1:List UInt8) (v5 v6:List Int) (v7:Int) (p:List Nat:=[1,1,1,0,1,0]):Option d93:=zS EE R L 324 Go.Proofs.Tryz.f324 p (mk 36 [(0,.dat ⟨.str,v0,.sh⟩),(1,.dat ⟨.str,v1,.sh⟩),(5,.dat ⟨(.ptr t54),v5,(.own .sh)⟩),(6,.dat ⟨(.ptr t54),v6,(.own .sh)⟩),(7,.dat ⟨(.int .i64),v7,.sh⟩)])
noncomputable def uZ (v0 v1:List (List UInt8)) (v4:Bool) (v5:Int) (p:List Nat:=[1,1,0,1,0]):Option d66:=zS EE R L 114 Go.Proofs.Tryz.f114 p (mk 26 [(0,.dat ⟨(.sl .str),v0,.sh⟩),(1,.dat ⟨(.sl .str),v1,.sh⟩),(4,.dat ⟨.bool,v4,.sh⟩),(5,.dat ⟨(.int .i64),v5,.sh⟩)])
noncomputable def pQ (v0 v1:List d79) (v4:Bool) (v5:Int) (p:List Nat:=[1,1,0,1,0]):Option d66:=zS EE R L 115 Go.Proofs.Tryz.f115 p (mk 27 [(0,.dat ⟨(.sl t16),v0,.sh⟩),(1,.dat ⟨(.sl t16),v1,.sh⟩),(4,.dat ⟨.bool,v4,.sh⟩),(5,.dat ⟨(.int .i64),v5,.sh⟩)])
noncomputable def qZ (v0:Int) (v2 v3:List UInt8) (p:List Nat:=[1,1,1,0,0]):Option d93:=zS EE R L 193 Go.Proofs.Tryz.f193 p (mk 20 [(0,.dat ⟨(.int .i64),v0,.sh⟩),(2,.dat ⟨.str,v2,.sh⟩),(3,.dat ⟨.str,v3,.sh⟩)])
noncomputable def vC (v0:List (List UInt8)) (v1 v4 v5:Int) (p:List Nat:=[1,0,1,0]):Option Bt2:=zS EE R L 117 Go.Proofs.Tryz.f117 p (mk 20 [(0,.dat ⟨(.sl .str),v0,(.pin 0 (.own .sh))⟩),(1,.dat ⟨(.int .i64),v1,.sh⟩),(4,.dat ⟨(.int .i64),v4,.sh⟩),(5,.dat ⟨(.int .i64),v5,.sh⟩)])
noncomputable def rC (v0:List d79) (v1 v4 v5:Int) (p:List Nat:=[1,0,1,0]):Option Bt1:=zS EE R L 118 Go.Proofs.Tryz.f118 p (mk 28 [(0,.dat ⟨(.sl t16),v0,(.pin 0 (.own .sh))⟩),(1,.dat ⟨(.int .i64),v1,.sh⟩),(4,.dat ⟨(.int .i64),v4,.sh⟩),(5,.dat ⟨(.int .i64),v5,.sh⟩)])
noncomputable def vB (v0:List (List UInt8)) (v1 v4 v5:Int) (p:List Nat:=[1,0,1,0]):Option d67:=zS EE R L 119 Go.Proofs.Tryz.f119 p (mk 22 [(0,.dat ⟨(.sl .str),v0,.sh⟩),(1,.dat ⟨(.int .i64),v1,.sh⟩),(4,.dat ⟨(.int .i64),v4,.sh⟩),(5,.dat ⟨(.int .i64),v5,.sh⟩)])
noncomputable def rH (v0:List d79) (v1 v4 v5:Int) (p:List Nat:=[1,0,1,0]):Option d67:=zS EE R L 120 Go.Proofs.Tryz.f120 p (mk 32 [(0,.dat ⟨(.sl t16),v0,.sh⟩),(1,.dat ⟨(.int .i64),v1,.sh⟩),(4,.dat ⟨(.int .i64),v4,.sh⟩),(5,.dat ⟨(.int .i64),v5,.sh⟩)])
noncomputable def rY (v0 v3:List (List UInt8)) (v4:Int) (p:List Nat:=[1,1,0,1,0]):Option d96:=zS EE R L 251 Go.Proofs.Tryz.f251 p (mk 22 [(0,.dat ⟨(.sl .str),v0,.sh⟩),(3,.dat ⟨(.sl .str),v3,(.own .sh)⟩),(4,.dat ⟨(.int .i64),v4,.sh⟩)])
noncomputable def pA (v0 v3:List (List UInt8)) (v4:Int) (p:List Nat:=[1,1,0,1,0]):Option d96:=zS EE R L 252 Go.Proofs.Tryz.f252 p (mk 27 [(0,.dat ⟨(.sl .str),v0,.sh⟩),(3,.dat ⟨(.sl .str),v3,(.own .sh)⟩),(4,.dat ⟨(.int .i64),v4,.sh⟩)])
noncomputable def qL (v3:List (List UInt8)) (p:List Nat:=[1,1,0,0]):Option d93:=zS EE R L 182 Go.Proofs.Tryz.f182 p (mk 14 [(3,.dat ⟨(.sl .str),v3,(.own .sh)⟩)])
noncomputable def lV (v3 v9:List (List UInt8)) (v10 v11:Int) (p:List Nat:=[1,1,0,1,0]):Option Bn4:=zS EE R L 191 Go.Proofs.Tryz.f191 p (mk 53 [(3,.dat ⟨(.sl .str),v3,(.own .sh)⟩),(9,.dat ⟨(.sl .str),v9,.sh⟩),(10,.dat ⟨(.int .i64),v10,.sh⟩),(11,.dat ⟨(.int .i64),v11,.sh⟩)])
noncomputable def qP (v3:List (List UInt8)) (v6:List (List (List UInt8))) (p:List Nat:=[1,1,1,1,0,0]):Option Bn4:=zS EE R L 191 Go.Proofs.Tryz.f191 p (mk 53 [(3,.dat ⟨(.sl .str),v3,.sh⟩),(6,.dat ⟨t61,v6,(.own .sh)⟩)])
noncomputable def iI (v3:List (List UInt8)) (v6:List (List (List UInt8))) (v7:List (List UInt8)) (v8:Int) (p:List Nat:=[1,1,1,1,0,0,0,1,0,1,0,1,0]):Option Bn4:=zS EE R L 191 Go.Proofs.Tryz.f191 p (mk 53 [(3,.dat ⟨(.sl .str),v3,.sh⟩),(6,.dat ⟨t61,v6,(.own .sh)⟩),(7,.dat ⟨(.sl .str),v7,(.own .sh)⟩),(8,.dat ⟨(.int .i64),v8,.sh⟩)])
noncomputable def lG (v1:Int) (v2:d80) (v5:Int) (p:List Nat:=[1,0,1,0]):Option d93:=zS EE R L 215 Go.Proofs.Tryz.f215 p (mk 33 [(1,.dat ⟨(.int .i64),v1,.sh⟩),(2,.dat ⟨(.ptr t17),v2,(.own .sh)⟩),(5,.dat ⟨(.int .i64),v5,.sh⟩)])
noncomputable def qW (v0 v1:List UInt8) (v5 v6:Int) (p:List Nat:=[1,1,1,0,1,0]):Option d66:=zS EE R L 326 Go.Proofs.Tryz.f326 p (mk 46 [(0,.dat ⟨.str,v0,.sh⟩),(1,.dat ⟨.str,v1,.sh⟩),(5,.dat ⟨(.int .i64),v5,.sh⟩),(6,.dat ⟨(.int .i64),v6,.sh⟩)])
noncomputable def rZ (v0:List UInt8) (v4:List Int) (v5:Int) (p:List Nat:=[1,1,0,1,0]):Option Bt4:=zS EE R L 327 Go.Proofs.Tryz.f327 p (mk 25 [(0,.dat ⟨.str,v0,.sh⟩),(4,.dat ⟨t1,v4,(.own .sh)⟩),(5,.dat ⟨(.int .i64),v5,.sh⟩)])
noncomputable def pM (v0:List Int) (v1 v5:Int) (p:List Nat:=[1,0,1,0]):Option d66:=zS EE R L 284 Go.Proofs.Tryz.f284 p (mk 18 [(0,.dat ⟨t1,v0,.sh⟩),(1,.dat ⟨(.int .i64),v1,.sh⟩),(5,.dat ⟨(.int .i64),v5,.sh⟩)])
noncomputable def lJ (v3:List Int) (v4:Int) (p:List Nat:=[1,1,1,0]):Option d68:=zS EE R L 362 Go.Proofs.Tryz.f362 p (mk 18 [(3,.dat ⟨t1,v3,(.own .sh)⟩),(4,.dat ⟨(.int .i64),v4,.sh⟩)])
noncomputable def pW (v0:Int) (v5:List Int) (v6:Int) (p:List Nat:=[1,1,0,1,0]):Option d66:=zS EE R L 329 Go.Proofs.Tryz.f329 p (mk 21 [(0,.dat ⟨(.int .i64),v0,.sh⟩),(5,.dat ⟨t1,v5,(.own .sh)⟩),(6,.dat ⟨(.int .i64),v6,.sh⟩)])
noncomputable def mL (v1:d71) (v3:List Int) (v4:Int) (p:List Nat:=[1,1,1,0,1,0]):Option d66:=zS EE R L 283 Go.Proofs.Tryz.f283 p (mk 102 [(1,.dat ⟨(.ptr t8),v1,(.own .sh)⟩),(3,.dat ⟨t1,v3,(.own .sh)⟩),(4,.dat ⟨(.int .i64),v4,.sh⟩)])
noncomputable def oD (v1:d71) (v3:List Int) (v5:Int) (p:List Nat:=[1,1,1,1,0,1,0]):Option d66:=zS EE R L 283 Go.Proofs.Tryz.f283 p (mk 102 [(1,.dat ⟨(.ptr t8),v1,(.own .sh)⟩),(3,.dat ⟨t1,v3,(.own .sh)⟩),(5,.dat ⟨(.int .i64),v5,.sh⟩)])
noncomputable def mM (v1:d71) (v3:List Int) (v5 v6:Int) (p:List Nat:=[1,1,1,1,0,1,0,0,1,0,0,1,1,0]):Option d66:=zS EE R L 283 Go.Proofs.Tryz.f283 p (mk 102 [(1,.dat ⟨(.ptr t8),v1,(.own .sh)⟩),(3,.dat ⟨t1,v3,(.own .sh)⟩),(5,.dat ⟨(.int .i64),v5,.sh⟩),(6,.dat ⟨(.int .i64),v6,.sh⟩)])
noncomputable def pL (v1:d74) (v3:Int) (p:List Nat:=[1,1,0,1,0]):Option d66:=zS EE R L 219 Go.Proofs.Tryz.f219 p (mk 48 [(1,.dat ⟨(.ptr t11),v1,(.own .sh)⟩),(3,.dat ⟨(.int .i64),v3,.sh⟩)])
noncomputable def xR (v0 v1:d75) (v2:Bool) (v3:Int) (p:List Nat:=[1,1,0,1,0]):Option d66:=zS EE R L 231 Go.Proofs.Tryz.f231 p (mk 39 [(0,.dat ⟨t12,v0,.sh⟩),(1,.dat ⟨(.ptr t12),v1,(.own .sh)⟩),(2,.dat ⟨.bool,v2,.sh⟩),(3,.dat ⟨(.int .i64),v3,.sh⟩)])
noncomputable def vY (v0:List d75) (v2:Bool) (v3:Int) (p:List Nat:=[1,0,1,0]):Option d66:=zS EE R L 165 Go.Proofs.Tryz.f165 p (mk 19 [(0,.dat ⟨(.sl t12),v0,.sh⟩),(2,.dat ⟨.bool,v2,.sh⟩),(3,.dat ⟨(.int .i64),v3,.sh⟩)])
noncomputable def uY (v0:List d69) (v3:Int) (p:List Nat:=[1,0,1,0]):Option d66:=zS EE R L 282 Go.Proofs.Tryz.f282 p (mk 34 [(0,.dat ⟨(.sl t4),v0,.sh⟩),(3,.dat ⟨(.int .i64),v3,.sh⟩)])
noncomputable def mV (v1:d81) (v4:List (List UInt8)) (v5:List UInt8) (v6:Int) (p:List Nat:=[1,1,1,0,1,0]):Option Bt8:=zS EE R L 154 Go.Proofs.Tryz.f154 p (mk 42 [(1,.dat ⟨(.ptr t18),v1,(.own .sh)⟩),(4,.dat ⟨(.sl .str),v4,(.own .sh)⟩),(5,.dat ⟨.str,v5,.sh⟩),(6,.dat ⟨(.int .i64),v6,.sh⟩)])
noncomputable def qU (v0:List UInt8) (v3:List Int) (v4:Int) (p:List Nat:=[1,1,0,1,0]):Option d68:=zS EE R L 289 Go.Proofs.Tryz.f289 p (mk 20 [(0,.dat ⟨.str,v0,.sh⟩),(3,.dat ⟨t1,v3,(.own .sh)⟩),(4,.dat ⟨(.int .i64),v4,.sh⟩)])
noncomputable def xZ (v0:List d75) (v1:FnVal) (v4 v7 v8:Int) (p:List Nat:=[1,0,1,0]):Option d67:=zS EE R L 338 Go.Proofs.Tryz.f338 p (mk 19 [(0,.dat ⟨(.sl t12),v0,.sh⟩),(1,.dat ⟨.fn,v1,.sh⟩),(4,.dat ⟨(.int .i64),v4,.sh⟩),(7,.dat ⟨(.int .i64),v7,.sh⟩),(8,.dat ⟨(.int .i64),v8,.sh⟩)])
noncomputable def zE (v0:List d75) (v1:FnVal) (v4 v5 v7 v8:Int) (p:List Nat:=[1,0,1,0]):Option d67:=zS EE R L 338 Go.Proofs.Tryz.f338 p (mk 19 [(0,.dat ⟨(.sl t12),v0,.sh⟩),(1,.dat ⟨.fn,v1,.sh⟩),(4,.dat ⟨(.int .i64),v4,.sh⟩),(5,.dat ⟨(.int .i64),v5,.sh⟩),(7,.dat ⟨(.int .i64),v7,.sh⟩),(8,.dat ⟨(.int .i64),v8,.sh⟩)])
noncomputable def uW (v1:d81) (v3:List UInt8) (v4:Int) (p:List Nat:=[1,1,0,1,0]):Option d66:=zS EE R L 84 Go.Proofs.Tryz.f84 p (mk 33 [(1,.dat ⟨(.ptr t18),v1,(.own .sh)⟩),(3,.dat ⟨.str,v3,.sh⟩),(4,.dat ⟨(.int .i64),v4,.sh⟩)])
theorem A6m (x0 x1 x2 : Int) : @Eq _ (sL (zD EE R L) x0 x1 x2) (cond (decide (x1 ≤ x0))
 (some (decide (x0 ≤ x2), ()))
 (some (false, ()))) := by kernel_rfl
theorem A8z (x0 : Int) : @Eq _ (Al0 (zD EE R L) x0) ((sL R x0 1 9999).bind fun r0 =>
 some (r0.1, ())) := by kernel_rfl
theorem AZ2 (x0 : Int) (x1 : FnVal) : @Eq _ (iH (zD EE R L) x0 x1) ((vS EE R x1 [⟨(.int .i64), (x0 : Int)⟩]).bind fun (r0 : Bool) =>
 some (!r0, ())) := by kernel_rfl
theorem gU (x0:List Int) (x1:FnVal):@Eq _ (vN (zD EE R L) x0 x1) (tA R L x0 x1 0 (x0.length:Int) 0):=by kernel_rfl
theorem iR (v0 : List Int) (v1 : FnVal) (v4 v7 v8 : Int) : @Eq _ (tA R L v0 v1 v4 v7 v8 ([1, 0, 1, 0] ++ [0])) (cond (decide (v8 < v7))
 (cond (zA v8)
 (cond (Nat.blt v8.toNat v0.length)
 ((vS EE R v1 [⟨(.int .i64), (v0.getD v8.toNat 0 : Int)⟩]).bind fun (r0 : Bool) =>
 cond r0
 (some (v8, ()))
 (zN R L v0 v1 v4 v8 v7 (IntKind.wrap .i64 (v8 + 1))))
 none)
 none)
 (some (-1, ()))) := by kernel_rfl
theorem tQ (v0 : List Int) (v1 : FnVal) (v4 v5 v7 v8 : Int) : @Eq _ (zN R L v0 v1 v4 v5 v7 v8 ([1, 0, 1, 0] ++ [0])) (cond (decide (v8 < v7))
 (cond (zA v8)
 (cond (Nat.blt v8.toNat v0.length)
 ((vS EE R v1 [⟨(.int .i64), (v0.getD v8.toNat 0 : Int)⟩]).bind fun (r0 : Bool) =>
 cond r0
 (some (v8, ()))
 (zN R L v0 v1 v4 v8 v7 (IntKind.wrap .i64 (v8 + 1))))
 none)
 none)
 (some (-1, ()))) := by kernel_rfl
theorem jT (x0 : List Int) (x1 : FnVal) : @Eq _ (wK (zD EE R L) x0 x1) ((vN R x0 x1).bind fun r0 =>
 some (decide (0 ≤ r0.1), ())) := by kernel_rfl
theorem Ar0 (x0 : List Int) (x1 : FnVal) : @Eq _ (uL (zD EE R L) x0 x1) ((wK R x0 (FnVal.mk (268 : Nat) (FCaps.fn x1 FCaps.nil))).bind fun r0 =>
 some (!r0.1, ())) := by kernel_rfl
theorem Av4 (x0 : Int) : @Eq _ (kH (zD EE R L) x0) ((sL R x0 0 7).bind fun r0 =>
 some (r0.1, ())) := by kernel_rfl
theorem A7n (x0:Int):@Eq _ (AI7 (zD EE R L) x0) (kS R L [] (IntKind.wrap .i64 (7 + x0))):=by kernel_rfl
theorem A15 (v3 : List Int) (v4 : Int) : @Eq _ (kS R L v3 v4 ([1, 1, 1, 0] ++ [0])) (cond (yP (v3.length + ([v4]).length))
 (cond (eqI v4 0)
 ((nN R (v3 ++ [v4])).bind fun r0 =>
 some (r0.1, ()))
 (kS R L (v3 ++ [v4]) (IntKind.wrap .i64 (Int.tdiv (IntKind.wrap .i64 (v4 - 1)) 2))))
 none) := by kernel_rfl
theorem cR (x0:List Int) (x1:Int):@Eq _ (tU (zD EE R L) x0 x1) (xI R L x0 x1 (x0.length:Int) 0):=by kernel_rfl
theorem nU (v0 : List Int) (v1 v7 v8 : Int) : @Eq _ (xI R L v0 v1 v7 v8 ([1, 0, 1, 0] ++ [0])) (cond (decide (v8 < v7))
 (cond (zA v8)
 (cond (Nat.blt v8.toNat v0.length)
 (cond (eqI v1 (v0.getD v8.toNat 0))
 (some (v8, ()))
 (xI R L v0 v1 v7 (IntKind.wrap .i64 (v8 + 1))))
 none)
 none)
 (some (-1, ()))) := by kernel_rfl
theorem fH (x0 : List Int) (x1 : Int) : @Eq _ (sQ (zD EE R L) x0 x1) ((tU R x0 x1).bind fun r0 =>
 some (decide (0 ≤ r0.1), ())) := by kernel_rfl
theorem A1e (x0 x1 : Int) : @Eq _ (gN (zD EE R L) x0 x1) ((AI7 R x1).bind fun r0 =>
 (sQ R r0.1 x0).bind fun r1 =>
 some (r1.1, ())) := by kernel_rfl
theorem A4X (x0 : d69) (x1 : Int) : @Eq _ (AR9 (zD EE R L) x0 x1) ((kH R x0.2.1).bind fun r0 =>
 cond r0.1
 ((gN R x1 x0.2.1).bind fun r1 =>
 some (r1.1, ()))
 (some (false, ()))) := by kernel_rfl
theorem AG0 (x0 : d69) (x1 : FnVal) : @Eq _ (mC (zD EE R L) x0 x1) ((vS EE R x1 [⟨t4, (x0 : d69)⟩]).bind fun (r0 : Bool) =>
 some (!r0, ())) := by kernel_rfl
theorem mZ (x0:List d69) (x1:FnVal):@Eq _ (xL (zD EE R L) x0 x1) (zI R L x0 x1 (x0.length:Int) 0):=by kernel_rfl
theorem sA (v0 : List d69) (v1 : FnVal) (v7 v8 : Int) : @Eq _ (zI R L v0 v1 v7 v8 ([1, 0, 1, 0] ++ [0])) (cond (decide (v8 < v7))
 (cond (zA v8)
 (cond (Nat.blt v8.toNat v0.length)
 ((vS EE R v1 [⟨t4, (v0.getD v8.toNat (0, (0, (0, ()))) : d69)⟩]).bind fun (r0 : Bool) =>
 cond r0
 (some (v8, ()))
 (zI R L v0 v1 v7 (IntKind.wrap .i64 (v8 + 1))))
 none)
 none)
 (some (-1, ()))) := by kernel_rfl
theorem nH (x0 : List d69) (x1 : FnVal) : @Eq _ (yY (zD EE R L) x0 x1) ((xL R x0 x1).bind fun r0 =>
 some (decide (0 ≤ r0.1), ())) := by kernel_rfl
theorem AS4 (x0 : List d69) (x1 : FnVal) : @Eq _ (oB (zD EE R L) x0 x1) ((yY R x0 (FnVal.mk (334 : Nat) (FCaps.fn x1 FCaps.nil))).bind fun r0 =>
 some (!r0.1, ())) := by kernel_rfl
theorem jE (x0 : List d69) : @Eq _ (wH (zD EE R L) x0) (cond (Nat.beq x0.length 0)
 (A3E
 (some ([], ()))
 (cond (yP (([] : List d69).length + x0.length))
 (some ([] ++ x0, ()))
 none))
 (cond (yP (([] : List d69).length + x0.length))
 (some ([] ++ x0, ()))
 none)) := by kernel_rfl
theorem A3X (x0 : d71) : @Eq _ (cP (zD EE R L) x0) ((wH R x0.2.1).bind fun r0 =>
 (rR R x0.2.2.1).bind fun r1 =>
 cond (yP (r0.1.length + r1.1.length))
 (some (r0.1 ++ r1.1, ()))
 none) := by kernel_rfl
theorem BJ4 (x0 : Int) : @Eq _ (Aj0 (zD EE R L) x0) ((sL R x0 0 11).bind fun r0 =>
 some (r0.1, ())) := by kernel_rfl
theorem A4K (x0 : Int) : @Eq _ (dE (zD EE R L) x0) ((sL R x0 0 999999).bind fun r0 =>
 some (r0.1, ())) := by kernel_rfl
theorem A47 (x0 : d69) : @Eq _ (aM (zD EE R L) x0) ((Aj0 R x0.1).bind fun r0 =>
 cond r0.1
 ((kH R x0.2.1).bind fun r1 =>
 cond r1.1
 ((dE R x0.2.2.1).bind fun r2 =>
 some (r2.1, ()))
 (some (false, ())))
 (some (false, ()))) := by kernel_rfl
theorem A6k (x0 : d71) : @Eq _ (AZ6 (zD EE R L) x0) (cond (!(eqI (x0.1.length : Int) 12))
 (some (false, ()))
 ((uL R x0.1 (FnVal.mk (205 : Nat) FCaps.nil)).bind fun r0 =>
 cond (!r0.1)
 (some (false, ()))
 (cond (!(eqI (x0.2.2.1.length : Int) 15))
 (some (false, ()))
 (oJ R L x0 x0.2.2.1 (x0.2.2.1.length : Int) 0)))) := by kernel_rfl
theorem Ae0 (v1 : d71) (v25 : List (List d69)) (v26 v27 : Int) : @Eq _ (oJ R L v1 v25 v26 v27 ([1, 1, 0, 1, 0] ++ [0])) (cond (decide (v27 < v26))
 (cond (zA v27)
 (cond (Nat.blt v27.toNat v25.length)
 (cond (decide (2 < ((v25.getD v27.toNat []).length : Int)))
 (some (false, ()))
 ((oB R (v25.getD v27.toNat []) (FnVal.mk (292 : Nat) (FCaps.int .i64 v27 FCaps.nil))).bind fun r0 =>
 cond (!r0.1)
 (some (false, ()))
 (oJ R L v1 v25 v26 (IntKind.wrap .i64 (v27 + 1)))))
 none)
 none)
 ((cP R v1).bind fun r0 =>
 mR R L v1 (List.replicate 12 false) r0.1 (r0.1.length : Int) 0)) := by kernel_rfl
theorem Ad4 (v1 : d71) (v5 : List Bool) (v43 : List d69) (v44 v45 : Int) : @Eq _ (mR R L v1 v5 v43 v44 v45 ([1, 1, 1, 1, 0, 1, 0] ++ [0])) (cond (decide (v45 < v44))
 (cond (zA v45)
 (cond (Nat.blt v45.toNat v43.length)
 ((aM R (v43.getD v45.toNat (0, (0, (0, ()))))).bind fun r0 =>
 cond (!r0.1)
 (some (false, ()))
 (cond (zA (v43.getD v45.toNat (0, (0, (0, ())))).1)
 (cond (Nat.blt (v43.getD v45.toNat (0, (0, (0, ())))).1.toNat v1.1.length)
 (cond (!(eqI (v43.getD v45.toNat (0, (0, (0, ())))).2.1 (v1.1.getD (v43.getD v45.toNat (0, (0, (0, ())))).1.toNat 0)))
 (some (false, ()))
 (cond (zA (v43.getD v45.toNat (0, (0, (0, ())))).1)
 (cond (Nat.blt (v43.getD v45.toNat (0, (0, (0, ())))).1.toNat 12)
 (cond (v5.getD (v43.getD v45.toNat (0, (0, (0, ())))).1.toNat false)
 (some (false, ()))
 (cond (zA (v43.getD v45.toNat (0, (0, (0, ())))).1)
 (cond (Nat.blt (v43.getD v45.toNat (0, (0, (0, ())))).1.toNat 12)
 (mR R L v1 (v5.set (v43.getD v45.toNat (0, (0, (0, ())))).1.toNat true) v43 v44 (IntKind.wrap .i64 (v45 + 1)))
 none)
 none))
 none)
 none))
 none)
 none))
 none)
 none)
 (some (true, ()))) := by kernel_rfl
theorem AH9 (x0:Int):@Eq _ (nW (zD EE R L) x0) (some (eqI x0 0,())):=by kernel_rfl
theorem AS3 (x0 : d72) : @Eq _ (rL (zD EE R L) x0) (cond (!x0.2.2.1)
 (cond (zA x0.2.1)
 (cond (Nat.ble x0.1.length x0.1.length)
 (cond (Nat.ble x0.2.1.toNat x0.1.length)
 ((uL R (List.drop x0.2.1.toNat (List.take x0.1.length x0.1)) (FnVal.mk (290 : Nat) FCaps.nil)).bind fun r0 =>
 some (r0.1, (x0, ())))
 none)
 none)
 none)
 (some (false, (x0, ())))) := by kernel_rfl
theorem A08 (x0 : List UInt8) : @Eq _ (fN (zD EE R L) x0) ((mB R x0 140).bind fun r0 =>
 (xK R r0.1 12 0 7).bind fun r1 =>
 (wL R r1.2.1 12).bind fun r2 =>
 (xK R r2.2.1 11 0 9999).bind fun r3 =>
 (yO R r3.2.1 0 2).bind fun r4 =>
 rX R L ([], (([], ([], ([], ()))), ())) r4.2.1 (r3.1, ((r1.1, (r2.1, (List.replicate (15 : Int).toNat [], ()))), ())) [] r4.1 0) := by kernel_rfl
theorem AH1 (v2 : d74) (v5 : d72) (v7 : d74) (v8 : List d75) (v23 v24 : Int) : @Eq _ (rX R L v2 v5 v7 v8 v23 v24 ([1, 1, 1, 1, 1, 0, 1, 0] ++ [0])) (cond (decide (v24 < v23))
 ((yO R v5 0 19).bind fun r0 =>
 (yO R r0.2.1 0 32).bind fun r1 =>
 (xK R r1.2.1 r1.1 0 999999).bind fun r2 =>
 cond (yP (v8.length + ([(r0.1, (r2.1, ()))]).length))
 (rX R L v2 r2.2.1 v7 (v8 ++ [(r0.1, (r2.1, ()))]) v23 (IntKind.wrap .i64 (v24 + 1)))
 none)
 ((rL R v5).bind fun r0 =>
 cond (!r0.1)
 (some (([], (([], ([], ([], ()))), ())), ([], (false, ()))))
 ((Ak4 R v7).bind fun r1 =>
 cond (!r1.1)
 (some (([], (([], ([], ([], ()))), ())), ([], (false, ()))))
 ((hP R v8).bind fun r2 =>
 cond (!r2.1)
 (some (([], (([], ([], ([], ()))), ())), ([], (false, ()))))
 (some (v7, (v8, (true, ())))))))) := by kernel_rfl
theorem As0 (x0 : List UInt8) : @Eq _ (gA (zD EE R L) x0) ((mB R x0 7).bind fun r0 =>
 (wL R r0.1 2).bind fun r1 =>
 (rL R r1.2.1).bind fun r2 =>
 some (r1.1, (r2.1, ()))) := by kernel_rfl
theorem Ao7 (x0 : d81) : @Eq _ (kQ (zD EE R L) x0) ((mK R x0).bind fun r0 =>
 (Aj6 R r0.1).bind fun r1 =>
 cond (!(eqS r1.1 x0.2.1.2.2.2.2.2.2.1))
 (some (([], (([], ([], ([], ()))), ())), ([], (false, ()))))
 (cond (Nat.blt (0 : Int).toNat r0.1.length)
 ((jZ R x0.1 1 (IntKind.wrap .i64 (16 * x0.2.1.2.1)) x0.2.1.1 (r0.1.getD (0 : Int).toNat [])).bind fun r2 =>
 (fN R r2.1).bind fun r3 =>
 cond (!r2.2.1)
 (some (([], (([], ([], ([], ()))), ())), ([], (false, ()))))
 (cond (!r3.2.2.1)
 (some (([], (([], ([], ([], ()))), ())), ([], (false, ()))))
 (sI R L x0 ([], (([], ([], ([], ()))), ())) r0.1 (IntKind.wrap .i64 (16 * x0.2.1.2.1)) r3.1 r3.2.1 (r3.1.2.1.2.2.1.length : Int) 0)))
 none)) := by kernel_rfl
theorem bO (v1 : d81) (v2 : d74) (v5 : List (List UInt8)) (v6 : Int) (v9 : d74) (v10 : List d75) (v59 v60 : Int) : @Eq _ (sI R L v1 v2 v5 v6 v9 v10 v59 v60 ([1, 1, 1, 1, 1, 1, 1, 0, 1, 0] ++ [0])) (cond (decide (v60 < v59))
 (cond (zA (IntKind.wrap .i64 (1 + v60)))
 (cond (Nat.blt (IntKind.wrap .i64 (1 + v60)).toNat v5.length)
 ((jZ R v1.1 2 (IntKind.wrap .i64 ((IntKind.wrap .i64 (v6 + 1)) + v60)) v1.2.1.1 (v5.getD (IntKind.wrap .i64 (1 + v60)).toNat [])).bind fun r0 =>
 (gA R r0.1).bind fun r1 =>
 cond (!r0.2.1)
 (some (([], (([], ([], ([], ()))), ())), ([], (false, ()))))
 (cond (!r1.2.1)
 (some (([], (([], ([], ([], ()))), ())), ([], (false, ()))))
 (cond (zA v60)
 (cond (Nat.blt v60.toNat v9.2.1.2.2.1.length)
 (sI R L v1 v2 v5 v6 (v9.1, ((v9.2.1.1, (v9.2.1.2.1, (v9.2.1.2.2.1.set v60.toNat r1.1, v9.2.1.2.2.2))), v9.2.2)) v10 v59 (IntKind.wrap .i64 (v60 + 1)))
 none)
 none)))
 none)
 none)
 ((Ak4 R v9).bind fun r0 =>
 some (v9, (v10, (r0.1, ()))))) := by kernel_rfl
theorem A3k (x0 : d81) : @Eq _ (dJ (zD EE R L) x0) ((aZ R x0).bind fun r0 =>
 cond (!r0.1)
 (some (([], ((0, (0, (0, (0, ([], ([], ([], ()))))))), (([], ([], ())), (false, (false, ()))))), (1, ())))
 (cond x0.2.2.2.2.1
 ((qI R x0).bind fun r1 =>
 some (r1.1, (18, ())))
 (cond x0.2.2.2.1
 ((qI R x0).bind fun r1 =>
 some (r1.1, (17, ())))
 (cond (eqI x0.2.1.2.2.2.1 1000000)
 ((qI R x0).bind fun r1 =>
 some (r1.1, (7, ())))
 ((kQ R x0).bind fun r1 =>
 cond (!r1.2.2.1)
 ((oM R x0).bind fun r2 =>
 some (r2.1, (10, ())))
 ((mP R x0).bind fun r2 =>
 cond (!r2.1)
 ((oM R x0).bind fun r3 =>
 some (r3.1, (10, ())))
 ((qI R x0).bind fun r3 =>
 some ((r3.1.1, ((r3.1.2.1.1, (r3.1.2.1.2.1, (r3.1.2.1.2.2.1, (IntKind.wrap .i64 (r3.1.2.1.2.2.2.1 + 1), r3.1.2.1.2.2.2.2)))), (r3.1.2.2.1, (true, r3.1.2.2.2.2)))), (0, ()))))))))) := by kernel_rfl
theorem AV9 (x0 : d81) : @Eq _ (kY (zD EE R L) x0) ((aJ R x0 1048576).bind fun r0 =>
 cond (decide (r0.1 < 0))
 (some (true, ()))
 ((lW R x0).bind fun r1 =>
 (aR R r1.1).bind fun r2 =>
 (lW R x0).bind fun r3 =>
 (dJ R r3.1).bind fun r4 =>
 (lU R r4.1 r2.1).bind fun r5 =>
 cond (!r5.1)
 (some (false, ()))
 (cond (!(eqI r4.2.1 r2.2.1))
 (some (false, ()))
 ((lW R x0).bind fun r6 =>
 (lU R r3.1 r6.1).bind fun r7 =>
 cond (!r7.1)
 (some (false, ()))
 ((qD R r3.1 1).bind fun r8 =>
 cond (decide (r8.1 < 0))
 (some (false, ()))
 ((lU R r4.1 r2.1).bind fun r9 =>
 cond (!r9.1)
 (some (false, ()))
 (cond (!(eqI r4.2.1 r2.2.1))
 (some (false, ()))
 ((qD R r4.1 1).bind fun r10 =>
 (oC R r10.2.1 1).bind fun r11 =>
 cond (decide (r11.1 < 0))
 (some (false, ()))
 (cond (!(eqI r11.1 r10.1))
 (some (false, ()))
 ((lW R x0).bind fun r12 =>
 (dJ R r12.1).bind fun r13 =>
 (lU R r13.1 r2.1).bind fun r14 =>
 cond (!r14.1)
 (some (false, ()))
 (cond (!(eqI r13.2.1 r2.2.1))
 (some (false, ()))
 ((oC R r10.2.1 1).bind fun r15 =>
 cond (decide (r15.1 < 0))
 (some (false, ()))
 (cond (!(eqI r15.1 r10.1))
 (some (false, ()))
 (some (true, ()))))))))))))))) := by kernel_rfl
theorem At0 (x0 : List UInt8) : @Eq _ (hF (zD EE R L) x0) ((lS R x0 140).bind fun r0 =>
 (AL5 R []).bind fun r1 =>
 wD R L ([], (([], ([], ([], ()))), ())) r0.1 ([], (r1.1, ())) 0) := by kernel_rfl
theorem AC8 (v2 : d74) (v5 : d87) (v6 : d74) (v7 : Int) : @Eq _ (wD R L v2 v5 v6 v7 ([1, 1, 1, 0, 1, 0] ++ [0])) (cond (decide (v7 < 12))
 ((zO R v5).bind fun r0 =>
 cond (yP (v6.2.1.1.length + ([r0.1]).length))
 (wD R L v2 r0.2.1 (v6.1, ((v6.2.1.1 ++ [r0.1], v6.2.1.2), v6.2.2)) (IntKind.wrap .i64 (v7 + 1)))
 none)
 ((yR R v5 12).bind fun r0 =>
 uA R L v2 r0.2.1 v6 r0.1)) := by kernel_rfl
theorem AC7 (v2 : d74) (v5 : d87) (v6 : d74) (v8 : Int) : @Eq _ (uA R L v2 v5 v6 v8 ([1, 1, 1, 1, 0, 1, 0] ++ [0])) (cond (decide (0 < v8))
 ((zO R v5).bind fun r0 =>
 (zO R r0.2.1).bind fun r1 =>
 (zO R r1.2.1).bind fun r2 =>
 cond (yP (v6.2.1.2.1.length + ([(r0.1, (r1.1, (r2.1, ())))]).length))
 (uA R L v2 r2.2.1 (v6.1, ((v6.2.1.1, (v6.2.1.2.1 ++ [(r0.1, (r1.1, (r2.1, ())))], v6.2.1.2.2)), v6.2.2)) (IntKind.wrap .i64 (v8 - 1)))
 none)
 (yN R L v2 v5 v6 0)) := by kernel_rfl
theorem AC2 (v2 : d74) (v5 : d87) (v6 : d74) (v10 : Int) : @Eq _ (yN R L v2 v5 v6 v10 ([1, 1, 1, 1, 1, 0, 1, 0] ++ [0])) (cond (decide (v10 < 11))
 ((zO R v5).bind fun r0 =>
 cond (yP (v6.1.length + ([r0.1]).length))
 (yN R L v2 r0.2.1 (v6.1 ++ [r0.1], v6.2) (IntKind.wrap .i64 (v10 + 1)))
 none)
 ((yR R v5 2).bind fun r0 =>
 tL R L v2 r0.2.1 v6 [] r0.1)) := by kernel_rfl
theorem AD0 (v2 : d74) (v5 : d87) (v6 : d74) (v11 : List d75) (v12 : Int) : @Eq _ (tL R L v2 v5 v6 v11 v12 ([1, 1, 1, 1, 1, 1, 1, 0, 1, 0] ++ [0])) (cond (decide (0 < v12))
 ((zO R v5).bind fun r0 =>
 (yR R r0.2.1 32).bind fun r1 =>
 vW R L v2 r1.2.1 v6 v11 v12 (r0.1, ([], ())) r1.1)
 ((tJ R v5).bind fun r0 =>
 cond r0.1
 ((AG8 R v6).bind fun r1 =>
 cond r1.1
 ((iZ R v11).bind fun r2 =>
 some (v6, (v11, (r2.1, ()))))
 (some (v6, (v11, (false, ())))))
 (some (v6, (v11, (false, ())))))) := by kernel_rfl
theorem AC9 (v2 : d74) (v5 : d87) (v6 : d74) (v11 : List d75) (v12 : Int) (v13 : d75) (v14 : Int) : @Eq _ (vW R L v2 v5 v6 v11 v12 v13 v14 ([1, 1, 1, 1, 1, 1, 1, 0, 1, 0, 0, 1, 0, 0, 1, 0, 1, 0] ++ [0])) (cond (decide (0 < v14))
 ((zO R v5).bind fun r0 =>
 cond (yP (v13.2.1.length + ([r0.1]).length))
 (vW R L v2 r0.2.1 v6 v11 v12 (v13.1, (v13.2.1 ++ [r0.1], v13.2.2)) (IntKind.wrap .i64 (v14 - 1)))
 none)
 (cond (yP (v11.length + ([v13]).length))
 (tL R L v2 v5 v6 (v11 ++ [v13]) (IntKind.wrap .i64 (v12 - 1)))
 none)) := by kernel_rfl
theorem A4B (x0:d81):@Eq _ (AA1 (zD EE R L) x0) (rD R L x0 ([],(([],([],([],()))),())) [] 0):=by kernel_rfl
theorem AT0 (v1 : d81) (v2 : d74) (v5 : List (List UInt8)) (v6 : Int) : @Eq _ (rD R L v1 v2 v5 v6 ([1, 1, 0, 1, 0] ++ [0])) (cond (decide (v6 < 16))
 ((dL R v1.2.2.1 (IntKind.wrap .i64 ((IntKind.wrap .i64 (16 * v1.2.1.2.1)) + v6))).bind fun r0 =>
 cond (yP (v5.length + ([r0.1]).length))
 (rD R L v1 v2 (v5 ++ [r0.1]) (IntKind.wrap .i64 (v6 + 1)))
 none)
 ((aL R v5).bind fun r0 =>
 cond (!(eqS r0.1 v1.2.1.2.2.2.2.2.2.1))
 (some (([], (([], ([], ([], ()))), ())), ([], (false, ()))))
 (cond (Nat.blt (0 : Int).toNat v5.length)
 ((lT R v1.1 1 (IntKind.wrap .i64 (16 * v1.2.1.2.1)) v1.2.1.1 (v5.getD (0 : Int).toNat [])).bind fun r1 =>
 (hF R r1.1).bind fun r2 =>
 cond (!r1.2.1)
 (some (([], (([], ([], ([], ()))), ())), ([], (false, ()))))
 (cond (!r2.2.2.1)
 (some (([], (([], ([], ([], ()))), ())), ([], (false, ()))))
 (oU R L v1 v2 v5 r2.1 r2.2.1 0)))
 none))) := by kernel_rfl
theorem AW3 (v1 : d81) (v2 : d74) (v5 : List (List UInt8)) (v9 : d74) (v10 : List d75) (v12 : Int) : @Eq _ (oU R L v1 v2 v5 v9 v10 v12 ([1, 1, 1, 1, 1, 1, 1, 0, 1, 0] ++ [0])) (cond (decide (v12 < 15))
 (cond (zA (IntKind.wrap .i64 (1 + v12)))
 (cond (Nat.blt (IntKind.wrap .i64 (1 + v12)).toNat v5.length)
 ((lT R v1.1 2 (IntKind.wrap .i64 ((IntKind.wrap .i64 ((IntKind.wrap .i64 (16 * v1.2.1.2.1)) + 1)) + v12)) v1.2.1.1 (v5.getD (IntKind.wrap .i64 (1 + v12)).toNat [])).bind fun r0 =>
 (jA R r0.1).bind fun r1 =>
 cond (!r0.2.1)
 (some (([], (([], ([], ([], ()))), ())), ([], (false, ()))))
 (cond (!r1.2.1)
 (some (([], (([], ([], ([], ()))), ())), ([], (false, ()))))
 (cond (zA v12)
 (cond (Nat.blt v12.toNat v9.2.1.2.2.1.length)
 (oU R L v1 v2 v5 (v9.1, ((v9.2.1.1, (v9.2.1.2.1, (v9.2.1.2.2.1.set v12.toNat r1.1, v9.2.1.2.2.2))), v9.2.2)) v10 (IntKind.wrap .i64 (v12 + 1)))
 none)
 none)))
 none)
 none)
 ((AG8 R v9).bind fun r0 =>
 some (v9, (v10, (r0.1, ()))))) := by kernel_rfl
theorem Ar8 (x0 : d81) : @Eq _ (gD (zD EE R L) x0) (cond x0.2.2.2.2.1
 (some (x0, (18, ())))
 (cond x0.2.2.2.1
 (some (x0, (17, ())))
 (cond (eqI x0.2.1.2.2.2.1 1000000)
 (some (x0, (7, ())))
 ((AA1 R x0).bind fun r0 =>
 (AI6 R x0).bind fun r1 =>
 cond (!r0.2.2.1)
 ((aU R x0).bind fun r2 =>
 some (r2.1, (10, ())))
 (cond (!r1.2.1)
 ((aU R x0).bind fun r2 =>
 some (r2.1, (10, ())))
 (some ((x0.1, ((x0.2.1.1, (x0.2.1.2.1, (x0.2.1.2.2.1, (IntKind.wrap .i64 (x0.2.1.2.2.2.1 + 1), x0.2.1.2.2.2.2)))), (x0.2.2.1, (true, x0.2.2.2.2)))), (0, ())))))))) := by kernel_rfl
theorem A5H (x0 : d81) : @Eq _ (aR (zD EE R L) x0) ((AB1 R x0).bind fun r0 =>
 cond (!r0.1)
 (some (([], ((0, (0, (0, (0, ([], ([], ([], ()))))))), (([], ([], ())), (false, (false, ()))))), (1, ())))
 ((gD R x0).bind fun r1 =>
 (AJ1 R r1.1).bind fun r2 =>
 some (r2.1, (r1.2.1, ())))) := by kernel_rfl
theorem A2v (x0 : List UInt8) (x1 : Int) : @Eq _ (mB (zD EE R L) x0 x1) (cond (!(eqI (x0.length : Int) (IntKind.wrap .i64 (4 * x1))))
 (some (([], (0, (true, ()))), ()))
 ((dQ R x0).bind fun r0 =>
 some ((r0.1, (0, (false, ()))), ()))) := by kernel_rfl
theorem AQ6 (x0 : d72) (x1 x2 : Int) : @Eq _ (yO (zD EE R L) x0 x1 x2) (cond x0.2.2.1
 (some (0, ((x0.1, (x0.2.1, (true, x0.2.2.2))), ())))
 (cond (eqI x0.2.1 (x0.1.length : Int))
 (some (0, ((x0.1, (x0.2.1, (true, x0.2.2.2))), ())))
 (cond (zA x0.2.1)
 (cond (Nat.blt x0.2.1.toNat x0.1.length)
 ((sL R (x0.1.getD x0.2.1.toNat 0) x1 x2).bind fun r0 =>
 cond (!r0.1)
 (some (0, ((x0.1, (x0.2.1, (true, x0.2.2.2))), ())))
 (cond (zA (IntKind.wrap .i64 ((IntKind.wrap .i64 (x0.2.1 + 1)) - 1)))
 (cond (Nat.blt (IntKind.wrap .i64 ((IntKind.wrap .i64 (x0.2.1 + 1)) - 1)).toNat x0.1.length)
 (some (x0.1.getD (IntKind.wrap .i64 ((IntKind.wrap .i64 (x0.2.1 + 1)) - 1)).toNat 0, ((x0.1, (IntKind.wrap .i64 (x0.2.1 + 1), x0.2.2)), ())))
 none)
 none))
 none)
 none))) := by kernel_rfl
theorem AD6 (x0:d72) (x1 x2 x3:Int):@Eq _ (xK (zD EE R L) x0 x1 x2 x3) (wE R L x0 x2 x3 [] x1 0):=by kernel_rfl
theorem kD (v0 : d72) (v2 v3 : Int) (v9 : List Int) (v10 v11 : Int) : @Eq _ (wE R L v0 v2 v3 v9 v10 v11 ([1, 1, 0, 1, 0] ++ [0])) (cond (decide (v11 < v10))
 ((yO R v0 v2 v3).bind fun r0 =>
 cond (yP (v9.length + ([r0.1]).length))
 (wE R L r0.2.1 v2 v3 (v9 ++ [r0.1]) v10 (IntKind.wrap .i64 (v11 + 1)))
 none)
 (some (v9, (v0, ())))) := by kernel_rfl
theorem AH0 (x0 : d72) (x1 : Int) : @Eq _ (wL (zD EE R L) x0 x1) ((yO R x0 0 x1).bind fun r0 =>
 wI R L r0.2.1 [] r0.1 0) := by kernel_rfl
theorem kP (v0 : d72) (v5 : List d69) (v8 v9 : Int) : @Eq _ (wI R L v0 v5 v8 v9 ([1, 1, 0, 1, 0] ++ [0])) (cond (decide (v9 < v8))
 ((yO R v0 0 11).bind fun r0 =>
 (yO R r0.2.1 0 7).bind fun r1 =>
 (yO R r1.2.1 0 999999).bind fun r2 =>
 cond (yP (v5.length + ([(r0.1, (r1.1, (r2.1, ())))]).length))
 (wI R L r2.2.1 (v5 ++ [(r0.1, (r1.1, (r2.1, ())))]) v8 (IntKind.wrap .i64 (v9 + 1)))
 none)
 (some (v5, (v0, ())))) := by kernel_rfl
theorem A5J (x0 : List UInt8) (x1 : Int) : @Eq _ (lS (zD EE R L) x0 x1) ((fX R x0).bind fun r0 =>
 cond (!r0.2.1)
 (some (([], (1, ())), ()))
 (cond (!(eqI (r0.1.length : Int) x1))
 (some (([], (1, ())), ()))
 (some ((r0.1, (0, ())), ())))) := by kernel_rfl
theorem AD7 (x0 : d87) : @Eq _ (zO (zD EE R L) x0) (cond (decide ((x0.1.length : Int) ≤ x0.2.1))
 (some (-1, (x0, ())))
 (cond (zA (IntKind.wrap .i64 ((IntKind.wrap .i64 (x0.2.1 + 1)) - 1)))
 (cond (Nat.blt (IntKind.wrap .i64 ((IntKind.wrap .i64 (x0.2.1 + 1)) - 1)).toNat x0.1.length)
 (some (x0.1.getD (IntKind.wrap .i64 ((IntKind.wrap .i64 (x0.2.1 + 1)) - 1)).toNat 0, ((x0.1, (IntKind.wrap .i64 (x0.2.1 + 1), x0.2.2)), ())))
 none)
 none)) := by kernel_rfl
theorem aV (x0 : d87) (x1 : Int) : @Eq _ (yR (zD EE R L) x0 x1) ((zO R x0).bind fun r0 =>
 (tG R r0.1 0 x1).bind fun r1 =>
 cond (!r1.1)
 (some (0, ((r0.2.1.1, (IntKind.wrap .i64 ((r0.2.1.1.length : Int) + 1), r0.2.1.2.2)), ())))
 (some (r0.1, (r0.2.1, ())))) := by kernel_rfl
theorem AD9 (x0:d87):@Eq _ (tJ (zD EE R L) x0) (yS R L x0 x0.2.1):=by kernel_rfl
theorem qY (v0 : d87) (v3 : Int) : @Eq _ (yS R L v0 v3 ([1, 0, 1, 0] ++ [0])) (cond (decide (v3 < (v0.1.length : Int)))
 (cond (zA v3)
 (cond (Nat.blt v3.toNat v0.1.length)
 (cond (!(eqI (v0.1.getD v3.toNat 0) 0))
 (some (false, (v0, ())))
 (yS R L v0 (IntKind.wrap .i64 (v3 + 1))))
 none)
 none)
 (some (decide (v0.2.1 ≤ (v0.1.length : Int)), (v0, ())))) := by kernel_rfl
theorem Ap2 (x0 : List UInt8) : @Eq _ (jA (zD EE R L) x0) ((lS R x0 7).bind fun r0 =>
 (yR R r0.1 2).bind fun r1 =>
 wZ R L r1.2.1 [] r1.1) := by kernel_rfl
theorem bJ (v4 : d87) (v5 : List d69) (v6 : Int) : @Eq _ (wZ R L v4 v5 v6 ([1, 1, 1, 0, 1, 0] ++ [0])) (cond (decide (0 < v6))
 ((zO R v4).bind fun r0 =>
 (zO R r0.2.1).bind fun r1 =>
 (zO R r1.2.1).bind fun r2 =>
 cond (yP (v5.length + ([(r0.1, (r1.1, (r2.1, ())))]).length))
 (wZ R L r2.2.1 (v5 ++ [(r0.1, (r1.1, (r2.1, ())))]) (IntKind.wrap .i64 (v6 - 1)))
 none)
 ((tJ R v4).bind fun r0 =>
 cond r0.1
 ((fT R v5).bind fun r1 =>
 some (v5, (r1.1, ())))
 (some (v5, (false, ()))))) := by kernel_rfl
theorem A2K (x0 : List Int) (x1 : Int) : @Eq _ (cN (zD EE R L) x0 x1) (cond (yP (x0.length + ([IntKind.wrap .u8 x1, IntKind.wrap .u8 (Int.fdiv x1 (2 ^ (Min.min (8 : Int).toNat (IntKind.bits .i64)))), IntKind.wrap .u8 (Int.fdiv x1 (2 ^ (Min.min (16 : Int).toNat (IntKind.bits .i64)))), IntKind.wrap .u8 (Int.fdiv x1 (2 ^ (Min.min (24 : Int).toNat (IntKind.bits .i64))))]).length))
 (some (x0 ++ [IntKind.wrap .u8 x1, IntKind.wrap .u8 (Int.fdiv x1 (2 ^ (Min.min (8 : Int).toNat (IntKind.bits .i64)))), IntKind.wrap .u8 (Int.fdiv x1 (2 ^ (Min.min (16 : Int).toNat (IntKind.bits .i64)))), IntKind.wrap .u8 (Int.fdiv x1 (2 ^ (Min.min (24 : Int).toNat (IntKind.bits .i64))))], ()))
 none) := by kernel_rfl
theorem A3L:@Eq _ (AF5 (zD EE R L)) (some ([1779033703,3144134277,1013904242,2773480762,1359893119,2600822924,528734635,1541459225],())):=by kernel_rfl
theorem A5I : @Eq _ (AA2 (zD EE R L)) ((AF5 R).bind fun r0 =>
 some ((r0.1, ([], (0, ()))), ())) := by kernel_rfl
theorem A4M (x0 : List UInt8) (x1 : Int) : @Eq _ (aX (zD EE R L) x0 x1) (cond (zA x1)
 (cond (Nat.blt x1.toNat x0.length)
 (cond (zA (IntKind.wrap .i64 (x1 + 1)))
 (cond (Nat.blt (IntKind.wrap .i64 (x1 + 1)).toNat x0.length)
 (cond (zA (IntKind.wrap .i64 (x1 + 2)))
 (cond (Nat.blt (IntKind.wrap .i64 (x1 + 2)).toNat x0.length)
 (cond (zA (IntKind.wrap .i64 (x1 + 3)))
 (cond (Nat.blt (IntKind.wrap .i64 (x1 + 3)).toNat x0.length)
 (some (xH .or .i64 (xH .or .i64 (xH .or .i64 (IntKind.wrap .i64 ((IntKind.wrap .i64 (UInt8.toNat (x0.getD x1.toNat 0) : Int)) * (2 ^ (Min.min (24 : Int).toNat (IntKind.bits .i64))))) (IntKind.wrap .i64 ((IntKind.wrap .i64 (UInt8.toNat (x0.getD (IntKind.wrap .i64 (x1 + 1)).toNat 0) : Int)) * (2 ^ (Min.min (16 : Int).toNat (IntKind.bits .i64)))))) (IntKind.wrap .i64 ((IntKind.wrap .i64 (UInt8.toNat (x0.getD (IntKind.wrap .i64 (x1 + 2)).toNat 0) : Int)) * (2 ^ (Min.min (8 : Int).toNat (IntKind.bits .i64)))))) (IntKind.wrap .i64 (UInt8.toNat (x0.getD (IntKind.wrap .i64 (x1 + 3)).toNat 0) : Int)), ()))
 none)
 none)
 none)
 none)
 none)
 none)
 none)
 none) := by kernel_rfl
theorem A2I (x0 x1 : Int) : @Eq _ (yF (zD EE R L) x0 x1) (cond (decide (x1 < 0))
 none
 (cond (decide ((IntKind.wrap .i64 (32 - x1)) < 0))
 none
 (some (xH .and .i64 (xH .or .i64 (Int.fdiv x0 (2 ^ (Min.min x1.toNat (IntKind.bits .i64)))) (IntKind.wrap .i64 (x0 * (2 ^ (Min.min (IntKind.wrap .i64 (32 - x1)).toNat (IntKind.bits .i64)))))) 4294967295, ())))) := by kernel_rfl
theorem A28:@Eq _ (AH6 (zD EE R L)) (some ([1116352408,1899447441,3049323471,3921009573,961987163,1508970993,2453635748,2870763221,3624381080,310598401,607225278,1426881987,1925078388,2162078206,2614888103,3248222580,3835390401,4022224774,264347078,604807628,770255983,1249150122,1555081692,1996064986,2554220882,2821834349,2952996808,3210313671,3336571891,3584528711,113926993,338241895,666307205,773529912,1294757372,1396182291,1695183700,1986661051,2177026350,2456956037,2730485921,2820302411,3259730800,3345764771,3516065817,3600352804,4094571909,275423344,430227734,506948616,659060556,883997877,958139571,1322822218,1537002063,1747873779,1955562222,2024104815,2227730452,2361852424,2428436474,2756734187,3204031479,3329325298],())):=by kernel_rfl
theorem A2x (x0:List Int) (x1:List UInt8):@Eq _ (cM (zD EE R L) x0 x1) (uG R L x1 x0 (List.replicate 8 0) [0,0,0,0,0,0,0,0,0,0,0,0,0,0,0,0,0,0,0,0,0,0,0,0,0,0,0,0,0,0,0,0,0,0,0,0,0,0,0,0,0,0,0,0,0,0,0,0,0,0,0,0,0,0,0,0,0,0,0,0,0,0,0,0] 0):=by kernel_rfl
theorem AN6 (v1 : List UInt8) (v2 v4 v5 : List Int) (v6 : Int) : @Eq _ (uG R L v1 v2 v4 v5 v6 ([1, 1, 0, 1, 0] ++ [0])) (cond (decide (v6 < 16))
 ((aX R v1 (IntKind.wrap .i64 (4 * v6))).bind fun r0 =>
 cond (zA v6)
 (cond (Nat.blt v6.toNat 64)
 (uG R L v1 v2 v4 (v5.set v6.toNat r0.1) (IntKind.wrap .i64 (v6 + 1)))
 none)
 none)
 (xP R L v2 v4 v5 16)) := by kernel_rfl
theorem AM6 (v2 v4 v5 : List Int) (v7 : Int) : @Eq _ (xP R L v2 v4 v5 v7 ([1, 1, 1, 0, 1, 0] ++ [0])) (cond (decide (v7 < 64))
 (cond (zA (IntKind.wrap .i64 (v7 - 15)))
 (cond (Nat.blt (IntKind.wrap .i64 (v7 - 15)).toNat 64)
 ((yF R (v5.getD (IntKind.wrap .i64 (v7 - 15)).toNat 0) 7).bind fun r0 =>
 cond (zA (IntKind.wrap .i64 (v7 - 15)))
 (cond (Nat.blt (IntKind.wrap .i64 (v7 - 15)).toNat 64)
 ((yF R (v5.getD (IntKind.wrap .i64 (v7 - 15)).toNat 0) 18).bind fun r1 =>
 cond (zA (IntKind.wrap .i64 (v7 - 15)))
 (cond (Nat.blt (IntKind.wrap .i64 (v7 - 15)).toNat 64)
 (cond (zA (IntKind.wrap .i64 (v7 - 2)))
 (cond (Nat.blt (IntKind.wrap .i64 (v7 - 2)).toNat 64)
 ((yF R (v5.getD (IntKind.wrap .i64 (v7 - 2)).toNat 0) 17).bind fun r2 =>
 cond (zA (IntKind.wrap .i64 (v7 - 2)))
 (cond (Nat.blt (IntKind.wrap .i64 (v7 - 2)).toNat 64)
 ((yF R (v5.getD (IntKind.wrap .i64 (v7 - 2)).toNat 0) 19).bind fun r3 =>
 cond (zA (IntKind.wrap .i64 (v7 - 2)))
 (cond (Nat.blt (IntKind.wrap .i64 (v7 - 2)).toNat 64)
 (cond (zA (IntKind.wrap .i64 (v7 - 16)))
 (cond (Nat.blt (IntKind.wrap .i64 (v7 - 16)).toNat 64)
 (cond (zA (IntKind.wrap .i64 (v7 - 7)))
 (cond (Nat.blt (IntKind.wrap .i64 (v7 - 7)).toNat 64)
 (cond (zA v7)
 (cond (Nat.blt v7.toNat 64)
 (xP R L v2 v4 (v5.set v7.toNat (xH .and .i64 (IntKind.wrap .i64 ((IntKind.wrap .i64 ((IntKind.wrap .i64 ((v5.getD (IntKind.wrap .i64 (v7 - 16)).toNat 0) + (xH .xor .i64 (xH .xor .i64 r0.1 r1.1) (Int.fdiv (v5.getD (IntKind.wrap .i64 (v7 - 15)).toNat 0) (2 ^ (Min.min (3 : Int).toNat (IntKind.bits .i64))))))) + (v5.getD (IntKind.wrap .i64 (v7 - 7)).toNat 0))) + (xH .xor .i64 (xH .xor .i64 r2.1 r3.1) (Int.fdiv (v5.getD (IntKind.wrap .i64 (v7 - 2)).toNat 0) (2 ^ (Min.min (10 : Int).toNat (IntKind.bits .i64))))))) 4294967295)) (IntKind.wrap .i64 (v7 + 1)))
 none)
 none)
 none)
 none)
 none)
 none)
 none)
 none)
 none)
 none)
 none)
 none)
 none)
 none)
 none)
 none)
 none)
 none)
 ((AH6 R).bind fun r0 =>
 wB R L v2 v4 v5 r0.1 v2 0)) := by kernel_rfl
theorem AO6 (v2 v4 v5 v10 v11 : List Int) (v12 : Int) : @Eq _ (wB R L v2 v4 v5 v10 v11 v12 ([1, 1, 1, 1, 1, 1, 0, 1, 0] ++ [0])) (cond (decide (v12 < 64))
 ((yF R (v11.getD (4 : Int).toNat 0) 6).bind fun r0 =>
 (yF R (v11.getD (4 : Int).toNat 0) 11).bind fun r1 =>
 (yF R (v11.getD (4 : Int).toNat 0) 25).bind fun r2 =>
 cond (zA v12)
 (cond (Nat.blt v12.toNat 64)
 (cond (zA v12)
 (cond (Nat.blt v12.toNat 64)
 ((yF R (v11.getD (0 : Int).toNat 0) 2).bind fun r3 =>
 (yF R (v11.getD (0 : Int).toNat 0) 13).bind fun r4 =>
 (yF R (v11.getD (0 : Int).toNat 0) 22).bind fun r5 =>
 wB R L v2 v4 v5 v10 [xH .and .i64 (IntKind.wrap .i64 ((IntKind.wrap .i64 ((IntKind.wrap .i64 ((IntKind.wrap .i64 ((IntKind.wrap .i64 ((IntKind.wrap .i64 ((v11.getD (7 : Int).toNat 0) + (xH .xor .i64 (xH .xor .i64 r0.1 r1.1) r2.1))) + (xH .xor .i64 (xH .and .i64 (v11.getD (4 : Int).toNat 0) (v11.getD (5 : Int).toNat 0)) (xH .and .i64 (xH .xor .i64 4294967295 (v11.getD (4 : Int).toNat 0)) (v11.getD (6 : Int).toNat 0))))) + (v10.getD v12.toNat 0))) + (v5.getD v12.toNat 0))) + (xH .xor .i64 (xH .xor .i64 r3.1 r4.1) r5.1))) + (xH .xor .i64 (xH .xor .i64 (xH .and .i64 (v11.getD (0 : Int).toNat 0) (v11.getD (1 : Int).toNat 0)) (xH .and .i64 (v11.getD (0 : Int).toNat 0) (v11.getD (2 : Int).toNat 0))) (xH .and .i64 (v11.getD (1 : Int).toNat 0) (v11.getD (2 : Int).toNat 0))))) 4294967295, v11.getD (0 : Int).toNat 0, v11.getD (1 : Int).toNat 0, v11.getD (2 : Int).toNat 0, xH .and .i64 (IntKind.wrap .i64 ((v11.getD (3 : Int).toNat 0) + (IntKind.wrap .i64 ((IntKind.wrap .i64 ((IntKind.wrap .i64 ((IntKind.wrap .i64 ((v11.getD (7 : Int).toNat 0) + (xH .xor .i64 (xH .xor .i64 r0.1 r1.1) r2.1))) + (xH .xor .i64 (xH .and .i64 (v11.getD (4 : Int).toNat 0) (v11.getD (5 : Int).toNat 0)) (xH .and .i64 (xH .xor .i64 4294967295 (v11.getD (4 : Int).toNat 0)) (v11.getD (6 : Int).toNat 0))))) + (v10.getD v12.toNat 0))) + (v5.getD v12.toNat 0))))) 4294967295, v11.getD (4 : Int).toNat 0, v11.getD (5 : Int).toNat 0, v11.getD (6 : Int).toNat 0] (IntKind.wrap .i64 (v12 + 1)))
 none)
 none)
 none)
 none)
 (wM R L v2 v4 v11 0)) := by kernel_rfl
theorem AO2 (v2 v4 v11 : List Int) (v18 : Int) : @Eq _ (wM R L v2 v4 v11 v18 ([1, 1, 1, 1, 1, 1, 1, 0, 1, 0] ++ [0])) (cond (decide (v18 < 8))
 (cond (zA v18)
 (cond (Nat.blt v18.toNat 8)
 (cond (zA v18)
 (cond (Nat.blt v18.toNat 8)
 (cond (zA v18)
 (cond (Nat.blt v18.toNat 8)
 (wM R L (v2.set v18.toNat (xH .and .i64 (IntKind.wrap .i64 ((v2.getD v18.toNat 0) + (v11.getD v18.toNat 0))) 4294967295)) v4 v11 (IntKind.wrap .i64 (v18 + 1)))
 none)
 none)
 none)
 none)
 none)
 none)
 (some (v2, ()))) := by kernel_rfl
theorem A4f (x0 : d91) (x1 : List UInt8) : @Eq _ (lY (zD EE R L) x0 x1) (cond (yP (x0.2.1.length + x1.length))
 (qN R L (x0.1, (x0.2.1 ++ x1, (IntKind.wrap .i64 (x0.2.2.1 + (x1.length : Int)), x0.2.2.2))) (List.replicate 8 0, ([], (0, ()))))
 none) := by kernel_rfl
theorem AW9 (v2 v4 : d91) : @Eq _ (qN R L v2 v4 ([1, 1, 1, 0, 0] ++ [0])) (cond (decide (64 ≤ (v2.2.1.length : Int)))
 ((cM R v2.1 v2.2.1).bind fun r0 =>
 cond (Nat.ble v2.2.1.length v2.2.1.length)
 (cond (Nat.ble (64 : Int).toNat v2.2.1.length)
 (qN R L (r0.1, (List.drop (64 : Int).toNat (List.take v2.2.1.length v2.2.1), v2.2.2)) v4)
 none)
 none)
 (some (v2, ()))) := by kernel_rfl
theorem A7q (x0:d91):@Eq _ (AJ2 (zD EE R L) x0) (oE R L x0 (IntKind.wrap .i64 (8 * x0.2.2.1)) [128]):=by kernel_rfl
theorem Ac8 (v1 : d91) (v3 : Int) (v4 : List Int) : @Eq _ (oE R L v1 v3 v4 ([1, 1, 1, 0, 0] ++ [0])) (cond (!(eqI (Int.tmod (IntKind.wrap .i64 (v1.2.2.1 + (v4.length : Int))) 64) 56))
 (cond (yP (v4.length + ([(0 : Int)]).length))
 (oE R L v1 v3 (v4 ++ [0]))
 none)
 (vQ R L v1 v3 v4 7)) := by kernel_rfl
theorem Ad9 (v1 : d91) (v3 : Int) (v4 : List Int) (v5 : Int) : @Eq _ (vQ R L v1 v3 v4 v5 ([1, 1, 1, 1, 0, 1, 0] ++ [0])) (cond (decide (0 ≤ v5))
 (cond (decide ((IntKind.wrap .i64 (8 * v5)) < 0))
 none
 (cond (yP (v4.length + ([IntKind.wrap .u8 (Int.fdiv v3 (2 ^ (Min.min (IntKind.wrap .i64 (8 * v5)).toNat (IntKind.bits .i64))))]).length))
 (vQ R L v1 v3 (v4 ++ [IntKind.wrap .u8 (Int.fdiv v3 (2 ^ (Min.min (IntKind.wrap .i64 (8 * v5)).toNat (IntKind.bits .i64))))]) (IntKind.wrap .i64 (v5 - 1)))
 none))
 ((lY R v1 (List.map (fun (n : Int) => UInt8.ofNat n.toNat) v4)).bind fun r0 =>
 vM R L r0.1 [] 0)) := by kernel_rfl
theorem Af6 (v1 : d91) (v6 : List Int) (v7 : Int) : @Eq _ (vM R L v1 v6 v7 ([1, 1, 1, 1, 1, 1, 1, 0, 1, 0] ++ [0])) (cond (decide (v7 < 8))
 (tX R L v1 v6 v7 3)
 (some (List.map (fun (n : Int) => UInt8.ofNat n.toNat) v6, ()))) := by kernel_rfl
theorem Ad1 (v1 : d91) (v6 : List Int) (v7 v8 : Int) : @Eq _ (tX R L v1 v6 v7 v8 ([1, 1, 1, 1, 1, 1, 1, 0, 1, 0, 0, 1, 0, 0, 1, 0] ++ [0])) (cond (decide (0 ≤ v8))
 (cond (zA v7)
 (cond (Nat.blt v7.toNat 8)
 (cond (decide ((IntKind.wrap .i64 (8 * v8)) < 0))
 none
 (cond (yP (v6.length + ([IntKind.wrap .u8 (Int.fdiv (v1.1.getD v7.toNat 0) (2 ^ (Min.min (IntKind.wrap .i64 (8 * v8)).toNat (IntKind.bits .i64))))]).length))
 (tX R L v1 (v6 ++ [IntKind.wrap .u8 (Int.fdiv (v1.1.getD v7.toNat 0) (2 ^ (Min.min (IntKind.wrap .i64 (8 * v8)).toNat (IntKind.bits .i64))))]) v7 (IntKind.wrap .i64 (v8 - 1)))
 none))
 none)
 none)
 (vM R L v1 v6 (IntKind.wrap .i64 (v7 + 1)))) := by kernel_rfl
theorem A8Z (x0 : List UInt8) : @Eq _ (aA (zD EE R L) x0) ((AA2 R).bind fun r0 =>
 (lY R r0.1 x0).bind fun r1 =>
 (AJ2 R r1.1).bind fun r2 =>
 some (r2.1, ())) := by kernel_rfl
theorem A4a:@Eq _ (AR7 (zD EE R L)) (some (([1779033703,3144134277,1013904242,2773480762,1359893119,2600822924,528734635,1541459225],([],(0,()))),())):=by kernel_rfl
theorem A0Y:@Eq _ (AB8 (zD EE R L)) (some ([1116352408,1899447441,3049323471,3921009573,961987163,1508970993,2453635748,2870763221,3624381080,310598401,607225278,1426881987,1925078388,2162078206,2614888103,3248222580,3835390401,4022224774,264347078,604807628,770255983,1249150122,1555081692,1996064986,2554220882,2821834349,2952996808,3210313671,3336571891,3584528711,113926993,338241895,666307205,773529912,1294757372,1396182291,1695183700,1986661051,2177026350,2456956037,2730485921,2820302411,3259730800,3345764771,3516065817,3600352804,4094571909,275423344,430227734,506948616,659060556,883997877,958139571,1322822218,1537002063,1747873779,1955562222,2024104815,2227730452,2361852424,2428436474,2756734187,3204031479,3329325298],())):=by kernel_rfl
theorem kA (x0 x1 : Int) : @Eq _ (yW (zD EE R L) x0 x1) (cond (decide ((IntKind.wrap .u64 (32 - (xH .and .u64 (IntKind.wrap .u64 x1) 31))) < 0))
 none
 (some (xH .or .u32 (IntKind.wrap .u32 (x0 * (2 ^ (Min.min (xH .and .u64 (IntKind.wrap .u64 x1) 31).toNat (IntKind.bits .u32))))) (Int.fdiv x0 (2 ^ (Min.min (IntKind.wrap .u64 (32 - (xH .and .u64 (IntKind.wrap .u64 x1) 31))).toNat (IntKind.bits .u32)))), ()))) := by kernel_rfl
theorem A7R (x0 x1 : Int) : @Eq _ (xQ (zD EE R L) x0 x1) ((yW R x0 (BV4 .i64 x1)).bind fun r0 =>
 some (r0.1, ())) := by kernel_rfl
theorem AS6 (x0:d91) (x1:List UInt8) (x2:List Int):@Eq _ (nC (zD EE R L) x0 x1 x2) (xB R L x0 x1 x2 (List.replicate 64 0) 0):=by kernel_rfl
theorem fB (v0 : d91) (v1 : List UInt8) (v2 v6 : List Int) (v25 : Int) : @Eq _ (xB R L v0 v1 v2 v6 v25 ([1, 0, 1, 0] ++ [0])) (cond (decide (v25 < 16))
 (cond (zA (IntKind.wrap .i64 (4 * v25)))
 (cond (Nat.blt (IntKind.wrap .i64 (4 * v25)).toNat v1.length)
 (cond (zA (IntKind.wrap .i64 ((IntKind.wrap .i64 (4 * v25)) + 1)))
 (cond (Nat.blt (IntKind.wrap .i64 ((IntKind.wrap .i64 (4 * v25)) + 1)).toNat v1.length)
 (cond (zA (IntKind.wrap .i64 ((IntKind.wrap .i64 (4 * v25)) + 2)))
 (cond (Nat.blt (IntKind.wrap .i64 ((IntKind.wrap .i64 (4 * v25)) + 2)).toNat v1.length)
 (cond (zA (IntKind.wrap .i64 ((IntKind.wrap .i64 (4 * v25)) + 3)))
 (cond (Nat.blt (IntKind.wrap .i64 ((IntKind.wrap .i64 (4 * v25)) + 3)).toNat v1.length)
 (cond (zA v25)
 (cond (Nat.blt v25.toNat 64)
 (xB R L v0 v1 v2 (v6.set v25.toNat (xH .or .u32 (xH .or .u32 (xH .or .u32 (IntKind.wrap .u32 ((IntKind.wrap .u32 (UInt8.toNat (v1.getD (IntKind.wrap .i64 (4 * v25)).toNat 0) : Int)) * (2 ^ (Min.min (24 : Int).toNat (IntKind.bits .u32))))) (IntKind.wrap .u32 ((IntKind.wrap .u32 (UInt8.toNat (v1.getD (IntKind.wrap .i64 ((IntKind.wrap .i64 (4 * v25)) + 1)).toNat 0) : Int)) * (2 ^ (Min.min (16 : Int).toNat (IntKind.bits .u32)))))) (IntKind.wrap .u32 ((IntKind.wrap .u32 (UInt8.toNat (v1.getD (IntKind.wrap .i64 ((IntKind.wrap .i64 (4 * v25)) + 2)).toNat 0) : Int)) * (2 ^ (Min.min (8 : Int).toNat (IntKind.bits .u32)))))) (IntKind.wrap .u32 (UInt8.toNat (v1.getD (IntKind.wrap .i64 ((IntKind.wrap .i64 (4 * v25)) + 3)).toNat 0) : Int)))) (IntKind.wrap .i64 (v25 + 1)))
 none)
 none)
 none)
 none)
 none)
 none)
 none)
 none)
 none)
 none)
 (zU R L v0 v2 v6 16)) := by kernel_rfl
theorem gZ (v0 : d91) (v2 v6 : List Int) (v8 : Int) : @Eq _ (zU R L v0 v2 v6 v8 ([1, 1, 0, 1, 0] ++ [0])) (cond (decide (v8 < 64))
 (cond (zA (IntKind.wrap .i64 (v8 - 15)))
 (cond (Nat.blt (IntKind.wrap .i64 (v8 - 15)).toNat 64)
 (cond (zA (IntKind.wrap .i64 (v8 - 2)))
 (cond (Nat.blt (IntKind.wrap .i64 (v8 - 2)).toNat 64)
 (cond (zA (IntKind.wrap .i64 (v8 - 16)))
 (cond (Nat.blt (IntKind.wrap .i64 (v8 - 16)).toNat 64)
 ((xQ R (v6.getD (IntKind.wrap .i64 (v8 - 15)).toNat 0) 7).bind fun r0 =>
 (xQ R (v6.getD (IntKind.wrap .i64 (v8 - 15)).toNat 0) 18).bind fun r1 =>
 cond (zA (IntKind.wrap .i64 (v8 - 7)))
 (cond (Nat.blt (IntKind.wrap .i64 (v8 - 7)).toNat 64)
 ((xQ R (v6.getD (IntKind.wrap .i64 (v8 - 2)).toNat 0) 17).bind fun r2 =>
 (xQ R (v6.getD (IntKind.wrap .i64 (v8 - 2)).toNat 0) 19).bind fun r3 =>
 cond (zA v8)
 (cond (Nat.blt v8.toNat 64)
 (zU R L v0 v2 (v6.set v8.toNat (IntKind.wrap .u32 ((IntKind.wrap .u32 ((IntKind.wrap .u32 ((v6.getD (IntKind.wrap .i64 (v8 - 16)).toNat 0) + (xH .xor .u32 (xH .xor .u32 r0.1 r1.1) (Int.fdiv (v6.getD (IntKind.wrap .i64 (v8 - 15)).toNat 0) (2 ^ (Min.min (3 : Int).toNat (IntKind.bits .u32))))))) + (v6.getD (IntKind.wrap .i64 (v8 - 7)).toNat 0))) + (xH .xor .u32 (xH .xor .u32 r2.1 r3.1) (Int.fdiv (v6.getD (IntKind.wrap .i64 (v8 - 2)).toNat 0) (2 ^ (Min.min (10 : Int).toNat (IntKind.bits .u32)))))))) (IntKind.wrap .i64 (v8 + 1)))
 none)
 none)
 none)
 none)
 none)
 none)
 none)
 none)
 none)
 none)
 (zW R L v0 v2 v6 (List.replicate 8 0) v0.1 0)) := by kernel_rfl
theorem fC (v0 : d91) (v2 v6 v11 v104 : List Int) (v105 : Int) : @Eq _ (zW R L v0 v2 v6 v11 v104 v105 ([1, 1, 1, 1, 0, 1, 0] ++ [0])) (cond (decide (v105 < 8))
 (cond (zA v105)
 (cond (Nat.blt v105.toNat 8)
 (cond (zA v105)
 (cond (Nat.blt v105.toNat 8)
 (zW R L v0 v2 v6 (v11.set v105.toNat (IntKind.wrap .u32 (v104.getD v105.toNat 0))) v104 (IntKind.wrap .i64 (v105 + 1)))
 none)
 none)
 none)
 none)
 (yI R L v0 v2 v6 v11 0)) := by kernel_rfl
theorem fE (v0 : d91) (v2 v6 v11 : List Int) (v114 : Int) : @Eq _ (yI R L v0 v2 v6 v11 v114 ([1, 1, 1, 1, 1, 0, 1, 0] ++ [0])) (cond (decide (v114 < 64))
 ((xQ R (v11.getD (4 : Int).toNat 0) 6).bind fun r0 =>
 (xQ R (v11.getD (4 : Int).toNat 0) 11).bind fun r1 =>
 (xQ R (v11.getD (4 : Int).toNat 0) 25).bind fun r2 =>
 cond (zA v114)
 (cond (Nat.blt v114.toNat 64)
 (cond (zA v114)
 (cond (Nat.blt v114.toNat 64)
 ((xQ R (v11.getD (0 : Int).toNat 0) 2).bind fun r3 =>
 (xQ R (v11.getD (0 : Int).toNat 0) 13).bind fun r4 =>
 (xQ R (v11.getD (0 : Int).toNat 0) 22).bind fun r5 =>
 yI R L v0 v2 v6 [IntKind.wrap .u32 ((IntKind.wrap .u32 ((IntKind.wrap .u32 ((IntKind.wrap .u32 ((IntKind.wrap .u32 ((v11.getD (7 : Int).toNat 0) + (xH .xor .u32 (xH .xor .u32 r0.1 r1.1) r2.1))) + (xH .xor .u32 (xH .and .u32 (v11.getD (4 : Int).toNat 0) (v11.getD (5 : Int).toNat 0)) (xH .and .u32 (xH .xor .u32 ((2 ^ (IntKind.bits .u32)) - 1) (v11.getD (4 : Int).toNat 0)) (v11.getD (6 : Int).toNat 0))))) + (v2.getD v114.toNat 0))) + (v6.getD v114.toNat 0))) + (IntKind.wrap .u32 ((xH .xor .u32 (xH .xor .u32 r3.1 r4.1) r5.1) + (xH .xor .u32 (xH .xor .u32 (xH .and .u32 (v11.getD (0 : Int).toNat 0) (v11.getD (1 : Int).toNat 0)) (xH .and .u32 (v11.getD (0 : Int).toNat 0) (v11.getD (2 : Int).toNat 0))) (xH .and .u32 (v11.getD (1 : Int).toNat 0) (v11.getD (2 : Int).toNat 0)))))), v11.getD (0 : Int).toNat 0, v11.getD (1 : Int).toNat 0, v11.getD (2 : Int).toNat 0, IntKind.wrap .u32 ((v11.getD (3 : Int).toNat 0) + (IntKind.wrap .u32 ((IntKind.wrap .u32 ((IntKind.wrap .u32 ((IntKind.wrap .u32 ((v11.getD (7 : Int).toNat 0) + (xH .xor .u32 (xH .xor .u32 r0.1 r1.1) r2.1))) + (xH .xor .u32 (xH .and .u32 (v11.getD (4 : Int).toNat 0) (v11.getD (5 : Int).toNat 0)) (xH .and .u32 (xH .xor .u32 ((2 ^ (IntKind.bits .u32)) - 1) (v11.getD (4 : Int).toNat 0)) (v11.getD (6 : Int).toNat 0))))) + (v2.getD v114.toNat 0))) + (v6.getD v114.toNat 0)))), v11.getD (4 : Int).toNat 0, v11.getD (5 : Int).toNat 0, v11.getD (6 : Int).toNat 0] (IntKind.wrap .i64 (v114 + 1)))
 none)
 none)
 none)
 none)
 (yH R L v0 v11 0)) := by kernel_rfl
theorem fF (v0 : d91) (v194 : List Int) (v195 : Int) : @Eq _ (yH R L v0 v194 v195 ([1, 1, 1, 1, 1, 1, 1, 0] ++ [0])) (cond (decide (v195 < 8))
 (cond (zA v195)
 (cond (Nat.blt v195.toNat 8)
 (cond (zA v195)
 (cond (Nat.blt v195.toNat 8)
 (cond (zA v195)
 (cond (Nat.blt v195.toNat 8)
 (yH R L (v0.1.set v195.toNat (IntKind.wrap .i64 (IntKind.wrap .u32 ((IntKind.wrap .u32 (v0.1.getD v195.toNat 0)) + (v194.getD v195.toNat 0)))), v0.2) v194 (IntKind.wrap .i64 (v195 + 1)))
 none)
 none)
 none)
 none)
 none)
 none)
 (some (v0, ()))) := by kernel_rfl
theorem A0R (x0 : d91) (x1 : List UInt8) : @Eq _ (oH (zD EE R L) x0 x1) ((AB8 R).bind fun r0 =>
 cond (yP (x0.2.1.length + x1.length))
 (sM R L (x0.2.1 ++ x1) (x0.1, (x0.2.1, (IntKind.wrap .i64 (x0.2.2.1 + (x1.length : Int)), x0.2.2.2))) (List.replicate 8 0, ([], (0, ()))) r0.1)
 none) := by kernel_rfl
theorem AI0 (v1 : List UInt8) (v2 v4 : d91) (v5 : List Int) : @Eq _ (sM R L v1 v2 v4 v5 ([1, 1, 1, 1, 0, 0] ++ [0])) (cond (decide (64 ≤ (v1.length : Int)))
 (cond (Nat.ble (64 : Int).toNat v1.length)
 ((nC R v2 (List.drop 0 (List.take (64 : Int).toNat v1)) v5).bind fun r0 =>
 cond (Nat.ble v1.length v1.length)
 (cond (Nat.ble (64 : Int).toNat v1.length)
 (sM R L (List.drop (64 : Int).toNat (List.take v1.length v1)) r0.1 v4 v5)
 none)
 none)
 none)
 (some ((v2.1, (v1, v2.2.2)), ()))) := by kernel_rfl
theorem A24 (x0 : d91) : @Eq _ (cJ (zD EE R L) x0) ((oP R [0] (Int.tmod (IntKind.wrap .i64 (119 - (x0.2.1.length : Int))) 64)).bind fun r0 =>
 cond (yP (([(128 : UInt8)]).length + r0.1.length))
 (xX R L x0 (IntKind.wrap .i64 (8 * x0.2.2.1)) ([128] ++ r0.1) 7)
 none) := by kernel_rfl
theorem AP5 (v1 : d91) (v3 : Int) (v4 : List UInt8) (v5 : Int) : @Eq _ (xX R L v1 v3 v4 v5 ([1, 1, 1, 0, 1, 0] ++ [0])) (cond (decide (0 ≤ v5))
 (cond (decide ((IntKind.wrap .i64 (8 * v5)) < 0))
 none
 (cond (yP (v4.length + (List.map (fun (n : Int) => UInt8.ofNat n.toNat) [IntKind.wrap .u8 (Int.fdiv v3 (2 ^ (Min.min (IntKind.wrap .i64 (8 * v5)).toNat (IntKind.bits .i64))))]).length))
 (xX R L v1 v3 (v4 ++ (List.map (fun (n : Int) => UInt8.ofNat n.toNat) [IntKind.wrap .u8 (Int.fdiv v3 (2 ^ (Min.min (IntKind.wrap .i64 (8 * v5)).toNat (IntKind.bits .i64))))])) (IntKind.wrap .i64 (v5 - 1)))
 none))
 ((oH R v1 v4).bind fun r0 =>
 vH R L [] r0.1.1 0)) := by kernel_rfl
theorem AO4 (v6 v35 : List Int) (v36 : Int) : @Eq _ (vH R L v6 v35 v36 ([1, 1, 1, 1, 1, 0, 1, 0] ++ [0])) (cond (decide (v36 < 8))
 (cond (zA v36)
 (cond (Nat.blt v36.toNat 8)
 (cond (yP (v6.length + ([IntKind.wrap .u8 (Int.fdiv (v35.getD v36.toNat 0) (2 ^ (Min.min (24 : Int).toNat (IntKind.bits .i64)))), IntKind.wrap .u8 (Int.fdiv (v35.getD v36.toNat 0) (2 ^ (Min.min (16 : Int).toNat (IntKind.bits .i64)))), IntKind.wrap .u8 (Int.fdiv (v35.getD v36.toNat 0) (2 ^ (Min.min (8 : Int).toNat (IntKind.bits .i64)))), IntKind.wrap .u8 (v35.getD v36.toNat 0)]).length))
 (vH R L (v6 ++ [IntKind.wrap .u8 (Int.fdiv (v35.getD v36.toNat 0) (2 ^ (Min.min (24 : Int).toNat (IntKind.bits .i64)))), IntKind.wrap .u8 (Int.fdiv (v35.getD v36.toNat 0) (2 ^ (Min.min (16 : Int).toNat (IntKind.bits .i64)))), IntKind.wrap .u8 (Int.fdiv (v35.getD v36.toNat 0) (2 ^ (Min.min (8 : Int).toNat (IntKind.bits .i64)))), IntKind.wrap .u8 (v35.getD v36.toNat 0)]) v35 (IntKind.wrap .i64 (v36 + 1)))
 none)
 none)
 none)
 (some (List.map (fun (n : Int) => UInt8.ofNat n.toNat) v6, ()))) := by kernel_rfl
theorem A7E (x0 : List UInt8) : @Eq _ (eC (zD EE R L) x0) ((AR7 R).bind fun r0 =>
 (oH R r0.1 x0).bind fun r1 =>
 (cJ R r1.1).bind fun r2 =>
 some (r2.1, ())) := by kernel_rfl
theorem A7G (x0 x1:Int):@Eq _ (vE (zD EE R L) x0 x1) (sW R L x0 [] x1 0):=by kernel_rfl
theorem Ae4 (v0 : Int) (v5 : List Int) (v7 v8 : Int) : @Eq _ (sW R L v0 v5 v7 v8 ([1, 1, 0, 1, 0] ++ [0])) (cond (decide (v8 < v7))
 (cond (decide ((IntKind.wrap .i64 (8 * v8)) < 0))
 none
 (cond (yP (v5.length + ([IntKind.wrap .u8 (Int.fdiv v0 (2 ^ (Min.min (IntKind.wrap .i64 (8 * v8)).toNat (IntKind.bits .i64))))]).length))
 (sW R L v0 (v5 ++ [IntKind.wrap .u8 (Int.fdiv v0 (2 ^ (Min.min (IntKind.wrap .i64 (8 * v8)).toNat (IntKind.bits .i64))))]) v7 (IntKind.wrap .i64 (v8 + 1)))
 none))
 (some (List.map (fun (n : Int) => UInt8.ofNat n.toNat) v5, ()))) := by kernel_rfl
theorem Au5 (x0 : List UInt8) : @Eq _ (lI (zD EE R L) x0) (cond (Nat.blt (0 : Int).toNat x0.length)
 (cond (Nat.blt (1 : Int).toNat x0.length)
 (cond (Nat.blt (2 : Int).toNat x0.length)
 (cond (Nat.blt (3 : Int).toNat x0.length)
 (some (xH .or .u32 (xH .or .u32 (xH .or .u32 (IntKind.wrap .u32 (UInt8.toNat (x0.getD (0 : Int).toNat 0) : Int)) (IntKind.wrap .u32 ((IntKind.wrap .u32 (UInt8.toNat (x0.getD (1 : Int).toNat 0) : Int)) * (2 ^ (Min.min (8 : Int).toNat (IntKind.bits .u32)))))) (IntKind.wrap .u32 ((IntKind.wrap .u32 (UInt8.toNat (x0.getD (2 : Int).toNat 0) : Int)) * (2 ^ (Min.min (16 : Int).toNat (IntKind.bits .u32)))))) (IntKind.wrap .u32 ((IntKind.wrap .u32 (UInt8.toNat (x0.getD (3 : Int).toNat 0) : Int)) * (2 ^ (Min.min (24 : Int).toNat (IntKind.bits .u32))))), ()))
 none)
 none)
 none)
 none) := by kernel_rfl
theorem A3v (x0 x1 x2 x3:Int):@Eq _ (AA9 (zD EE R L) x0 x1 x2 x3) (tY R L x0 x1 x2 x3 [[16,12],[8,7]] 0):=by kernel_rfl
theorem AV2 (v0 v1 v2 v3 : Int) (v16 : List (List Int)) (v17 : Int) : @Eq _ (tY R L v0 v1 v2 v3 v16 v17 ([1, 0, 1, 0] ++ [0])) (cond (decide (v17 < 2))
 (cond (zA v17)
 (cond (Nat.blt v17.toNat 2)
 ((yW R (xH .xor .u32 v3 (IntKind.wrap .u32 (v0 + v1))) ((v16.getD v17.toNat (List.replicate 2 0)).getD (0 : Int).toNat 0)).bind fun r0 =>
 (yW R (xH .xor .u32 v1 (IntKind.wrap .u32 (v2 + r0.1))) ((v16.getD v17.toNat (List.replicate 2 0)).getD (1 : Int).toNat 0)).bind fun r1 =>
 tY R L (IntKind.wrap .u32 (v0 + v1)) r1.1 (IntKind.wrap .u32 (v2 + r0.1)) r0.1 v16 (IntKind.wrap .i64 (v17 + 1)))
 none)
 none)
 (some (v0, (v1, (v2, (v3, ())))))) := by kernel_rfl
theorem A7L (x0 x1 : List UInt8) (x2 : Int) : @Eq _ (bE (zD EE R L) x0 x1 x2) (cond (yP (([(101 : UInt8), 120, 112, 97, 110, 100, 32, 51, 50, 45, 98, 121, 116, 101, 32, 107]).length + x0.length))
 ((vE R x2 4).bind fun r0 =>
 cond (yP (([(101 : UInt8), 120, 112, 97, 110, 100, 32, 51, 50, 45, 98, 121, 116, 101, 32, 107] ++ x0).length + r0.1.length))
 (cond (yP ((([(101 : UInt8), 120, 112, 97, 110, 100, 32, 51, 50, 45, 98, 121, 116, 101, 32, 107] ++ x0) ++ r0.1).length + x1.length))
 (tW R L ((([101, 120, 112, 97, 110, 100, 32, 51, 50, 45, 98, 121, 116, 101, 32, 107] ++ x0) ++ r0.1) ++ x1) (List.replicate 16 0) (List.replicate 16 0) 0)
 none)
 none)
 none) := by kernel_rfl
theorem Ac5 (v7 : List UInt8) (v8 v9 : List Int) (v25 : Int) : @Eq _ (tW R L v7 v8 v9 v25 ([1, 1, 1, 0, 1, 0] ++ [0])) (cond (decide (v25 < 16))
 (cond (zA (IntKind.wrap .i64 (4 * v25)))
 (cond (Nat.ble v7.length v7.length)
 (cond (Nat.ble (IntKind.wrap .i64 (4 * v25)).toNat v7.length)
 ((lI R (List.drop (IntKind.wrap .i64 (4 * v25)).toNat (List.take v7.length v7))).bind fun r0 =>
 cond (zA v25)
 (cond (Nat.blt v25.toNat 16)
 (cond (zA v25)
 (cond (Nat.blt v25.toNat 16)
 (cond (zA v25)
 (cond (Nat.blt v25.toNat 16)
 (tW R L v7 (v8.set v25.toNat r0.1) (v9.set v25.toNat ((v8.set v25.toNat r0.1).getD v25.toNat 0)) (IntKind.wrap .i64 (v25 + 1)))
 none)
 none)
 none)
 none)
 none)
 none)
 none)
 none)
 none)
 (uH R L v8 v9 0)) := by kernel_rfl
theorem Ad5 (v8 v9 : List Int) (v41 : Int) : @Eq _ (uH R L v8 v9 v41 ([1, 1, 1, 1, 0, 1, 0] ++ [0])) (cond (decide (v41 < 10))
 (mT R L v8 v9 v41 0)
 (uR R L v8 v9 [] 0)) := by kernel_rfl
theorem A27 (v8 v9 : List Int) (v41 v43 : Int) : @Eq _ (mT R L v8 v9 v41 v43 ([1, 1, 1, 1, 0, 1, 0, 0, 1, 1, 0, 0, 1, 0] ++ [0])) (cond (decide (v43 < 2))
 (rB R L v8 v9 v43 v41 v43 0)
 (uH R L v8 v9 (IntKind.wrap .i64 (v41 + 1)))) := by kernel_rfl
theorem Ac6 (v8 v9 : List Int) (v16 : List UInt8) (v95 : Int) : @Eq _ (uR R L v8 v9 v16 v95 ([1, 1, 1, 1, 1, 1, 0, 1, 0] ++ [0])) (cond (decide (v95 < 16))
 (cond (zA v95)
 (cond (Nat.blt v95.toNat 16)
 (cond (zA v95)
 (cond (Nat.blt v95.toNat 16)
 ((vE R (IntKind.wrap .i64 (IntKind.wrap .u32 ((v9.getD v95.toNat 0) + (v8.getD v95.toNat 0)))) 4).bind fun r0 =>
 cond (yP (v16.length + r0.1.length))
 (uR R L v8 v9 (v16 ++ r0.1) (IntKind.wrap .i64 (v95 + 1)))
 none)
 none)
 none)
 none)
 none)
 (some (v16, ()))) := by kernel_rfl
theorem Ag0 (v8 v9 : List Int) (v11 v41 v43 v46 : Int) : @Eq _ (rB R L v8 v9 v11 v41 v43 v46 ([1, 1, 1, 1, 0, 1, 0, 0, 1, 1, 0, 0, 1, 0, 0, 1, 1, 0, 0, 1, 1, 0] ++ [0])) (cond (decide (v46 < 4))
 (cond (zA v46)
 (cond (Nat.blt v46.toNat 16)
 (cond (zA (IntKind.wrap .i64 (4 + (Int.tmod (IntKind.wrap .i64 (v46 + v11)) 4))))
 (cond (Nat.blt (IntKind.wrap .i64 (4 + (Int.tmod (IntKind.wrap .i64 (v46 + v11)) 4))).toNat 16)
 (cond (zA (IntKind.wrap .i64 (8 + (Int.tmod (IntKind.wrap .i64 (v46 + (IntKind.wrap .i64 (2 * v11)))) 4))))
 (cond (Nat.blt (IntKind.wrap .i64 (8 + (Int.tmod (IntKind.wrap .i64 (v46 + (IntKind.wrap .i64 (2 * v11)))) 4))).toNat 16)
 (cond (zA (IntKind.wrap .i64 (12 + (Int.tmod (IntKind.wrap .i64 (v46 + (IntKind.wrap .i64 (3 * v11)))) 4))))
 (cond (Nat.blt (IntKind.wrap .i64 (12 + (Int.tmod (IntKind.wrap .i64 (v46 + (IntKind.wrap .i64 (3 * v11)))) 4))).toNat 16)
 ((AA9 R (v9.getD v46.toNat 0) (v9.getD (IntKind.wrap .i64 (4 + (Int.tmod (IntKind.wrap .i64 (v46 + v11)) 4))).toNat 0) (v9.getD (IntKind.wrap .i64 (8 + (Int.tmod (IntKind.wrap .i64 (v46 + (IntKind.wrap .i64 (2 * v11)))) 4))).toNat 0) (v9.getD (IntKind.wrap .i64 (12 + (Int.tmod (IntKind.wrap .i64 (v46 + (IntKind.wrap .i64 (3 * v11)))) 4))).toNat 0)).bind fun r0 =>
 cond (zA v46)
 (cond (Nat.blt v46.toNat 16)
 (cond (zA (IntKind.wrap .i64 (4 + (Int.tmod (IntKind.wrap .i64 (v46 + v11)) 4))))
 (cond (Nat.blt (IntKind.wrap .i64 (4 + (Int.tmod (IntKind.wrap .i64 (v46 + v11)) 4))).toNat 16)
 (cond (zA (IntKind.wrap .i64 (8 + (Int.tmod (IntKind.wrap .i64 (v46 + (IntKind.wrap .i64 (2 * v11)))) 4))))
 (cond (Nat.blt (IntKind.wrap .i64 (8 + (Int.tmod (IntKind.wrap .i64 (v46 + (IntKind.wrap .i64 (2 * v11)))) 4))).toNat 16)
 (cond (zA (IntKind.wrap .i64 (12 + (Int.tmod (IntKind.wrap .i64 (v46 + (IntKind.wrap .i64 (3 * v11)))) 4))))
 (cond (Nat.blt (IntKind.wrap .i64 (12 + (Int.tmod (IntKind.wrap .i64 (v46 + (IntKind.wrap .i64 (3 * v11)))) 4))).toNat 16)
 (rB R L v8 ((((v9.set v46.toNat r0.1).set (IntKind.wrap .i64 (4 + (Int.tmod (IntKind.wrap .i64 (v46 + v11)) 4))).toNat r0.2.1).set (IntKind.wrap .i64 (8 + (Int.tmod (IntKind.wrap .i64 (v46 + (IntKind.wrap .i64 (2 * v11)))) 4))).toNat r0.2.2.1).set (IntKind.wrap .i64 (12 + (Int.tmod (IntKind.wrap .i64 (v46 + (IntKind.wrap .i64 (3 * v11)))) 4))).toNat r0.2.2.2.1) v11 v41 v43 (IntKind.wrap .i64 (v46 + 1)))
 none)
 none)
 none)
 none)
 none)
 none)
 none)
 none)
 none)
 none)
 none)
 none)
 none)
 none)
 none)
 none)
 (mT R L v8 v9 v41 (IntKind.wrap .i64 (v43 + 1)))) := by kernel_rfl
theorem A5E (x0 : List UInt8) (x1 : Int) : @Eq _ (nV (zD EE R L) x0 x1) (cond (zA x1)
 (cond (Nat.blt x1.toNat x0.length)
 (cond (zA (IntKind.wrap .i64 (x1 + 1)))
 (cond (Nat.blt (IntKind.wrap .i64 (x1 + 1)).toNat x0.length)
 (cond (zA (IntKind.wrap .i64 (x1 + 2)))
 (cond (Nat.blt (IntKind.wrap .i64 (x1 + 2)).toNat x0.length)
 (cond (zA (IntKind.wrap .i64 (x1 + 3)))
 (cond (Nat.blt (IntKind.wrap .i64 (x1 + 3)).toNat x0.length)
 (some (xH .or .i64 (xH .or .i64 (xH .or .i64 (IntKind.wrap .i64 (UInt8.toNat (x0.getD x1.toNat 0) : Int)) (IntKind.wrap .i64 ((IntKind.wrap .i64 (UInt8.toNat (x0.getD (IntKind.wrap .i64 (x1 + 1)).toNat 0) : Int)) * (2 ^ (Min.min (8 : Int).toNat (IntKind.bits .i64)))))) (IntKind.wrap .i64 ((IntKind.wrap .i64 (UInt8.toNat (x0.getD (IntKind.wrap .i64 (x1 + 2)).toNat 0) : Int)) * (2 ^ (Min.min (16 : Int).toNat (IntKind.bits .i64)))))) (IntKind.wrap .i64 ((IntKind.wrap .i64 (UInt8.toNat (x0.getD (IntKind.wrap .i64 (x1 + 3)).toNat 0) : Int)) * (2 ^ (Min.min (24 : Int).toNat (IntKind.bits .i64))))), ()))
 none)
 none)
 none)
 none)
 none)
 none)
 none)
 none) := by kernel_rfl
theorem A4u (x0 x1 : Int) : @Eq _ (rN (zD EE R L) x0 x1) (cond (decide (x1 < 0))
 none
 (cond (decide ((IntKind.wrap .i64 (32 - x1)) < 0))
 none
 (some (xH .and .i64 (xH .or .i64 (IntKind.wrap .i64 (x0 * (2 ^ (Min.min x1.toNat (IntKind.bits .i64))))) (Int.fdiv x0 (2 ^ (Min.min (IntKind.wrap .i64 (32 - x1)).toNat (IntKind.bits .i64))))) 4294967295, ())))) := by kernel_rfl
theorem Au7 (x0 x1 x2 x3 : Int) : @Eq _ (gH (zD EE R L) x0 x1 x2 x3) ((rN R (xH .xor .i64 x3 (xH .and .i64 (IntKind.wrap .i64 (x0 + x1)) 4294967295)) 16).bind fun r0 =>
 (rN R (xH .xor .i64 x1 (xH .and .i64 (IntKind.wrap .i64 (x2 + r0.1)) 4294967295)) 12).bind fun r1 =>
 (rN R (xH .xor .i64 r0.1 (xH .and .i64 (IntKind.wrap .i64 ((xH .and .i64 (IntKind.wrap .i64 (x0 + x1)) 4294967295) + r1.1)) 4294967295)) 8).bind fun r2 =>
 (rN R (xH .xor .i64 r1.1 (xH .and .i64 (IntKind.wrap .i64 ((xH .and .i64 (IntKind.wrap .i64 (x2 + r0.1)) 4294967295) + r2.1)) 4294967295)) 7).bind fun r3 =>
 some ([xH .and .i64 (IntKind.wrap .i64 ((xH .and .i64 (IntKind.wrap .i64 (x0 + x1)) 4294967295) + r1.1)) 4294967295, r3.1, xH .and .i64 (IntKind.wrap .i64 ((xH .and .i64 (IntKind.wrap .i64 (x2 + r0.1)) 4294967295) + r2.1)) 4294967295, r2.1], ())) := by kernel_rfl
theorem A3c (x0 : List Int) (x1 x2 x3 x4 : Int) : @Eq _ (gS (zD EE R L) x0 x1 x2 x3 x4) (cond (zA x1)
 (cond (Nat.blt x1.toNat 16)
 (cond (zA x2)
 (cond (Nat.blt x2.toNat 16)
 (cond (zA x3)
 (cond (Nat.blt x3.toNat 16)
 (cond (zA x4)
 (cond (Nat.blt x4.toNat 16)
 ((gH R (x0.getD x1.toNat 0) (x0.getD x2.toNat 0) (x0.getD x3.toNat 0) (x0.getD x4.toNat 0)).bind fun r0 =>
 cond (zA x1)
 (cond (Nat.blt x1.toNat 16)
 (cond (zA x2)
 (cond (Nat.blt x2.toNat 16)
 (cond (zA x3)
 (cond (Nat.blt x3.toNat 16)
 (cond (zA x4)
 (cond (Nat.blt x4.toNat 16)
 (some ((((x0.set x1.toNat (r0.1.getD (0 : Int).toNat 0)).set x2.toNat (r0.1.getD (1 : Int).toNat 0)).set x3.toNat (r0.1.getD (2 : Int).toNat 0)).set x4.toNat (r0.1.getD (3 : Int).toNat 0), ()))
 none)
 none)
 none)
 none)
 none)
 none)
 none)
 none)
 none)
 none)
 none)
 none)
 none)
 none)
 none)
 none) := by kernel_rfl
theorem A29 (x0 x1:List UInt8) (x2:Int):@Eq _ (pU (zD EE R L) x0 x1 x2) (uS R L x0 x1 x2 [0,0,0,0,0,0,0,0,0,0,0,0,0,0,0,0] 0):=by kernel_rfl
theorem AP4 (v0 v1 : List UInt8) (v2 : Int) (v7 : List Int) (v8 : Int) : @Eq _ (uS R L v0 v1 v2 v7 v8 ([1, 1, 0, 1, 0] ++ [0])) (cond (decide (v8 < 4))
 ((nV R [101, 120, 112, 97, 110, 100, 32, 51, 50, 45, 98, 121, 116, 101, 32, 107] (IntKind.wrap .i64 (4 * v8))).bind fun r0 =>
 cond (zA v8)
 (cond (Nat.blt v8.toNat 16)
 (uS R L v0 v1 v2 (v7.set v8.toNat r0.1) (IntKind.wrap .i64 (v8 + 1)))
 none)
 none)
 (wP R L v0 v1 v2 v7 0)) := by kernel_rfl
theorem AN3 (v0 v1 : List UInt8) (v2 : Int) (v7 : List Int) (v9 : Int) : @Eq _ (wP R L v0 v1 v2 v7 v9 ([1, 1, 1, 0, 1, 0] ++ [0])) (cond (decide (v9 < 8))
 ((nV R v0 (IntKind.wrap .i64 (4 * v9))).bind fun r0 =>
 cond (zA (IntKind.wrap .i64 (4 + v9)))
 (cond (Nat.blt (IntKind.wrap .i64 (4 + v9)).toNat 16)
 (wP R L v0 v1 v2 (v7.set (IntKind.wrap .i64 (4 + v9)).toNat r0.1) (IntKind.wrap .i64 (v9 + 1)))
 none)
 none)
 (wO R L v1 (v7.set (12 : Int).toNat v2) 0)) := by kernel_rfl
theorem AP3 (v1 : List UInt8) (v7 : List Int) (v10 : Int) : @Eq _ (wO R L v1 v7 v10 ([1, 1, 1, 1, 1, 0, 1, 0] ++ [0])) (cond (decide (v10 < 3))
 ((nV R v1 (IntKind.wrap .i64 (4 * v10))).bind fun r0 =>
 cond (zA (IntKind.wrap .i64 (13 + v10)))
 (cond (Nat.blt (IntKind.wrap .i64 (13 + v10)).toNat 16)
 (wO R L v1 (v7.set (IntKind.wrap .i64 (13 + v10)).toNat r0.1) (IntKind.wrap .i64 (v10 + 1)))
 none)
 none)
 (xC R L v7 v7 0)) := by kernel_rfl
theorem AN2 (v7 v11 : List Int) (v12 : Int) : @Eq _ (xC R L v7 v11 v12 ([1, 1, 1, 1, 1, 1, 1, 0, 1, 0] ++ [0])) (cond (decide (v12 < 10))
 (uI R L v7 v11 v12 0)
 (wN R L v7 v11 [] 0)) := by kernel_rfl
theorem AM8 (v7 v11 : List Int) (v12 v13 : Int) : @Eq _ (uI R L v7 v11 v12 v13 ([1, 1, 1, 1, 1, 1, 1, 0, 1, 0, 0, 1, 0, 0, 0, 1, 0] ++ [0])) (cond (decide (v13 < 4))
 ((gS R v11 v13 (IntKind.wrap .i64 (4 + v13)) (IntKind.wrap .i64 (8 + v13)) (IntKind.wrap .i64 (12 + v13))).bind fun r0 =>
 uI R L v7 r0.1 v12 (IntKind.wrap .i64 (v13 + 1)))
 (wQ R L v7 v11 v12 0)) := by kernel_rfl
theorem AO0 (v7 v11 v15 : List Int) (v16 : Int) : @Eq _ (wN R L v7 v11 v15 v16 ([1, 1, 1, 1, 1, 1, 1, 1, 1, 0, 1, 0] ++ [0])) (cond (decide (v16 < 16))
 (cond (zA v16)
 (cond (Nat.blt v16.toNat 16)
 (cond (zA v16)
 (cond (Nat.blt v16.toNat 16)
 ((cN R v15 (xH .and .i64 (IntKind.wrap .i64 ((v11.getD v16.toNat 0) + (v7.getD v16.toNat 0))) 4294967295)).bind fun r0 =>
 wN R L v7 v11 r0.1 (IntKind.wrap .i64 (v16 + 1)))
 none)
 none)
 none)
 none)
 (some (List.map (fun (n : Int) => UInt8.ofNat n.toNat) v15, ()))) := by kernel_rfl
theorem AP7 (v7 v11 : List Int) (v12 v14 : Int) : @Eq _ (wQ R L v7 v11 v12 v14 ([1, 1, 1, 1, 1, 1, 1, 0, 1, 0, 0, 1, 0, 0, 1, 1, 0] ++ [0])) (cond (decide (v14 < 4))
 ((gS R v11 v14 (IntKind.wrap .i64 (4 + (Int.tmod (IntKind.wrap .i64 (v14 + 1)) 4))) (IntKind.wrap .i64 (8 + (Int.tmod (IntKind.wrap .i64 (v14 + 2)) 4))) (IntKind.wrap .i64 (12 + (Int.tmod (IntKind.wrap .i64 (v14 + 3)) 4)))).bind fun r0 =>
 wQ R L v7 r0.1 v12 (IntKind.wrap .i64 (v14 + 1)))
 (xC R L v7 v11 (IntKind.wrap .i64 (v12 + 1)))) := by kernel_rfl
theorem BY9 (x0 x1:List UInt8):@Eq _ (A3p (zD EE R L) x0 x1) (kF R L x1 (List.map (fun (b:UInt8)=>(UInt8.toNat b:Int)) x0) ((List.map (fun (b:UInt8)=>(UInt8.toNat b:Int)) x0).length:Int) 0):=by kernel_rfl
theorem A1s (v1 : List UInt8) (v5 : List Int) (v10 v11 : Int) : @Eq _ (kF R L v1 v5 v10 v11 ([1, 1, 0, 1, 0] ++ [0])) (cond (decide (v11 < v10))
 (cond (zA v11)
 (cond (Nat.blt v11.toNat v5.length)
 (cond (zA v11)
 (cond (Nat.blt v11.toNat v1.length)
 (cond (zA v11)
 (cond (Nat.blt v11.toNat v5.length)
 (kF R L v1 (v5.set v11.toNat (xH .xor .u8 (v5.getD v11.toNat 0) (UInt8.toNat (v1.getD v11.toNat 0) : Int))) v10 (IntKind.wrap .i64 (v11 + 1)))
 none)
 none)
 none)
 none)
 none)
 none)
 (some (List.map (fun (n : Int) => UInt8.ofNat n.toNat) v5, ()))) := by kernel_rfl
theorem A7y (x0 x1:List UInt8) (x2:Int) (x3:List UInt8):@Eq _ (bF (zD EE R L) x0 x1 x2 x3) (sX R L x0 x1 x2 x3 [] [] 0):=by kernel_rfl
theorem Ac4 (v0 v1 : List UInt8) (v2 : Int) (v3 : List UInt8) (v9 : List Int) (v10 : List UInt8) (v11 : Int) : @Eq _ (sX R L v0 v1 v2 v3 v9 v10 v11 ([1, 1, 1, 0, 1, 0] ++ [0])) (cond (decide (v11 < (v3.length : Int)))
 (cond (eqI (Int.tmod v11 64) 0)
 ((pU R v0 v1 (IntKind.wrap .i64 (v2 + (IntKind.wrap .i64 (Int.tdiv v11 64))))).bind fun r0 =>
 cond (zA v11)
 (cond (Nat.blt v11.toNat v3.length)
 (cond (zA (Int.tmod v11 64))
 (cond (Nat.blt (Int.tmod v11 64).toNat r0.1.length)
 (cond (yP (v9.length + ([xH .xor .u8 (UInt8.toNat (v3.getD v11.toNat 0) : Int) (UInt8.toNat (r0.1.getD (Int.tmod v11 64).toNat 0) : Int)]).length))
 (sX R L v0 v1 v2 v3 (v9 ++ [xH .xor .u8 (UInt8.toNat (v3.getD v11.toNat 0) : Int) (UInt8.toNat (r0.1.getD (Int.tmod v11 64).toNat 0) : Int)]) r0.1 (IntKind.wrap .i64 (v11 + 1)))
 none)
 none)
 none)
 none)
 none)
 (cond (zA v11)
 (cond (Nat.blt v11.toNat v3.length)
 (cond (zA (Int.tmod v11 64))
 (cond (Nat.blt (Int.tmod v11 64).toNat v10.length)
 (cond (yP (v9.length + ([xH .xor .u8 (UInt8.toNat (v3.getD v11.toNat 0) : Int) (UInt8.toNat (v10.getD (Int.tmod v11 64).toNat 0) : Int)]).length))
 (sX R L v0 v1 v2 v3 (v9 ++ [xH .xor .u8 (UInt8.toNat (v3.getD v11.toNat 0) : Int) (UInt8.toNat (v10.getD (Int.tmod v11 64).toNat 0) : Int)]) v10 (IntKind.wrap .i64 (v11 + 1)))
 none)
 none)
 none)
 none)
 none))
 (some (List.map (fun (n : Int) => UInt8.ofNat n.toNat) v9, ()))) := by kernel_rfl
theorem At8 (x0 : d78) (x1 : Int) : @Eq _ (hJ (zD EE R L) x0 x1) (cond (decide ((IntKind.wrap .i64 (x1 - (x0.2.2.2.2.1.length : Int))) < 0))
 (some (-1, ()))
 (cond (decide ((IntKind.wrap .i64 ((IntKind.wrap .i64 (x1 - (x0.2.2.2.2.1.length : Int))) - (x0.2.2.2.2.2.1.length : Int))) < 0))
 (some (-1, ()))
 (cond (decide ((IntKind.wrap .i64 ((IntKind.wrap .i64 ((IntKind.wrap .i64 (x1 - (x0.2.2.2.2.1.length : Int))) - (x0.2.2.2.2.2.1.length : Int))) - (x0.2.2.2.2.2.2.1.length : Int))) < 0))
 (some (-1, ()))
 (some (IntKind.wrap .i64 ((IntKind.wrap .i64 ((IntKind.wrap .i64 (x1 - (x0.2.2.2.2.1.length : Int))) - (x0.2.2.2.2.2.1.length : Int))) - (x0.2.2.2.2.2.2.1.length : Int)), ()))))) := by kernel_rfl
theorem A1K (x0 : List (List UInt8)) (x1 : Int) : @Eq _ (fL (zD EE R L) x0 x1) (cond (decide ((IntKind.wrap .i64 (x1 - (x0.length : Int))) < 0))
 (some (-1, ()))
 (vP R L x0 (IntKind.wrap .i64 (x1 - (x0.length : Int))) 0 0)) := by kernel_rfl
theorem AI3 (v0 : List (List UInt8)) (v1 v4 v5 : Int) : @Eq _ (vP R L v0 v1 v4 v5 ([1, 1, 1, 0, 1, 0] ++ [0])) (cond (decide (v5 < (v0.length : Int)))
 (cond (zA v5)
 (cond (Nat.blt v5.toNat v0.length)
 (cond (decide ((IntKind.wrap .i64 (v1 - ((v0.getD v5.toNat []).length : Int))) < 0))
 (some (-1, ()))
 (vP R L v0 (IntKind.wrap .i64 (v1 - ((v0.getD v5.toNat []).length : Int))) v4 (IntKind.wrap .i64 (v5 + 1))))
 none)
 none)
 (some (v1, ()))) := by kernel_rfl
theorem BH7 (x0 : d79) (x1 : Int) : @Eq _ (Aj3 (zD EE R L) x0 x1) (cond (decide ((IntKind.wrap .i64 (x1 - (x0.2.1.length : Int))) < 0))
 (some (-1, ()))
 (some (IntKind.wrap .i64 (x1 - (x0.2.1.length : Int)), ()))) := by kernel_rfl
theorem A9X (x0 : List d79) (x1 : Int) : @Eq _ (AW5 (zD EE R L) x0 x1) (cond (decide ((IntKind.wrap .i64 (x1 - (x0.length : Int))) < 0))
 (some (-1, ()))
 (pP R L x0 (IntKind.wrap .i64 (x1 - (x0.length : Int))) 0 0)) := by kernel_rfl
theorem Ap9 (v0 : List d79) (v1 v4 v5 : Int) : @Eq _ (pP R L v0 v1 v4 v5 ([1, 1, 1, 0, 1, 0] ++ [0])) (cond (decide (v5 < (v0.length : Int)))
 (cond (zA v5)
 (cond (Nat.blt v5.toNat v0.length)
 ((Aj3 R (v0.getD v5.toNat (0, ([], ()))) v1).bind fun r0 =>
 cond (decide (r0.1 < 0))
 (some (-1, ()))
 (pP R L v0 r0.1 v4 (IntKind.wrap .i64 (v5 + 1))))
 none)
 none)
 (some (v1, ()))) := by kernel_rfl
theorem A2D (x0 : d80) (x1 : Int) : @Eq _ (dX (zD EE R L) x0 x1) ((fL R x0.1 x1).bind fun r0 =>
 cond (decide (r0.1 < 0))
 (some (-1, ()))
 ((AW5 R x0.2.1 r0.1).bind fun r1 =>
 cond (decide (r1.1 < 0))
 (some (-1, ()))
 (some (r1.1, ())))) := by kernel_rfl
theorem A4Z (x0 : d81) (x1 : Int) : @Eq _ (aJ (zD EE R L) x0 x1) (cond (decide ((IntKind.wrap .i64 (x1 - (x0.1.length : Int))) < 0))
 (some (-1, ()))
 ((hJ R x0.2.1 (IntKind.wrap .i64 (x1 - (x0.1.length : Int)))).bind fun r0 =>
 cond (decide (r0.1 < 0))
 (some (-1, ()))
 ((dX R x0.2.2.1 r0.1).bind fun r1 =>
 cond (decide (r1.1 < 0))
 (some (-1, ()))
 (some (r1.1, ()))))) := by kernel_rfl
theorem At6 (x0:d78):@Eq _ (iW (zD EE R L) x0) (some ((x0.1,(x0.2.1,(x0.2.2.1,(x0.2.2.2.1,(x0.2.2.2.2.1,(x0.2.2.2.2.2.1,(x0.2.2.2.2.2.2.1,()))))))),())):=by kernel_rfl
theorem A1A (x0 : List (List UInt8)) : @Eq _ (fV (zD EE R L) x0) (cond (leI (x0.length : Int) (x0.length : Int))
 (cond (yP (x0.length : Int).toNat)
 (uX R L x0 [] (List.replicate (x0.length : Int).toNat []) 0)
 none)
 none) := by kernel_rfl
theorem AF9 (v0 v2 v3 : List (List UInt8)) (v4 : Int) : @Eq _ (uX R L v0 v2 v3 v4 ([1, 1, 0, 1, 0] ++ [0])) (cond (decide (v4 < (v0.length : Int)))
 (cond (zA v4)
 (cond (Nat.blt v4.toNat v0.length)
 (cond (zA v4)
 (cond (Nat.blt v4.toNat v3.length)
 (uX R L v0 v2 (v3.set v4.toNat (v0.getD v4.toNat [])) (IntKind.wrap .i64 (v4 + 1)))
 none)
 none)
 none)
 none)
 (some (v3, ()))) := by kernel_rfl
theorem BM7 (x0:d79):@Eq _ (Ai7 (zD EE R L) x0) (some ((x0.1,(x0.2.1,())),())):=by kernel_rfl
theorem BA8 (x0 : List d79) : @Eq _ (AU7 (zD EE R L) x0) (cond (leI (x0.length : Int) (x0.length : Int))
 (cond (yP (x0.length : Int).toNat)
 (pO R L x0 [] (List.replicate (x0.length : Int).toNat (0, ([], ()))) 0)
 none)
 none) := by kernel_rfl
theorem An6 (v0 v2 v3 : List d79) (v4 : Int) : @Eq _ (pO R L v0 v2 v3 v4 ([1, 1, 0, 1, 0] ++ [0])) (cond (decide (v4 < (v0.length : Int)))
 (cond (zA v4)
 (cond (Nat.blt v4.toNat v0.length)
 ((Ai7 R (v0.getD v4.toNat (0, ([], ())))).bind fun r0 =>
 cond (zA v4)
 (cond (Nat.blt v4.toNat v3.length)
 (pO R L v0 v2 (v3.set v4.toNat r0.1) (IntKind.wrap .i64 (v4 + 1)))
 none)
 none)
 none)
 none)
 (some (v3, ()))) := by kernel_rfl
theorem A3D (x0 : d80) : @Eq _ (dR (zD EE R L) x0) ((fV R x0.1).bind fun r0 =>
 (AU7 R x0.2.1).bind fun r1 =>
 some ((r0.1, (r1.1, ())), ())) := by kernel_rfl
theorem A5K (x0 : d81) : @Eq _ (lW (zD EE R L) x0) ((iW R x0.2.1).bind fun r0 =>
 (dR R x0.2.2.1).bind fun r1 =>
 some ((x0.1, (r0.1, (r1.1, (x0.2.2.2.1, (x0.2.2.2.2.1, ()))))), ())) := by kernel_rfl
theorem A9I (x0 x1 x2 : Int) : @Eq _ (tG (zD EE R L) x0 x1 x2) (cond (decide (x1 ≤ x0))
 (some (decide (x0 ≤ x2), ()))
 (some (false, ()))) := by kernel_rfl
theorem A0I (x0:List Int):@Eq _ (fI (zD EE R L) x0) (qA R L x0 0):=by kernel_rfl
theorem AH5 (v0 : List Int) (v3 : Int) : @Eq _ (qA R L v0 v3 ([1, 0, 1, 0] ++ [0])) (cond (decide (v3 < (v0.length : Int)))
 (cond (zA v3)
 (cond (Nat.blt v3.toNat v0.length)
 ((tG R (v0.getD v3.toNat 0) 0 7).bind fun r0 =>
 cond (!r0.1)
 (some (false, ()))
 (qA R L v0 (IntKind.wrap .i64 (v3 + 1))))
 none)
 none)
 (some (true, ()))) := by kernel_rfl
theorem Au2 (x0 : d78) : @Eq _ (iX (zD EE R L) x0) ((tG R x0.1 0 1000000).bind fun r0 =>
 cond r0.1
 ((tG R x0.2.1 0 1).bind fun r1 =>
 cond r1.1
 ((tG R x0.2.2.2.1 0 1000000).bind fun r2 =>
 cond r2.1
 ((tG R x0.2.2.1 x0.1 (Ax5 (IntKind.wrap .i64 (x0.1 + 4)) 1000000)).bind fun r3 =>
 cond r3.1
 (cond (eqI (x0.2.2.2.2.1.length : Int) 32)
 (cond (eqI (x0.2.2.2.2.2.1.length : Int) 32)
 (cond (eqI (x0.2.2.2.2.2.2.1.length : Int) 32)
 (cond (decide (x0.1 < x0.2.2.1))
 (some (true, ()))
 (some (eqS x0.2.2.2.2.1 x0.2.2.2.2.2.1, ())))
 (some (false, ())))
 (some (false, ())))
 (some (false, ())))
 (some (false, ())))
 (some (false, ())))
 (some (false, ())))
 (some (false, ()))) := by kernel_rfl
theorem A8F (x0 : Int) : @Eq _ (AT4 (zD EE R L) x0) ((tG R x0 0 39).bind fun r0 =>
 some (r0.1, ())) := by kernel_rfl
theorem A2n (x0 : d80) : @Eq _ (dZ (zD EE R L) x0) (cond (!(eqI (x0.1.length : Int) 40))
 (some (false, ()))
 (cond (decide (60 < (x0.2.1.length : Int)))
 (some (false, ()))
 (pH R L x0 x0 false 0))) := by kernel_rfl
theorem AN8 (v0 v1 : d80) (v2 : Bool) (v3 : Int) : @Eq _ (pH R L v0 v1 v2 v3 ([1, 1, 0, 1, 0] ++ [0])) (cond (decide (v3 < (v1.1.length : Int)))
 (cond (zA v3)
 (cond (Nat.blt v3.toNat v1.1.length)
 (cond (decide (700 < ((v1.1.getD v3.toNat []).length : Int)))
 (some (false, ()))
 (pH R L v0 v1 v2 (IntKind.wrap .i64 (v3 + 1))))
 none)
 none)
 (pG R L v0 v1 v2 v3 0)) := by kernel_rfl
theorem AN0 (v0 v1 : d80) (v2 : Bool) (v3 v4 : Int) : @Eq _ (pG R L v0 v1 v2 v3 v4 ([1, 1, 1, 0, 1, 0] ++ [0])) (cond (decide (v4 < (v1.2.1.length : Int)))
 (cond (zA v4)
 (cond (Nat.blt v4.toNat v1.2.1.length)
 ((AT4 R (v1.2.1.getD v4.toNat (0, ([], ()))).1).bind fun r0 =>
 cond (!r0.1)
 (some (false, ()))
 (cond (zA v4)
 (cond (Nat.blt v4.toNat v1.2.1.length)
 (cond (decide (700 < ((v1.2.1.getD v4.toNat (0, ([], ()))).2.1.length : Int)))
 (some (false, ()))
 (pG R L v0 v1 v2 v3 (IntKind.wrap .i64 (v4 + 1))))
 none)
 none))
 none)
 none)
 (some (true, ()))) := by kernel_rfl
theorem A4N (x0 : d81) : @Eq _ (AB1 (zD EE R L) x0) (cond (eqI (x0.1.length : Int) 32)
 ((iX R x0.2.1).bind fun r0 =>
 cond r0.1
 ((dZ R x0.2.2.1).bind fun r1 =>
 cond r1.1
 (cond (eqI (x0.2.2.1.2.1.length : Int) 0)
 (cond x0.2.2.2.1
 (some (!x0.2.2.2.2.1, ()))
 (some (!false, ())))
 (some (false, ())))
 (some (false, ())))
 (some (false, ())))
 (some (false, ()))) := by kernel_rfl
theorem A2Y (x0:Int):@Eq _ (kJ (zD EE R L) x0) (sD R L x0 [] 0):=by kernel_rfl
theorem AN5 (v0 : Int) (v3 : List Int) (v4 : Int) : @Eq _ (sD R L v0 v3 v4 ([1, 1, 0, 1, 0] ++ [0])) (cond (decide (v4 < 8))
 (cond (decide ((IntKind.wrap .i64 (8 * v4)) < 0))
 none
 (cond (yP (v3.length + ([IntKind.wrap .u8 (Int.fdiv v0 (2 ^ (Min.min (IntKind.wrap .i64 (8 * v4)).toNat (IntKind.bits .i64))))]).length))
 (sD R L v0 (v3 ++ [IntKind.wrap .u8 (Int.fdiv v0 (2 ^ (Min.min (IntKind.wrap .i64 (8 * v4)).toNat (IntKind.bits .i64))))]) (IntKind.wrap .i64 (v4 + 1)))
 none))
 (some (List.map (fun (n : Int) => UInt8.ofNat n.toNat) v3, ()))) := by kernel_rfl
theorem A3F (x0 x1 x2 : Int) : @Eq _ (cF (zD EE R L) x0 x1 x2) ((kJ R x2).bind fun r0 =>
 cond (yP ((List.map (fun (n : Int) => UInt8.ofNat n.toNat) [IntKind.wrap .u8 x0, IntKind.wrap .u8 x1, IntKind.wrap .u8 (Int.fdiv x1 (2 ^ (Min.min (8 : Int).toNat (IntKind.bits .i64)))), 0]).length + r0.1.length))
 (some ((List.map (fun (n : Int) => UInt8.ofNat n.toNat) [IntKind.wrap .u8 x0, IntKind.wrap .u8 x1, IntKind.wrap .u8 (Int.fdiv x1 (2 ^ (Min.min (8 : Int).toNat (IntKind.bits .i64)))), 0]) ++ r0.1, ()))
 none) := by kernel_rfl
theorem A63 (x0:List UInt8):@Eq _ (bG (zD EE R L) x0) (jI R L x0):=by kernel_rfl
theorem A1n (v0 : List UInt8) : @Eq _ (jI R L v0 ([1, 0, 0] ++ [0])) (cond (!(eqI (Int.tmod (v0.length : Int) 16) 0))
 (cond (yP (v0.length + ([(0 : UInt8)]).length))
 (jI R L (v0 ++ [0]))
 none)
 (some (v0, ()))) := by kernel_rfl
theorem A2r (x0 : List UInt8) : @Eq _ (cO (zD EE R L) x0) (cond (Nat.ble (16 : Int).toNat x0.length)
 (uK R L (List.map (fun (b : UInt8) => (UInt8.toNat b : Int)) (List.drop 0 (List.take (16 : Int).toNat x0))) 3)
 none) := by kernel_rfl
theorem AO1 (v3 : List Int) (v4 : Int) : @Eq _ (uK R L v3 v4 ([1, 1, 0, 1, 0] ++ [0])) (cond (decide (v4 < 16))
 (cond (zA v4)
 (cond (Nat.blt v4.toNat v3.length)
 (cond (zA v4)
 (cond (Nat.blt v4.toNat v3.length)
 (uK R L (v3.set v4.toNat (xH .and .u8 (v3.getD v4.toNat 0) 15)) (IntKind.wrap .i64 (v4 + 4)))
 none)
 none)
 none)
 none)
 (uT R L v3 4)) := by kernel_rfl
theorem AP6 (v3 : List Int) (v5 : Int) : @Eq _ (uT R L v3 v5 ([1, 1, 1, 0, 1, 0] ++ [0])) (cond (decide (v5 < 16))
 (cond (zA v5)
 (cond (Nat.blt v5.toNat v3.length)
 (cond (zA v5)
 (cond (Nat.blt v5.toNat v3.length)
 (uT R L (v3.set v5.toNat (xH .and .u8 (v3.getD v5.toNat 0) 252)) (IntKind.wrap .i64 (v5 + 4)))
 none)
 none)
 none)
 none)
 (some (List.map (fun (n : Int) => UInt8.ofNat n.toNat) v3, ()))) := by kernel_rfl
theorem A3d (x0:List UInt8):@Eq _ (kI (zD EE R L) x0) (vL R L x0 (List.replicate 5 0) [0,0,0,0,0] 0):=by kernel_rfl
theorem AN7 (v0 : List UInt8) (v2 v3 : List Int) (v4 : Int) : @Eq _ (vL R L v0 v2 v3 v4 ([1, 1, 0, 1, 0] ++ [0])) (cond (decide (v4 < 17))
 (cond (zA v4)
 (cond (Nat.blt v4.toNat v0.length)
 (cond (zA (IntKind.wrap .i64 (Int.tdiv (IntKind.wrap .i64 (8 * v4)) 26)))
 (cond (Nat.blt (IntKind.wrap .i64 (Int.tdiv (IntKind.wrap .i64 (8 * v4)) 26)).toNat 5)
 (cond (decide ((Int.tmod (IntKind.wrap .i64 (8 * v4)) 26) < 0))
 none
 (cond (zA (IntKind.wrap .i64 (Int.tdiv (IntKind.wrap .i64 (8 * v4)) 26)))
 (cond (Nat.blt (IntKind.wrap .i64 (Int.tdiv (IntKind.wrap .i64 (8 * v4)) 26)).toNat 5)
 (cond (decide (18 < (Int.tmod (IntKind.wrap .i64 (8 * v4)) 26)))
 (cond (decide ((IntKind.wrap .i64 (Int.tdiv (IntKind.wrap .i64 (8 * v4)) 26)) < 4))
 (cond (zA (IntKind.wrap .i64 ((IntKind.wrap .i64 (Int.tdiv (IntKind.wrap .i64 (8 * v4)) 26)) + 1)))
 (cond (Nat.blt (IntKind.wrap .i64 ((IntKind.wrap .i64 (Int.tdiv (IntKind.wrap .i64 (8 * v4)) 26)) + 1)).toNat 5)
 (cond (decide ((IntKind.wrap .i64 (26 - (Int.tmod (IntKind.wrap .i64 (8 * v4)) 26))) < 0))
 none
 (cond (zA (IntKind.wrap .i64 ((IntKind.wrap .i64 (Int.tdiv (IntKind.wrap .i64 (8 * v4)) 26)) + 1)))
 (cond (Nat.blt (IntKind.wrap .i64 ((IntKind.wrap .i64 (Int.tdiv (IntKind.wrap .i64 (8 * v4)) 26)) + 1)).toNat 5)
 (vL R L v0 v2 ((v3.set (IntKind.wrap .i64 (Int.tdiv (IntKind.wrap .i64 (8 * v4)) 26)).toNat (IntKind.wrap .i64 ((v3.getD (IntKind.wrap .i64 (Int.tdiv (IntKind.wrap .i64 (8 * v4)) 26)).toNat 0) + (xH .and .i64 (IntKind.wrap .i64 ((IntKind.wrap .i64 (UInt8.toNat (v0.getD v4.toNat 0) : Int)) * (2 ^ (Min.min (Int.tmod (IntKind.wrap .i64 (8 * v4)) 26).toNat (IntKind.bits .i64))))) 67108863)))).set (IntKind.wrap .i64 ((IntKind.wrap .i64 (Int.tdiv (IntKind.wrap .i64 (8 * v4)) 26)) + 1)).toNat (IntKind.wrap .i64 (((v3.set (IntKind.wrap .i64 (Int.tdiv (IntKind.wrap .i64 (8 * v4)) 26)).toNat (IntKind.wrap .i64 ((v3.getD (IntKind.wrap .i64 (Int.tdiv (IntKind.wrap .i64 (8 * v4)) 26)).toNat 0) + (xH .and .i64 (IntKind.wrap .i64 ((IntKind.wrap .i64 (UInt8.toNat (v0.getD v4.toNat 0) : Int)) * (2 ^ (Min.min (Int.tmod (IntKind.wrap .i64 (8 * v4)) 26).toNat (IntKind.bits .i64))))) 67108863)))).getD (IntKind.wrap .i64 ((IntKind.wrap .i64 (Int.tdiv (IntKind.wrap .i64 (8 * v4)) 26)) + 1)).toNat 0) + (Int.fdiv (IntKind.wrap .i64 (UInt8.toNat (v0.getD v4.toNat 0) : Int)) (2 ^ (Min.min (IntKind.wrap .i64 (26 - (Int.tmod (IntKind.wrap .i64 (8 * v4)) 26))).toNat (IntKind.bits .i64))))))) (IntKind.wrap .i64 (v4 + 1)))
 none)
 none))
 none)
 none)
 (vL R L v0 v2 (v3.set (IntKind.wrap .i64 (Int.tdiv (IntKind.wrap .i64 (8 * v4)) 26)).toNat (IntKind.wrap .i64 ((v3.getD (IntKind.wrap .i64 (Int.tdiv (IntKind.wrap .i64 (8 * v4)) 26)).toNat 0) + (xH .and .i64 (IntKind.wrap .i64 ((IntKind.wrap .i64 (UInt8.toNat (v0.getD v4.toNat 0) : Int)) * (2 ^ (Min.min (Int.tmod (IntKind.wrap .i64 (8 * v4)) 26).toNat (IntKind.bits .i64))))) 67108863)))) (IntKind.wrap .i64 (v4 + 1))))
 (vL R L v0 v2 (v3.set (IntKind.wrap .i64 (Int.tdiv (IntKind.wrap .i64 (8 * v4)) 26)).toNat (IntKind.wrap .i64 ((v3.getD (IntKind.wrap .i64 (Int.tdiv (IntKind.wrap .i64 (8 * v4)) 26)).toNat 0) + (xH .and .i64 (IntKind.wrap .i64 ((IntKind.wrap .i64 (UInt8.toNat (v0.getD v4.toNat 0) : Int)) * (2 ^ (Min.min (Int.tmod (IntKind.wrap .i64 (8 * v4)) 26).toNat (IntKind.bits .i64))))) 67108863)))) (IntKind.wrap .i64 (v4 + 1))))
 none)
 none))
 none)
 none)
 none)
 none)
 (some (v3, ()))) := by kernel_rfl
theorem A2J (x0:List Int):@Eq _ (mH (zD EE R L) x0) (pD R L x0 (List.replicate 5 0) 0):=by kernel_rfl
theorem At9 (v1 v2 : List Int) (v3 : Int) : @Eq _ (pD R L v1 v2 v3 ([1, 0, 1, 0] ++ [0])) (cond (decide (v3 < 3))
 (uO R L v1 v2 v3 0)
 (some (v1, ()))) := by kernel_rfl
theorem AO9 (v1 v2 : List Int) (v3 v4 : Int) : @Eq _ (uO R L v1 v2 v3 v4 ([1, 0, 1, 0, 0, 1, 0, 0, 0, 1, 0] ++ [0])) (cond (decide (v4 < 4))
 (cond (zA (IntKind.wrap .i64 (v4 + 1)))
 (cond (Nat.blt (IntKind.wrap .i64 (v4 + 1)).toNat 5)
 (cond (zA v4)
 (cond (Nat.blt v4.toNat 5)
 (cond (zA (IntKind.wrap .i64 (v4 + 1)))
 (cond (Nat.blt (IntKind.wrap .i64 (v4 + 1)).toNat 5)
 (cond (zA v4)
 (cond (Nat.blt v4.toNat 5)
 (cond (zA v4)
 (cond (Nat.blt v4.toNat 5)
 (uO R L ((v1.set (IntKind.wrap .i64 (v4 + 1)).toNat (IntKind.wrap .i64 ((v1.getD (IntKind.wrap .i64 (v4 + 1)).toNat 0) + (Int.fdiv (v1.getD v4.toNat 0) (2 ^ (Min.min (26 : Int).toNat (IntKind.bits .i64))))))).set v4.toNat (xH .and .i64 ((v1.set (IntKind.wrap .i64 (v4 + 1)).toNat (IntKind.wrap .i64 ((v1.getD (IntKind.wrap .i64 (v4 + 1)).toNat 0) + (Int.fdiv (v1.getD v4.toNat 0) (2 ^ (Min.min (26 : Int).toNat (IntKind.bits .i64))))))).getD v4.toNat 0) 67108863)) v2 v3 (IntKind.wrap .i64 (v4 + 1)))
 none)
 none)
 none)
 none)
 none)
 none)
 none)
 none)
 none)
 none)
 (pD R L ((v1.set (0 : Int).toNat (IntKind.wrap .i64 ((v1.getD (0 : Int).toNat 0) + (IntKind.wrap .i64 (5 * (Int.fdiv (v1.getD (4 : Int).toNat 0) (2 ^ (Min.min (26 : Int).toNat (IntKind.bits .i64))))))))).set (4 : Int).toNat (xH .and .i64 ((v1.set (0 : Int).toNat (IntKind.wrap .i64 ((v1.getD (0 : Int).toNat 0) + (IntKind.wrap .i64 (5 * (Int.fdiv (v1.getD (4 : Int).toNat 0) (2 ^ (Min.min (26 : Int).toNat (IntKind.bits .i64))))))))).getD (4 : Int).toNat 0) 67108863)) v2 (IntKind.wrap .i64 (v3 + 1)))) := by kernel_rfl
theorem A2C (x0 x1:List Int):@Eq _ (kE (zD EE R L) x0 x1) (vJ R L x0 x1 (List.replicate 5 0) [0,0,0,0,0] 0):=by kernel_rfl
theorem AO8 (v2 v3 v4 v5 : List Int) (v6 : Int) : @Eq _ (vJ R L v2 v3 v4 v5 v6 ([1, 1, 0, 1, 0] ++ [0])) (cond (decide (v6 < 5))
 (vG R L v2 v3 v4 v5 v6 0)
 ((mH R v5).bind fun r0 =>
 some (r0.1, ()))) := by kernel_rfl
theorem AM7 (v2 v3 v4 v5 : List Int) (v6 v7 : Int) : @Eq _ (vG R L v2 v3 v4 v5 v6 v7 ([1, 1, 0, 1, 0, 0, 1, 0, 0, 1, 0] ++ [0])) (cond (decide (v7 < 5))
 (cond (zA v6)
 (cond (Nat.blt v6.toNat 5)
 (cond (zA v7)
 (cond (Nat.blt v7.toNat 5)
 (cond (decide (4 < (IntKind.wrap .i64 (v6 + v7))))
 (cond (zA (Int.tmod (IntKind.wrap .i64 (v6 + v7)) 5))
 (cond (Nat.blt (Int.tmod (IntKind.wrap .i64 (v6 + v7)) 5).toNat 5)
 (cond (zA (Int.tmod (IntKind.wrap .i64 (v6 + v7)) 5))
 (cond (Nat.blt (Int.tmod (IntKind.wrap .i64 (v6 + v7)) 5).toNat 5)
 (vG R L v2 v3 v4 (v5.set (Int.tmod (IntKind.wrap .i64 (v6 + v7)) 5).toNat (IntKind.wrap .i64 ((v5.getD (Int.tmod (IntKind.wrap .i64 (v6 + v7)) 5).toNat 0) + (IntKind.wrap .i64 ((IntKind.wrap .i64 ((v2.getD v6.toNat 0) * (v3.getD v7.toNat 0))) * 5))))) v6 (IntKind.wrap .i64 (v7 + 1)))
 none)
 none)
 none)
 none)
 (cond (zA (Int.tmod (IntKind.wrap .i64 (v6 + v7)) 5))
 (cond (Nat.blt (Int.tmod (IntKind.wrap .i64 (v6 + v7)) 5).toNat 5)
 (cond (zA (Int.tmod (IntKind.wrap .i64 (v6 + v7)) 5))
 (cond (Nat.blt (Int.tmod (IntKind.wrap .i64 (v6 + v7)) 5).toNat 5)
 (vG R L v2 v3 v4 (v5.set (Int.tmod (IntKind.wrap .i64 (v6 + v7)) 5).toNat (IntKind.wrap .i64 ((v5.getD (Int.tmod (IntKind.wrap .i64 (v6 + v7)) 5).toNat 0) + (IntKind.wrap .i64 ((v2.getD v6.toNat 0) * (v3.getD v7.toNat 0)))))) v6 (IntKind.wrap .i64 (v7 + 1)))
 none)
 none)
 none)
 none))
 none)
 none)
 none)
 none)
 (vJ R L v2 v3 v4 v5 (IntKind.wrap .i64 (v6 + 1)))) := by kernel_rfl
theorem A3u (x0:List Int):@Eq _ (AB4 (zD EE R L) x0) (rF R L x0 (List.replicate 5 0) (x0.set (0:Int).toNat (IntKind.wrap .i64 ((x0.getD (0:Int).toNat 0) + 5))) 0):=by kernel_rfl
theorem AT8 (v1 v2 v3 : List Int) (v4 : Int) : @Eq _ (rF R L v1 v2 v3 v4 ([1, 1, 1, 0, 1, 0] ++ [0])) (cond (decide (v4 < 4))
 (cond (zA (IntKind.wrap .i64 (v4 + 1)))
 (cond (Nat.blt (IntKind.wrap .i64 (v4 + 1)).toNat 5)
 (cond (zA v4)
 (cond (Nat.blt v4.toNat 5)
 (cond (zA (IntKind.wrap .i64 (v4 + 1)))
 (cond (Nat.blt (IntKind.wrap .i64 (v4 + 1)).toNat 5)
 (cond (zA v4)
 (cond (Nat.blt v4.toNat 5)
 (cond (zA v4)
 (cond (Nat.blt v4.toNat 5)
 (rF R L v1 v2 ((v3.set (IntKind.wrap .i64 (v4 + 1)).toNat (IntKind.wrap .i64 ((v3.getD (IntKind.wrap .i64 (v4 + 1)).toNat 0) + (Int.fdiv (v3.getD v4.toNat 0) (2 ^ (Min.min (26 : Int).toNat (IntKind.bits .i64))))))).set v4.toNat (xH .and .i64 ((v3.set (IntKind.wrap .i64 (v4 + 1)).toNat (IntKind.wrap .i64 ((v3.getD (IntKind.wrap .i64 (v4 + 1)).toNat 0) + (Int.fdiv (v3.getD v4.toNat 0) (2 ^ (Min.min (26 : Int).toNat (IntKind.bits .i64))))))).getD v4.toNat 0) 67108863)) (IntKind.wrap .i64 (v4 + 1)))
 none)
 none)
 none)
 none)
 none)
 none)
 none)
 none)
 none)
 none)
 (cond (eqI (Int.fdiv (v3.getD (4 : Int).toNat 0) (2 ^ (Min.min (26 : Int).toNat (IntKind.bits .i64)))) 0)
 (some (v1, ()))
 (some (v3.set (4 : Int).toNat (xH .and .i64 (v3.getD (4 : Int).toNat 0) 67108863), ())))) := by kernel_rfl
theorem A7d (x0 x1 : List UInt8) : @Eq _ (eH (zD EE R L) x0 x1) ((cO R x0).bind fun r0 =>
 cond (yP (r0.1.length + ([(0 : UInt8)]).length))
 ((kI R (r0.1 ++ [0])).bind fun r1 =>
 rA R L x0 x1 r1.1 [0, 0, 0, 0, 0] 0)
 none) := by kernel_rfl
theorem Ad2 (v0 v1 : List UInt8) (v5 v6 : List Int) (v7 : Int) : @Eq _ (rA R L v0 v1 v5 v6 v7 ([1, 1, 1, 0, 1, 0] ++ [0])) (cond (decide (v7 < (v1.length : Int)))
 (cond (zA (Ax5 (v1.length : Int) (IntKind.wrap .i64 (v7 + 16))))
 (cond (zA v7)
 (cond (Nat.ble (Ax5 (v1.length : Int) (IntKind.wrap .i64 (v7 + 16))).toNat v1.length)
 (cond (Nat.ble v7.toNat (Ax5 (v1.length : Int) (IntKind.wrap .i64 (v7 + 16))).toNat)
 (cond (yP ((List.drop v7.toNat (List.take (Ax5 (v1.length : Int) (IntKind.wrap .i64 (v7 + 16))).toNat v1)).length + ([(1 : UInt8)]).length))
 (oA R L v0 v1 v5 v6 v7 ((List.drop v7.toNat (List.take (Ax5 (v1.length : Int) (IntKind.wrap .i64 (v7 + 16))).toNat v1)) ++ [1]))
 none)
 none)
 none)
 none)
 none)
 ((mH R v6).bind fun r0 =>
 (AB4 R r0.1).bind fun r1 =>
 uN R L v0 r1.1 [] 0 0)) := by kernel_rfl
theorem Ac3 (v0 v1 : List UInt8) (v5 v6 : List Int) (v7 : Int) (v8 : List UInt8) : @Eq _ (oA R L v0 v1 v5 v6 v7 v8 ([1, 1, 1, 0, 1, 0, 0, 1, 0, 0, 1, 0, 0] ++ [0])) (cond (decide ((v8.length : Int) < 17))
 (cond (yP (v8.length + ([(0 : UInt8)]).length))
 (oA R L v0 v1 v5 v6 v7 (v8 ++ [0]))
 none)
 ((kI R v8).bind fun r0 =>
 tV R L v0 v1 v5 v6 v7 r0.1 0)) := by kernel_rfl
theorem Ae8 (v0 : List UInt8) (v6 v11 : List Int) (v12 v13 : Int) : @Eq _ (uN R L v0 v6 v11 v12 v13 ([1, 1, 1, 1, 1, 1, 1, 0, 1, 0] ++ [0])) (cond (decide (v13 < 16))
 (cond (zA (IntKind.wrap .i64 (Int.tdiv (IntKind.wrap .i64 (8 * v13)) 26)))
 (cond (Nat.blt (IntKind.wrap .i64 (Int.tdiv (IntKind.wrap .i64 (8 * v13)) 26)).toNat 5)
 (cond (decide ((Int.tmod (IntKind.wrap .i64 (8 * v13)) 26) < 0))
 none
 (cond (decide (18 < (Int.tmod (IntKind.wrap .i64 (8 * v13)) 26)))
 (cond (zA (IntKind.wrap .i64 ((IntKind.wrap .i64 (Int.tdiv (IntKind.wrap .i64 (8 * v13)) 26)) + 1)))
 (cond (Nat.blt (IntKind.wrap .i64 ((IntKind.wrap .i64 (Int.tdiv (IntKind.wrap .i64 (8 * v13)) 26)) + 1)).toNat 5)
 (cond (decide ((IntKind.wrap .i64 (26 - (Int.tmod (IntKind.wrap .i64 (8 * v13)) 26))) < 0))
 none
 (cond (zA (IntKind.wrap .i64 (16 + v13)))
 (cond (Nat.blt (IntKind.wrap .i64 (16 + v13)).toNat v0.length)
 (cond (yP (v11.length + ([IntKind.wrap .u8 (IntKind.wrap .i64 (v12 + (IntKind.wrap .i64 ((xH .and .i64 (IntKind.wrap .i64 ((Int.fdiv (v6.getD (IntKind.wrap .i64 (Int.tdiv (IntKind.wrap .i64 (8 * v13)) 26)).toNat 0) (2 ^ (Min.min (Int.tmod (IntKind.wrap .i64 (8 * v13)) 26).toNat (IntKind.bits .i64)))) + (IntKind.wrap .i64 ((v6.getD (IntKind.wrap .i64 ((IntKind.wrap .i64 (Int.tdiv (IntKind.wrap .i64 (8 * v13)) 26)) + 1)).toNat 0) * (2 ^ (Min.min (IntKind.wrap .i64 (26 - (Int.tmod (IntKind.wrap .i64 (8 * v13)) 26))).toNat (IntKind.bits .i64))))))) 255) + (IntKind.wrap .i64 (UInt8.toNat (v0.getD (IntKind.wrap .i64 (16 + v13)).toNat 0) : Int))))))]).length))
 (uN R L v0 v6 (v11 ++ [IntKind.wrap .u8 (IntKind.wrap .i64 (v12 + (IntKind.wrap .i64 ((xH .and .i64 (IntKind.wrap .i64 ((Int.fdiv (v6.getD (IntKind.wrap .i64 (Int.tdiv (IntKind.wrap .i64 (8 * v13)) 26)).toNat 0) (2 ^ (Min.min (Int.tmod (IntKind.wrap .i64 (8 * v13)) 26).toNat (IntKind.bits .i64)))) + (IntKind.wrap .i64 ((v6.getD (IntKind.wrap .i64 ((IntKind.wrap .i64 (Int.tdiv (IntKind.wrap .i64 (8 * v13)) 26)) + 1)).toNat 0) * (2 ^ (Min.min (IntKind.wrap .i64 (26 - (Int.tmod (IntKind.wrap .i64 (8 * v13)) 26))).toNat (IntKind.bits .i64))))))) 255) + (IntKind.wrap .i64 (UInt8.toNat (v0.getD (IntKind.wrap .i64 (16 + v13)).toNat 0) : Int))))))]) (Int.fdiv (IntKind.wrap .i64 (v12 + (IntKind.wrap .i64 ((xH .and .i64 (IntKind.wrap .i64 ((Int.fdiv (v6.getD (IntKind.wrap .i64 (Int.tdiv (IntKind.wrap .i64 (8 * v13)) 26)).toNat 0) (2 ^ (Min.min (Int.tmod (IntKind.wrap .i64 (8 * v13)) 26).toNat (IntKind.bits .i64)))) + (IntKind.wrap .i64 ((v6.getD (IntKind.wrap .i64 ((IntKind.wrap .i64 (Int.tdiv (IntKind.wrap .i64 (8 * v13)) 26)) + 1)).toNat 0) * (2 ^ (Min.min (IntKind.wrap .i64 (26 - (Int.tmod (IntKind.wrap .i64 (8 * v13)) 26))).toNat (IntKind.bits .i64))))))) 255) + (IntKind.wrap .i64 (UInt8.toNat (v0.getD (IntKind.wrap .i64 (16 + v13)).toNat 0) : Int)))))) (2 ^ (Min.min (8 : Int).toNat (IntKind.bits .i64)))) (IntKind.wrap .i64 (v13 + 1)))
 none)
 none)
 none))
 none)
 none)
 (cond (zA (IntKind.wrap .i64 (16 + v13)))
 (cond (Nat.blt (IntKind.wrap .i64 (16 + v13)).toNat v0.length)
 (cond (yP (v11.length + ([IntKind.wrap .u8 (IntKind.wrap .i64 (v12 + (IntKind.wrap .i64 ((xH .and .i64 (Int.fdiv (v6.getD (IntKind.wrap .i64 (Int.tdiv (IntKind.wrap .i64 (8 * v13)) 26)).toNat 0) (2 ^ (Min.min (Int.tmod (IntKind.wrap .i64 (8 * v13)) 26).toNat (IntKind.bits .i64)))) 255) + (IntKind.wrap .i64 (UInt8.toNat (v0.getD (IntKind.wrap .i64 (16 + v13)).toNat 0) : Int))))))]).length))
 (uN R L v0 v6 (v11 ++ [IntKind.wrap .u8 (IntKind.wrap .i64 (v12 + (IntKind.wrap .i64 ((xH .and .i64 (Int.fdiv (v6.getD (IntKind.wrap .i64 (Int.tdiv (IntKind.wrap .i64 (8 * v13)) 26)).toNat 0) (2 ^ (Min.min (Int.tmod (IntKind.wrap .i64 (8 * v13)) 26).toNat (IntKind.bits .i64)))) 255) + (IntKind.wrap .i64 (UInt8.toNat (v0.getD (IntKind.wrap .i64 (16 + v13)).toNat 0) : Int))))))]) (Int.fdiv (IntKind.wrap .i64 (v12 + (IntKind.wrap .i64 ((xH .and .i64 (Int.fdiv (v6.getD (IntKind.wrap .i64 (Int.tdiv (IntKind.wrap .i64 (8 * v13)) 26)).toNat 0) (2 ^ (Min.min (Int.tmod (IntKind.wrap .i64 (8 * v13)) 26).toNat (IntKind.bits .i64)))) 255) + (IntKind.wrap .i64 (UInt8.toNat (v0.getD (IntKind.wrap .i64 (16 + v13)).toNat 0) : Int)))))) (2 ^ (Min.min (8 : Int).toNat (IntKind.bits .i64)))) (IntKind.wrap .i64 (v13 + 1)))
 none)
 none)
 none)))
 none)
 none)
 (some (List.map (fun (n : Int) => UInt8.ofNat n.toNat) v11, ()))) := by kernel_rfl
theorem Ad8 (v0 v1 : List UInt8) (v5 v6 : List Int) (v7 : Int) (v9 : List Int) (v10 : Int) : @Eq _ (tV R L v0 v1 v5 v6 v7 v9 v10 ([1, 1, 1, 0, 1, 0, 0, 1, 0, 0, 1, 1, 1, 0, 1, 0] ++ [0])) (cond (decide (v10 < 5))
 (cond (zA v10)
 (cond (Nat.blt v10.toNat 5)
 (cond (zA v10)
 (cond (Nat.blt v10.toNat 5)
 (cond (zA v10)
 (cond (Nat.blt v10.toNat 5)
 (tV R L v0 v1 v5 (v6.set v10.toNat (IntKind.wrap .i64 ((v6.getD v10.toNat 0) + (v9.getD v10.toNat 0)))) v7 v9 (IntKind.wrap .i64 (v10 + 1)))
 none)
 none)
 none)
 none)
 none)
 none)
 ((kE R v6 v5).bind fun r0 =>
 rA R L v0 v1 v5 r0.1 (IntKind.wrap .i64 (v7 + 16)))) := by kernel_rfl
theorem A6j (x0 x1 x2 x3 : List UInt8) : @Eq _ (AL0 (zD EE R L) x0 x1 x2 x3) ((pU R x0 x1 0).bind fun r0 =>
 cond (Nat.ble (32 : Int).toNat r0.1.length)
 ((bG R x2).bind fun r1 =>
 (bG R x3).bind fun r2 =>
 cond (yP (r1.1.length + r2.1.length))
 ((kJ R (x2.length : Int)).bind fun r3 =>
 cond (yP ((r1.1 ++ r2.1).length + r3.1.length))
 ((kJ R (x3.length : Int)).bind fun r4 =>
 cond (yP (((r1.1 ++ r2.1) ++ r3.1).length + r4.1.length))
 ((eH R (List.drop 0 (List.take (32 : Int).toNat r0.1)) (((r1.1 ++ r2.1) ++ r3.1) ++ r4.1)).bind fun r5 =>
 some (r5.1, ()))
 none)
 none)
 none)
 none) := by kernel_rfl
theorem A2V (x0 x1 : List UInt8) : @Eq _ (cA (zD EE R L) x0 x1) (cond (yP (([(2 : UInt8)]).length + x0.length))
 (cond (yP (([(2 : UInt8)] ++ x0).length + x1.length))
 ((aA R (([2] ++ x0) ++ x1)).bind fun r0 =>
 some (r0.1, ()))
 none)
 none) := by kernel_rfl
theorem A7l (x0 : d80) : @Eq _ (AL4 (zD EE R L) x0) (cond (yP (([] : List (List UInt8)).length + x0.1.length))
 (cond (yP (([] : List d79).length + x0.2.1.length))
 (some (([] ++ x0.1, ([] ++ x0.2.1, ())), ()))
 none)
 none) := by kernel_rfl
theorem A7P (x0 : d81) : @Eq _ (AJ1 (zD EE R L) x0) ((AL4 R x0.2.2.1).bind fun r0 =>
 some ((x0.1, (x0.2.1, (r0.1, x0.2.2.2))), ())) := by kernel_rfl
theorem A3W (x0:List UInt8):@Eq _ (kC (zD EE R L) x0) (some (eqI (x0.length:Int) 32,())):=by kernel_rfl
theorem AM0 (x0:d78):@Eq _ (lE (zD EE R L) x0) (some (IntKind.wrap .i64 (x0.2.2.1 - x0.1),())):=by kernel_rfl
theorem Ar9 (x0 : d78) : @Eq _ (iS (zD EE R L) x0) ((sL R x0.1 0 1000000).bind fun r0 =>
 cond r0.1
 ((sL R x0.2.1 0 1).bind fun r1 =>
 cond r1.1
 ((sL R x0.2.2.1 x0.1 (Ax5 (IntKind.wrap .i64 (x0.1 + 4)) 1000000)).bind fun r2 =>
 cond r2.1
 ((sL R x0.2.2.2.1 0 1000000).bind fun r3 =>
 cond r3.1
 ((kC R x0.2.2.2.2.1).bind fun r4 =>
 cond r4.1
 ((kC R x0.2.2.2.2.2.1).bind fun r5 =>
 cond r5.1
 ((kC R x0.2.2.2.2.2.2.1).bind fun r6 =>
 cond r6.1
 ((lE R x0).bind fun r7 =>
 cond (decide (0 < r7.1))
 (some (true, ()))
 (some (eqS x0.2.2.2.2.1 x0.2.2.2.2.2.1, ())))
 (some (false, ())))
 (some (false, ())))
 (some (false, ())))
 (some (false, ())))
 (some (false, ())))
 (some (false, ())))
 (some (false, ()))) := by kernel_rfl
theorem AM1 (x0 : List UInt8) (x1 : FnVal) : @Eq _ (lA (zD EE R L) x0 x1) ((vS EE R x1 [⟨.str, (x0 : List UInt8)⟩]).bind fun (r0 : Bool) =>
 some (!r0, ())) := by kernel_rfl
theorem lX (x0:List (List UInt8)) (x1:FnVal):@Eq _ (xW (zD EE R L) x0 x1) (wT R L x0 x1 0 (x0.length:Int) 0):=by kernel_rfl
theorem lB (v0 : List (List UInt8)) (v1 : FnVal) (v4 v7 v8 : Int) : @Eq _ (wT R L v0 v1 v4 v7 v8 ([1, 0, 1, 0] ++ [0])) (cond (decide (v8 < v7))
 (cond (zA v8)
 (cond (Nat.blt v8.toNat v0.length)
 ((vS EE R v1 [⟨.str, (v0.getD v8.toNat [] : List UInt8)⟩]).bind fun (r0 : Bool) =>
 cond r0
 (some (v8, ()))
 (zG R L v0 v1 v4 v8 v7 (IntKind.wrap .i64 (v8 + 1))))
 none)
 none)
 (some (-1, ()))) := by kernel_rfl
theorem wY (v0 : List (List UInt8)) (v1 : FnVal) (v4 v5 v7 v8 : Int) : @Eq _ (zG R L v0 v1 v4 v5 v7 v8 ([1, 0, 1, 0] ++ [0])) (cond (decide (v8 < v7))
 (cond (zA v8)
 (cond (Nat.blt v8.toNat v0.length)
 ((vS EE R v1 [⟨.str, (v0.getD v8.toNat [] : List UInt8)⟩]).bind fun (r0 : Bool) =>
 cond r0
 (some (v8, ()))
 (zG R L v0 v1 v4 v8 v7 (IntKind.wrap .i64 (v8 + 1))))
 none)
 none)
 (some (-1, ()))) := by kernel_rfl
theorem mW (x0 : List (List UInt8)) (x1 : FnVal) : @Eq _ (xJ (zD EE R L) x0 x1) ((xW R x0 x1).bind fun r0 =>
 some (decide (0 ≤ r0.1), ())) := by kernel_rfl
theorem AW1 (x0 : List (List UInt8)) (x1 : FnVal) : @Eq _ (oZ (zD EE R L) x0 x1) ((xJ R x0 (FnVal.mk (254 : Nat) (FCaps.fn x1 FCaps.nil))).bind fun r0 =>
 some (!r0.1, ())) := by kernel_rfl
theorem A0h (x0:List UInt8):@Eq _ (kM (zD EE R L) x0) (some (decide ((x0.length:Int) ≤ 700),())):=by kernel_rfl
theorem AW6 (x0 : d79) (x1 : FnVal) : @Eq _ (jO (zD EE R L) x0 x1) ((vS EE R x1 [⟨t16, (x0 : d79)⟩]).bind fun (r0 : Bool) =>
 some (!r0, ())) := by kernel_rfl
theorem iO (x0:List d79) (x1:FnVal):@Eq _ (wV (zD EE R L) x0 x1) (uD R L x0 x1 0 (x0.length:Int) 0):=by kernel_rfl
theorem kV (v0 : List d79) (v1 : FnVal) (v4 v7 v8 : Int) : @Eq _ (uD R L v0 v1 v4 v7 v8 ([1, 0, 1, 0] ++ [0])) (cond (decide (v8 < v7))
 (cond (zA v8)
 (cond (Nat.blt v8.toNat v0.length)
 ((vS EE R v1 [⟨t16, (v0.getD v8.toNat (0, ([], ())) : d79)⟩]).bind fun (r0 : Bool) =>
 cond r0
 (some (v8, ()))
 (zK R L v0 v1 v4 v8 v7 (IntKind.wrap .i64 (v8 + 1))))
 none)
 none)
 (some (-1, ()))) := by kernel_rfl
theorem uU (v0 : List d79) (v1 : FnVal) (v4 v5 v7 v8 : Int) : @Eq _ (zK R L v0 v1 v4 v5 v7 v8 ([1, 0, 1, 0] ++ [0])) (cond (decide (v8 < v7))
 (cond (zA v8)
 (cond (Nat.blt v8.toNat v0.length)
 ((vS EE R v1 [⟨t16, (v0.getD v8.toNat (0, ([], ())) : d79)⟩]).bind fun (r0 : Bool) =>
 cond r0
 (some (v8, ()))
 (zK R L v0 v1 v4 v8 v7 (IntKind.wrap .i64 (v8 + 1))))
 none)
 none)
 (some (-1, ()))) := by kernel_rfl
theorem kL (x0 : List d79) (x1 : FnVal) : @Eq _ (wC (zD EE R L) x0 x1) ((wV R x0 x1).bind fun r0 =>
 some (decide (0 ≤ r0.1), ())) := by kernel_rfl
theorem Ah0 (x0 : List d79) (x1 : FnVal) : @Eq _ (lR (zD EE R L) x0 x1) ((wC R x0 (FnVal.mk (331 : Nat) (FCaps.fn x1 FCaps.nil))).bind fun r0 =>
 some (!r0.1, ())) := by kernel_rfl
theorem A2P (x0 : Int) : @Eq _ (cG (zD EE R L) x0) ((sL R x0 0 39).bind fun r0 =>
 some (r0.1, ())) := by kernel_rfl
theorem As2 (x0 : d79) : @Eq _ (hM (zD EE R L) x0) ((cG R x0.1).bind fun r0 =>
 cond r0.1
 ((kM R x0.2.1).bind fun r1 =>
 some (r1.1, ()))
 (some (false, ()))) := by kernel_rfl
theorem A3I (x0 : d80) : @Eq _ (dV (zD EE R L) x0) (cond (eqI (x0.1.length : Int) 40)
 ((oZ R x0.1 (FnVal.mk (285 : Nat) FCaps.nil)).bind fun r0 =>
 cond r0.1
 (cond (decide ((x0.2.1.length : Int) ≤ 60))
 ((lR R x0.2.1 (FnVal.mk (287 : Nat) FCaps.nil)).bind fun r1 =>
 some (r1.1, ()))
 (some (false, ())))
 (some (false, ())))
 (some (false, ()))) := by kernel_rfl
theorem A7x (x0 : d80) : @Eq _ (AI9 (zD EE R L) x0) ((dV R x0).bind fun r0 =>
 cond r0.1
 (some (eqI (x0.2.1.length : Int) 0, ()))
 (some (false, ()))) := by kernel_rfl
theorem A3z (x0 : d81) : @Eq _ (aZ (zD EE R L) x0) (cond (eqI (x0.1.length : Int) 32)
 ((iS R x0.2.1).bind fun r0 =>
 cond r0.1
 ((AI9 R x0.2.2.1).bind fun r1 =>
 cond r1.1
 (cond x0.2.2.2.1
 (some (!x0.2.2.2.2.1, ()))
 (some (!false, ())))
 (some (false, ())))
 (some (false, ())))
 (some (false, ()))) := by kernel_rfl
theorem Am2 (x0:Int):@Eq _ (jG (zD EE R L) x0) (some (IntKind.wrap .i64 (32 + (Int.tmod x0 8)),())):=by kernel_rfl
theorem A5G (x0 x1 x2 : Int) : @Eq _ (AA7 (zD EE R L) x0 x1 x2) ((vE R x0 1).bind fun r0 =>
 (vE R x1 2).bind fun r1 =>
 cond (yP (r0.1.length + r1.1.length))
 ((vE R 0 1).bind fun r2 =>
 cond (yP ((r0.1 ++ r1.1).length + r2.1.length))
 ((vE R x2 8).bind fun r3 =>
 cond (yP (((r0.1 ++ r1.1) ++ r2.1).length + r3.1.length))
 (some (((r0.1 ++ r1.1) ++ r2.1) ++ r3.1, ()))
 none)
 none)
 none) := by kernel_rfl
theorem A7c (x0 : List UInt8) : @Eq _ (bZ (zD EE R L) x0) ((oP R [0] (Int.tmod (IntKind.wrap .i64 (16 - (Int.tmod (x0.length : Int) 16))) 16)).bind fun r0 =>
 cond (yP (x0.length + r0.1.length))
 (some (x0 ++ r0.1, ()))
 none) := by kernel_rfl
theorem A3w (x0 : List UInt8) : @Eq _ (aS (zD EE R L) x0) (cond (Nat.ble (16 : Int).toNat x0.length)
 (tZ R L (List.map (fun (b : UInt8) => (UInt8.toNat b : Int)) (List.drop 0 (List.take (16 : Int).toNat x0))) 3)
 none) := by kernel_rfl
theorem AV8 (v3 : List Int) (v4 : Int) : @Eq _ (tZ R L v3 v4 ([1, 1, 0, 1, 0] ++ [0])) (cond (decide (v4 < 16))
 (cond (zA v4)
 (cond (Nat.blt v4.toNat v3.length)
 (cond (zA v4)
 (cond (Nat.blt v4.toNat v3.length)
 (tZ R L (v3.set v4.toNat (xH .and .u8 (v3.getD v4.toNat 0) 15)) (IntKind.wrap .i64 (v4 + 4)))
 none)
 none)
 none)
 none)
 (tT R L v3 4)) := by kernel_rfl
theorem AU8 (v3 : List Int) (v5 : Int) : @Eq _ (tT R L v3 v5 ([1, 1, 1, 0, 1, 0] ++ [0])) (cond (decide (v5 < 16))
 (cond (zA v5)
 (cond (Nat.blt v5.toNat v3.length)
 (cond (zA v5)
 (cond (Nat.blt v5.toNat v3.length)
 (tT R L (v3.set v5.toNat (xH .and .u8 (v3.getD v5.toNat 0) 252)) (IntKind.wrap .i64 (v5 + 4)))
 none)
 none)
 none)
 none)
 (some (List.map (fun (n : Int) => UInt8.ofNat n.toNat) v3, ()))) := by kernel_rfl
theorem A4P (x0:List UInt8):@Eq _ (iB (zD EE R L) x0) (wR R L (List.replicate 5 0) (List.replicate 5 0) (List.map (fun (b:UInt8)=>(UInt8.toNat b:Int)) x0) ((List.map (fun (b:UInt8)=>(UInt8.toNat b:Int)) x0).length:Int) 0):=by kernel_rfl
theorem AV3 (v2 v3 v9 : List Int) (v10 v11 : Int) : @Eq _ (wR R L v2 v3 v9 v10 v11 ([1, 1, 0, 1, 0] ++ [0])) (cond (decide (v11 < v10))
 (cond (zA v11)
 (cond (Nat.blt v11.toNat v9.length)
 (vI R L v2 v3 v11 (v9.getD v11.toNat 0) v9 v10 v11 0)
 none)
 none)
 (some (v3, ()))) := by kernel_rfl
theorem AT1 (v2 v3 : List Int) (v4 v5 : Int) (v9 : List Int) (v10 v11 v16 : Int) : @Eq _ (vI R L v2 v3 v4 v5 v9 v10 v11 v16 ([1, 1, 0, 1, 0, 0, 1, 1, 0, 0, 1, 1, 0] ++ [0])) (cond (decide (v16 < 8))
 (cond (decide (v16 < 0))
 none
 (cond (eqI (xH .and .u8 (Int.fdiv v5 (2 ^ (Min.min v16.toNat (IntKind.bits .u8)))) 1) 1)
 (cond (zA (IntKind.wrap .i64 (Int.tdiv (IntKind.wrap .i64 ((IntKind.wrap .i64 (8 * v4)) + v16)) 26)))
 (cond (Nat.blt (IntKind.wrap .i64 (Int.tdiv (IntKind.wrap .i64 ((IntKind.wrap .i64 (8 * v4)) + v16)) 26)).toNat 5)
 (cond (decide ((Int.tmod (IntKind.wrap .i64 ((IntKind.wrap .i64 (8 * v4)) + v16)) 26) < 0))
 none
 (cond (zA (IntKind.wrap .i64 (Int.tdiv (IntKind.wrap .i64 ((IntKind.wrap .i64 (8 * v4)) + v16)) 26)))
 (cond (Nat.blt (IntKind.wrap .i64 (Int.tdiv (IntKind.wrap .i64 ((IntKind.wrap .i64 (8 * v4)) + v16)) 26)).toNat 5)
 (vI R L v2 (v3.set (IntKind.wrap .i64 (Int.tdiv (IntKind.wrap .i64 ((IntKind.wrap .i64 (8 * v4)) + v16)) 26)).toNat (xH .or .u64 (v3.getD (IntKind.wrap .i64 (Int.tdiv (IntKind.wrap .i64 ((IntKind.wrap .i64 (8 * v4)) + v16)) 26)).toNat 0) (IntKind.wrap .u64 (1 * (2 ^ (Min.min (Int.tmod (IntKind.wrap .i64 ((IntKind.wrap .i64 (8 * v4)) + v16)) 26).toNat (IntKind.bits .u64))))))) v4 v5 v9 v10 v11 (IntKind.wrap .i64 (v16 + 1)))
 none)
 none))
 none)
 none)
 (vI R L v2 v3 v4 v5 v9 v10 v11 (IntKind.wrap .i64 (v16 + 1)))))
 (wR R L v2 v3 v9 v10 (IntKind.wrap .i64 (v11 + 1)))) := by kernel_rfl
theorem Aa7 (x0:List Int):@Eq _ (wF (zD EE R L) x0) (uV R L x0 (List.replicate 5 0) 0):=by kernel_rfl
theorem AR4 (v1 v2 : List Int) (v5 : Int) : @Eq _ (uV R L v1 v2 v5 ([1, 0, 1, 0] ++ [0])) (cond (decide (v5 < 3))
 (xN R L v1 v2 0 v5 0)
 (some (v1, ()))) := by kernel_rfl
theorem dI (v1 v2 : List Int) (v3 v5 v7 : Int) : @Eq _ (xN R L v1 v2 v3 v5 v7 ([1, 0, 1, 0, 0, 1, 1, 0, 0, 1, 0, 1, 0] ++ [0])) (cond (decide (v7 < 5))
 (cond (zA v7)
 (cond (Nat.blt v7.toNat 5)
 (cond (zA v7)
 (cond (Nat.blt v7.toNat 5)
 (cond (zA v7)
 (cond (Nat.blt v7.toNat 5)
 (cond (zA v7)
 (cond (Nat.blt v7.toNat 5)
 (cond (zA v7)
 (cond (Nat.blt v7.toNat 5)
 (xN R L ((v1.set v7.toNat (IntKind.wrap .u64 ((v1.getD v7.toNat 0) + v3))).set v7.toNat (xH .and .u64 ((v1.set v7.toNat (IntKind.wrap .u64 ((v1.getD v7.toNat 0) + v3))).getD v7.toNat 0) 67108863)) v2 (Int.fdiv ((v1.set v7.toNat (IntKind.wrap .u64 ((v1.getD v7.toNat 0) + v3))).getD v7.toNat 0) (2 ^ (Min.min (26 : Int).toNat (IntKind.bits .u64)))) v5 (IntKind.wrap .i64 (v7 + 1)))
 none)
 none)
 none)
 none)
 none)
 none)
 none)
 none)
 none)
 none)
 (uV R L (v1.set (0 : Int).toNat (IntKind.wrap .u64 ((v1.getD (0 : Int).toNat 0) + (IntKind.wrap .u64 (5 * v3))))) v2 (IntKind.wrap .i64 (v5 + 1)))) := by kernel_rfl
theorem Av0 (x0 x1:List Int):@Eq _ (hO (zD EE R L) x0 x1) (vV R L x0 x1 (List.replicate 5 0) 0):=by kernel_rfl
theorem AC1 (v2 v3 v4 : List Int) (v6 : Int) : @Eq _ (vV R L v2 v3 v4 v6 ([1, 0, 1, 0] ++ [0])) (cond (decide (v6 < 5))
 (cond (zA v6)
 (cond (Nat.blt v6.toNat 5)
 (cond (zA v6)
 (cond (Nat.blt v6.toNat 5)
 (cond (zA v6)
 (cond (Nat.blt v6.toNat 5)
 (vV R L (v2.set v6.toNat (IntKind.wrap .u64 ((v2.getD v6.toNat 0) + (v3.getD v6.toNat 0)))) v3 v4 (IntKind.wrap .i64 (v6 + 1)))
 none)
 none)
 none)
 none)
 none)
 none)
 ((wF R v2).bind fun r0 =>
 some (r0.1, ()))) := by kernel_rfl
theorem Ap1 (x0 x1:List Int):@Eq _ (jP (zD EE R L) x0 x1) (xU R L x1 (List.replicate 5 0) (List.replicate 5 0) x0 0):=by kernel_rfl
theorem bT (v3 v4 v5 v10 : List Int) (v11 : Int) : @Eq _ (xU R L v3 v4 v5 v10 v11 ([1, 1, 0, 1, 0] ++ [0])) (cond (decide (v11 < 5))
 (cond (zA v11)
 (cond (Nat.blt v11.toNat 5)
 (xV R L v3 v4 v5 v11 (v10.getD v11.toNat 0) v10 v11 v3 0)
 none)
 none)
 ((wF R v5).bind fun r0 =>
 some (r0.1, ()))) := by kernel_rfl
theorem cZ (v3 v4 v5 : List Int) (v6 v7 : Int) (v10 : List Int) (v11 : Int) (v15 : List Int) (v16 : Int) : @Eq _ (xV R L v3 v4 v5 v6 v7 v10 v11 v15 v16 ([1, 1, 0, 1, 0, 0, 1, 1, 0, 0, 1, 1, 0] ++ [0])) (cond (decide (v16 < 5))
 (cond (zA v16)
 (cond (Nat.blt v16.toNat 5)
 (cond (decide ((IntKind.wrap .i64 (v6 + v16)) < 5))
 (cond (zA (IntKind.wrap .i64 (v6 + v16)))
 (cond (Nat.blt (IntKind.wrap .i64 (v6 + v16)).toNat 5)
 (cond (zA (IntKind.wrap .i64 (v6 + v16)))
 (cond (Nat.blt (IntKind.wrap .i64 (v6 + v16)).toNat 5)
 (xV R L v3 v4 (v5.set (IntKind.wrap .i64 (v6 + v16)).toNat (IntKind.wrap .u64 ((v5.getD (IntKind.wrap .i64 (v6 + v16)).toNat 0) + (IntKind.wrap .u64 (v7 * (v15.getD v16.toNat 0)))))) v6 v7 v10 v11 v15 (IntKind.wrap .i64 (v16 + 1)))
 none)
 none)
 none)
 none)
 (cond (zA (IntKind.wrap .i64 ((IntKind.wrap .i64 (v6 + v16)) - 5)))
 (cond (Nat.blt (IntKind.wrap .i64 ((IntKind.wrap .i64 (v6 + v16)) - 5)).toNat 5)
 (cond (zA (IntKind.wrap .i64 ((IntKind.wrap .i64 (v6 + v16)) - 5)))
 (cond (Nat.blt (IntKind.wrap .i64 ((IntKind.wrap .i64 (v6 + v16)) - 5)).toNat 5)
 (xV R L v3 v4 (v5.set (IntKind.wrap .i64 ((IntKind.wrap .i64 (v6 + v16)) - 5)).toNat (IntKind.wrap .u64 ((v5.getD (IntKind.wrap .i64 ((IntKind.wrap .i64 (v6 + v16)) - 5)).toNat 0) + (IntKind.wrap .u64 ((IntKind.wrap .u64 (5 * v7)) * (v15.getD v16.toNat 0)))))) v6 v7 v10 v11 v15 (IntKind.wrap .i64 (v16 + 1)))
 none)
 none)
 none)
 none))
 none)
 none)
 (xU R L v3 v4 v5 v10 (IntKind.wrap .i64 (v11 + 1)))) := by kernel_rfl
theorem AY2 (x0 : List Int) : @Eq _ (mN (zD EE R L) x0) ((wF R x0).bind fun r0 =>
 xM R L r0.1 (List.replicate 5 0) [67108859, 67108863, 67108863, 67108863, 67108863] 4) := by kernel_rfl
theorem eX (v1 v2 v3 : List Int) (v4 : Int) : @Eq _ (xM R L v1 v2 v3 v4 ([1, 1, 1, 0, 1, 0] ++ [0])) (cond (decide (0 ≤ v4))
 (cond (zA v4)
 (cond (Nat.blt v4.toNat 5)
 (cond (zA v4)
 (cond (Nat.blt v4.toNat 5)
 (cond (!(eqI (v1.getD v4.toNat 0) (v3.getD v4.toNat 0)))
 (cond (zA v4)
 (cond (Nat.blt v4.toNat 5)
 (cond (zA v4)
 (cond (Nat.blt v4.toNat 5)
 (cond (decide ((v1.getD v4.toNat 0) < (v3.getD v4.toNat 0)))
 (some (v1, ()))
 (zV R L v1 v2 v3 0))
 none)
 none)
 none)
 none)
 (xM R L v1 v2 v3 (IntKind.wrap .i64 (v4 - 1))))
 none)
 none)
 none)
 none)
 (zV R L v1 v2 v3 0)) := by kernel_rfl
theorem eO (v1 v2 v3 : List Int) (v28 : Int) : @Eq _ (zV R L v1 v2 v3 v28 ([1, 1, 1, 1, 0, 1, 0] ++ [0])) (cond (decide (v28 < 5))
 (cond (zA v28)
 (cond (Nat.blt v28.toNat 5)
 (cond (zA v28)
 (cond (Nat.blt v28.toNat 5)
 (cond (zA v28)
 (cond (Nat.blt v28.toNat 5)
 (zV R L (v1.set v28.toNat (IntKind.wrap .u64 ((v1.getD v28.toNat 0) - (v3.getD v28.toNat 0)))) v2 v3 (IntKind.wrap .i64 (v28 + 1)))
 none)
 none)
 none)
 none)
 none)
 none)
 (some (v1, ()))) := by kernel_rfl
theorem Ap0 (x0:List Int) (x1:List UInt8):@Eq _ (kW (zD EE R L) x0 x1) (xE R L x1 x0 (List.replicate (16:Int).toNat 0) 0 ((List.replicate (16:Int).toNat (0:Int)).length:Int) 0):=by kernel_rfl
theorem aB (v1 : List UInt8) (v2 v5 : List Int) (v6 v13 v14 : Int) : @Eq _ (xE R L v1 v2 v5 v6 v13 v14 ([1, 1, 1, 0, 1, 0] ++ [0])) (cond (decide (v14 < v13))
 (xT R L v1 v2 v5 v6 v14 0 v13 v14 0)
 (some (List.map (fun (n : Int) => UInt8.ofNat n.toNat) v5, ()))) := by kernel_rfl
theorem bA (v1 : List UInt8) (v2 v5 : List Int) (v6 v7 v8 v13 v14 v17 : Int) : @Eq _ (xT R L v1 v2 v5 v6 v7 v8 v13 v14 v17 ([1, 1, 1, 0, 1, 0, 0, 1, 1, 0, 0, 1, 1, 0, 1, 0] ++ [0])) (cond (decide (v17 < 8))
 (cond (zA (IntKind.wrap .i64 (Int.tdiv (IntKind.wrap .i64 ((IntKind.wrap .i64 (8 * v7)) + v17)) 26)))
 (cond (Nat.blt (IntKind.wrap .i64 (Int.tdiv (IntKind.wrap .i64 ((IntKind.wrap .i64 (8 * v7)) + v17)) 26)).toNat 5)
 (cond (decide ((Int.tmod (IntKind.wrap .i64 ((IntKind.wrap .i64 (8 * v7)) + v17)) 26) < 0))
 none
 (cond (decide (v17 < 0))
 none
 (xT R L v1 v2 v5 v6 v7 (xH .or .i64 v8 (IntKind.wrap .i64 ((IntKind.wrap .i64 (xH .and .u64 (Int.fdiv (v2.getD (IntKind.wrap .i64 (Int.tdiv (IntKind.wrap .i64 ((IntKind.wrap .i64 (8 * v7)) + v17)) 26)).toNat 0) (2 ^ (Min.min (Int.tmod (IntKind.wrap .i64 ((IntKind.wrap .i64 (8 * v7)) + v17)) 26).toNat (IntKind.bits .u64)))) 1)) * (2 ^ (Min.min v17.toNat (IntKind.bits .i64)))))) v13 v14 (IntKind.wrap .i64 (v17 + 1)))))
 none)
 none)
 (cond (zA v7)
 (cond (Nat.blt v7.toNat v1.length)
 (cond (zA v7)
 (cond (Nat.blt v7.toNat v5.length)
 (xE R L v1 v2 (v5.set v7.toNat (IntKind.wrap .u8 (IntKind.wrap .i64 (v6 + (IntKind.wrap .i64 (v8 + (IntKind.wrap .i64 (UInt8.toNat (v1.getD v7.toNat 0) : Int)))))))) (Int.fdiv (IntKind.wrap .i64 (v6 + (IntKind.wrap .i64 (v8 + (IntKind.wrap .i64 (UInt8.toNat (v1.getD v7.toNat 0) : Int)))))) (2 ^ (Min.min (8 : Int).toNat (IntKind.bits .i64)))) v13 (IntKind.wrap .i64 (v14 + 1)))
 none)
 none)
 none)
 none)) := by kernel_rfl
theorem BX5 (x0 x1 : List UInt8) : @Eq _ (Aq1 (zD EE R L) x0 x1) ((aS R x0).bind fun r0 =>
 (iB R r0.1).bind fun r1 =>
 jW R L x0 x1 (List.replicate 5 0) r1.1 0) := by kernel_rfl
theorem A3R (v0 v1 : List UInt8) (v5 v6 : List Int) (v7 : Int) : @Eq _ (jW R L v0 v1 v5 v6 v7 ([1, 1, 1, 0, 1, 0] ++ [0])) (cond (decide (v7 < (v1.length : Int)))
 (cond (zA (Ax5 (IntKind.wrap .i64 (v7 + 16)) (v1.length : Int)))
 (cond (zA v7)
 (cond (Nat.ble (Ax5 (IntKind.wrap .i64 (v7 + 16)) (v1.length : Int)).toNat v1.length)
 (cond (Nat.ble v7.toNat (Ax5 (IntKind.wrap .i64 (v7 + 16)) (v1.length : Int)).toNat)
 (cond (yP ((List.drop v7.toNat (List.take (Ax5 (IntKind.wrap .i64 (v7 + 16)) (v1.length : Int)).toNat v1)).length + ([(1 : UInt8)]).length))
 ((iB R ((List.drop v7.toNat (List.take (Ax5 (IntKind.wrap .i64 (v7 + 16)) (v1.length : Int)).toNat v1)) ++ [1])).bind fun r0 =>
 (hO R v5 r0.1).bind fun r1 =>
 (jP R r1.1 v6).bind fun r2 =>
 jW R L v0 v1 r2.1 v6 (IntKind.wrap .i64 (v7 + 16)))
 none)
 none)
 none)
 none)
 none)
 ((mN R v5).bind fun r0 =>
 cond (Nat.ble v0.length v0.length)
 (cond (Nat.ble (16 : Int).toNat v0.length)
 ((kW R r0.1 (List.drop (16 : Int).toNat (List.take v0.length v0))).bind fun r1 =>
 some (r1.1, ()))
 none)
 none)) := by kernel_rfl
theorem A7t (x0 x1 x2 x3 : List UInt8) : @Eq _ (AK6 (zD EE R L) x0 x1 x2 x3) ((bE R x0 x1 0).bind fun r0 =>
 cond (Nat.ble (32 : Int).toNat r0.1.length)
 ((bZ R x2).bind fun r1 =>
 (bZ R x3).bind fun r2 =>
 cond (yP (r1.1.length + r2.1.length))
 ((vE R (x2.length : Int) 8).bind fun r3 =>
 cond (yP ((r1.1 ++ r2.1).length + r3.1.length))
 ((vE R (x3.length : Int) 8).bind fun r4 =>
 cond (yP (((r1.1 ++ r2.1) ++ r3.1).length + r4.1.length))
 ((Aq1 R (List.drop 0 (List.take (32 : Int).toNat r0.1)) (((r1.1 ++ r2.1) ++ r3.1) ++ r4.1)).bind fun r5 =>
 some (r5.1, ()))
 none)
 none)
 none)
 none) := by kernel_rfl
theorem A8k (x0 x1 : List UInt8) : @Eq _ (AU1 (zD EE R L) x0 x1) (cond (yP (([(2 : UInt8)]).length + x0.length))
 (cond (yP (([(2 : UInt8)] ++ x0).length + x1.length))
 ((eC R (([2] ++ x0) ++ x1)).bind fun r0 =>
 some (r0.1, ()))
 none)
 none) := by kernel_rfl
theorem jY (x0 : List (List UInt8)) : @Eq _ (wW (zD EE R L) x0) (cond (Nat.beq x0.length 0)
 (A3E
 (some ([], ()))
 (cond (yP (([] : List (List UInt8)).length + x0.length))
 (some ([] ++ x0, ()))
 none))
 (cond (yP (([] : List (List UInt8)).length + x0.length))
 (some ([] ++ x0, ()))
 none)) := by kernel_rfl
theorem eR (x0 : List d79) : @Eq _ (uQ (zD EE R L) x0) (cond (Nat.beq x0.length 0)
 (A3E
 (some ([], ()))
 (cond (yP (([] : List d79).length + x0.length))
 (some ([] ++ x0, ()))
 none))
 (cond (yP (([] : List d79).length + x0.length))
 (some ([] ++ x0, ()))
 none)) := by kernel_rfl
theorem Au8 (x0 : d80) : @Eq _ (gB (zD EE R L) x0) ((wW R x0.1).bind fun r0 =>
 (uQ R x0.2.1).bind fun r1 =>
 some ((r0.1, (r1.1, ())), ())) := by kernel_rfl
theorem A1G (x0 : d81) : @Eq _ (qI (zD EE R L) x0) ((gB R x0.2.2.1).bind fun r0 =>
 some ((x0.1, (x0.2.1, (r0.1, x0.2.2.2))), ())) := by kernel_rfl
theorem At2 (x0 x1 : d78) : @Eq _ (iU (zD EE R L) x0 x1) (cond (!(eqI x0.1 x1.1))
 (some (false, ()))
 (cond (!(eqI x0.2.1 x1.2.1))
 (some (false, ()))
 (cond (!(eqI x0.2.2.1 x1.2.2.1))
 (some (false, ()))
 (cond (!(eqI x0.2.2.2.1 x1.2.2.2.1))
 (some (false, ()))
 (cond (!(eqS x0.2.2.2.2.1 x1.2.2.2.2.1))
 (some (false, ()))
 (cond (!(eqS x0.2.2.2.2.2.1 x1.2.2.2.2.2.1))
 (some (false, ()))
 (cond (!(eqS x0.2.2.2.2.2.2.1 x1.2.2.2.2.2.2.1))
 (some (false, ()))
 (some (true, ()))))))))) := by kernel_rfl
theorem A0g (x0 x1 : List (List UInt8)) : @Eq _ (fU (zD EE R L) x0 x1) (cond (!(eqI (x0.length : Int) (x1.length : Int)))
 (some (false, ()))
 (uZ R L x0 x1 false 0)) := by kernel_rfl
theorem AF4 (v0 v1 : List (List UInt8)) (v4 : Bool) (v5 : Int) : @Eq _ (uZ R L v0 v1 v4 v5 ([1, 1, 0, 1, 0] ++ [0])) (cond (decide (v5 < (v0.length : Int)))
 (cond (zA v5)
 (cond (Nat.blt v5.toNat v0.length)
 (cond (zA v5)
 (cond (Nat.blt v5.toNat v1.length)
 (cond (!(eqS (v0.getD v5.toNat []) (v1.getD v5.toNat [])))
 (some (false, ()))
 (uZ R L v0 v1 v4 (IntKind.wrap .i64 (v5 + 1))))
 none)
 none)
 none)
 none)
 (some (true, ()))) := by kernel_rfl
theorem BN0 (x0 x1 : d79) : @Eq _ (Ai1 (zD EE R L) x0 x1) (cond (!(eqI x0.1 x1.1))
 (some (false, ()))
 (cond (!(eqS x0.2.1 x1.2.1))
 (some (false, ()))
 (some (true, ())))) := by kernel_rfl
theorem BF4 (x0 x1 : List d79) : @Eq _ (AV7 (zD EE R L) x0 x1) (cond (!(eqI (x0.length : Int) (x1.length : Int)))
 (some (false, ()))
 (pQ R L x0 x1 false 0)) := by kernel_rfl
theorem An0 (v0 v1 : List d79) (v4 : Bool) (v5 : Int) : @Eq _ (pQ R L v0 v1 v4 v5 ([1, 1, 0, 1, 0] ++ [0])) (cond (decide (v5 < (v0.length : Int)))
 (cond (zA v5)
 (cond (Nat.blt v5.toNat v0.length)
 (cond (zA v5)
 (cond (Nat.blt v5.toNat v1.length)
 ((Ai1 R (v0.getD v5.toNat (0, ([], ()))) (v1.getD v5.toNat (0, ([], ())))).bind fun r0 =>
 cond (!r0.1)
 (some (false, ()))
 (pQ R L v0 v1 v4 (IntKind.wrap .i64 (v5 + 1))))
 none)
 none)
 none)
 none)
 (some (true, ()))) := by kernel_rfl
theorem A2d (x0 x1 : d80) : @Eq _ (dY (zD EE R L) x0 x1) ((fU R x0.1 x1.1).bind fun r0 =>
 cond (!r0.1)
 (some (false, ()))
 ((AV7 R x0.2.1 x1.2.1).bind fun r1 =>
 cond (!r1.1)
 (some (false, ()))
 (some (true, ())))) := by kernel_rfl
theorem A4F (x0 x1 : d81) : @Eq _ (lU (zD EE R L) x0 x1) (cond (!(eqS x0.1 x1.1))
 (some (false, ()))
 ((iU R x0.2.1 x1.2.1).bind fun r0 =>
 cond (!r0.1)
 (some (false, ()))
 ((dY R x0.2.2.1 x1.2.2.1).bind fun r1 =>
 cond (!r1.1)
 (some (false, ()))
 (cond (!(eqB x0.2.2.2.1 x1.2.2.2.1))
 (some (false, ()))
 (cond (!(eqB x0.2.2.2.2.1 x1.2.2.2.2.1))
 (some (false, ()))
 (some (true, ()))))))) := by kernel_rfl
theorem A2j (x0 : Int) : @Eq _ (qB (zD EE R L) x0) (cond (decide (x0 ≤ 0))
 (some ([109, 48], ()))
 (qZ R L x0 [] [])) := by kernel_rfl
theorem AP2 (v0 : Int) (v2 v3 : List UInt8) : @Eq _ (qZ R L v0 v2 v3 ([1, 1, 1, 0, 0] ++ [0])) (cond (decide (0 < v0))
 (cond (yP ((List.map (fun (n : Int) => UInt8.ofNat n.toNat) [IntKind.wrap .u8 (IntKind.wrap .i64 (48 + (Int.tmod v0 10)))]).length + v3.length))
 (qZ R L (IntKind.wrap .i64 (Int.tdiv v0 10)) v2 ((List.map (fun (n : Int) => UInt8.ofNat n.toNat) [IntKind.wrap .u8 (IntKind.wrap .i64 (48 + (Int.tmod v0 10)))]) ++ v3))
 none)
 (cond (yP (([(109 : UInt8)]).length + v3.length))
 (some ([109] ++ v3, ()))
 none)) := by kernel_rfl
theorem Ao4 (x0:List (List UInt8)) (x1:Int):@Eq _ (kN (zD EE R L) x0 x1) (vC R L x0 x1 0 0):=by kernel_rfl
theorem bP (v0 : List (List UInt8)) (v1 v4 v5 : Int) : @Eq _ (vC R L v0 v1 v4 v5 ([1, 0, 1, 0] ++ [0])) (cond (decide (v5 < (v0.length : Int)))
 ((qB R v1).bind fun r0 =>
 cond (zA v5)
 (cond (Nat.blt v5.toNat v0.length)
 (vC R L (v0.set v5.toNat r0.1) (IntKind.wrap .i64 (v1 + 1)) v4 (IntKind.wrap .i64 (v5 + 1)))
 none)
 none)
 (some (v1, (v0, ())))) := by kernel_rfl
theorem A4A (x0:List d79) (x1:Int):@Eq _ (AB2 (zD EE R L) x0 x1) (rC R L x0 x1 0 0):=by kernel_rfl
theorem AV1 (v0 : List d79) (v1 v4 v5 : Int) : @Eq _ (rC R L v0 v1 v4 v5 ([1, 0, 1, 0] ++ [0])) (cond (decide (v5 < (v0.length : Int)))
 (cond (zA v5)
 (cond (Nat.blt v5.toNat v0.length)
 ((qB R (IntKind.wrap .i64 (v1 + 1))).bind fun r0 =>
 cond (zA v5)
 (cond (Nat.blt v5.toNat (v0.set v5.toNat (v1, (v0.getD v5.toNat (0, ([], ()))).2)).length)
 (rC R L ((v0.set v5.toNat (v1, (v0.getD v5.toNat (0, ([], ()))).2)).set v5.toNat (((v0.set v5.toNat (v1, (v0.getD v5.toNat (0, ([], ()))).2)).getD v5.toNat (0, ([], ()))).1, (r0.1, ((v0.set v5.toNat (v1, (v0.getD v5.toNat (0, ([], ()))).2)).getD v5.toNat (0, ([], ()))).2.2))) (IntKind.wrap .i64 ((IntKind.wrap .i64 (v1 + 1)) + 1)) v4 (IntKind.wrap .i64 (v5 + 1)))
 none)
 none)
 none)
 none)
 (some (v1, (v0, ())))) := by kernel_rfl
theorem As9 (x0 : d80) (x1 : Int) : @Eq _ (hU (zD EE R L) x0 x1) ((kN R x0.1 x1).bind fun r0 =>
 (AB2 R x0.2.1 r0.1).bind fun r1 =>
 some (r1.1, ((r0.2.1, (r1.2.1, x0.2.2)), ()))) := by kernel_rfl
theorem A1X (x0 : d81) (x1 : Int) : @Eq _ (qD (zD EE R L) x0 x1) ((hU R x0.2.2.1 x1).bind fun r0 =>
 some (r0.1, ((x0.1, (x0.2.1, (r0.2.1, x0.2.2.2))), ()))) := by kernel_rfl
theorem An8 (x0:List (List UInt8)) (x1:Int):@Eq _ (jH (zD EE R L) x0 x1) (vB R L x0 x1 0 0):=by kernel_rfl
theorem bL (v0 : List (List UInt8)) (v1 v4 v5 : Int) : @Eq _ (vB R L v0 v1 v4 v5 ([1, 0, 1, 0] ++ [0])) (cond (decide (v5 < (v0.length : Int)))
 (cond (zA v5)
 (cond (Nat.blt v5.toNat v0.length)
 ((qB R v1).bind fun r0 =>
 cond (!(eqS (v0.getD v5.toNat []) r0.1))
 (some (-1, ()))
 (vB R L v0 (IntKind.wrap .i64 (v1 + 1)) v4 (IntKind.wrap .i64 (v5 + 1))))
 none)
 none)
 (some (v1, ()))) := by kernel_rfl
theorem A4h (x0:List d79) (x1:Int):@Eq _ (AB5 (zD EE R L) x0 x1) (rH R L x0 x1 0 0):=by kernel_rfl
theorem AU2 (v0 : List d79) (v1 v4 v5 : Int) : @Eq _ (rH R L v0 v1 v4 v5 ([1, 0, 1, 0] ++ [0])) (cond (decide (v5 < (v0.length : Int)))
 (cond (zA v5)
 (cond (Nat.blt v5.toNat v0.length)
 (cond (!(eqI (v0.getD v5.toNat (0, ([], ()))).1 v1))
 (some (-1, ()))
 (cond (zA v5)
 (cond (Nat.blt v5.toNat v0.length)
 ((qB R (IntKind.wrap .i64 (v1 + 1))).bind fun r0 =>
 cond (!(eqS (v0.getD v5.toNat (0, ([], ()))).2.1 r0.1))
 (some (-1, ()))
 (rH R L v0 (IntKind.wrap .i64 ((IntKind.wrap .i64 (v1 + 1)) + 1)) v4 (IntKind.wrap .i64 (v5 + 1))))
 none)
 none))
 none)
 none)
 (some (v1, ()))) := by kernel_rfl
theorem Ar5 (x0 : d80) (x1 : Int) : @Eq _ (gF (zD EE R L) x0 x1) ((jH R x0.1 x1).bind fun r0 =>
 cond (decide (r0.1 < 0))
 (some (-1, ()))
 ((AB5 R x0.2.1 r0.1).bind fun r1 =>
 cond (decide (r1.1 < 0))
 (some (-1, ()))
 (some (r1.1, ())))) := by kernel_rfl
theorem A1Q (x0 : d81) (x1 : Int) : @Eq _ (oC (zD EE R L) x0 x1) ((gF R x0.2.2.1 x1).bind fun r0 =>
 cond (decide (r0.1 < 0))
 (some (-1, ()))
 (some (r0.1, ()))) := by kernel_rfl
theorem A7Z (x0 : List Int) : @Eq _ (AL5 (zD EE R L) x0) (cond (yP (([] : List Int).length + x0.length))
 (some (([] ++ x0, ([], (List.replicate (15 : Int).toNat [], ()))), ()))
 none) := by kernel_rfl
theorem A43 (x0 : Int) (x1 : List UInt8) : @Eq _ (aF (zD EE R L) x0 x1) (cond (yP ((List.map (fun (n : Int) => UInt8.ofNat n.toNat) [(0 : Int), IntKind.wrap .u8 x0]).length + x1.length))
 ((aA R ((List.map (fun (n : Int) => UInt8.ofNat n.toNat) [(0 : Int), IntKind.wrap .u8 x0]) ++ x1)).bind fun r0 =>
 some (r0.1, ()))
 none) := by kernel_rfl
theorem A0p (x0:List (List UInt8)):@Eq _ (fJ (zD EE R L) x0) (rY R L x0 [] 0):=by kernel_rfl
theorem AG3 (v0 v3 : List (List UInt8)) (v4 : Int) : @Eq _ (rY R L v0 v3 v4 ([1, 1, 0, 1, 0] ++ [0])) (cond (decide (v4 < (v0.length : Int)))
 (cond (zA v4)
 (cond (Nat.blt v4.toNat v0.length)
 ((aF R v4 (v0.getD v4.toNat [])).bind fun r0 =>
 cond (yP (v3.length + ([r0.1]).length))
 (rY R L v0 (v3 ++ [r0.1]) (IntKind.wrap .i64 (v4 + 1)))
 none)
 none)
 none)
 (some (v3, ()))) := by kernel_rfl
theorem A3x (x0 x1 : List UInt8) : @Eq _ (AB6 (zD EE R L) x0 x1) (cond (yP (([(1 : UInt8)]).length + x0.length))
 (cond (yP (([(1 : UInt8)] ++ x0).length + x1.length))
 ((aA R (([1] ++ x0) ++ x1)).bind fun r0 =>
 some (r0.1, ()))
 none)
 none) := by kernel_rfl
theorem A2F (x0:List (List UInt8)):@Eq _ (cI (zD EE R L) x0) (pA R L x0 [] 0):=by kernel_rfl
theorem AN4 (v0 v3 : List (List UInt8)) (v4 : Int) : @Eq _ (pA R L v0 v3 v4 ([1, 1, 0, 1, 0] ++ [0])) (cond (decide ((IntKind.wrap .i64 (v4 + 1)) < (v0.length : Int)))
 (cond (zA v4)
 (cond (Nat.blt v4.toNat v0.length)
 (cond (zA (IntKind.wrap .i64 (v4 + 1)))
 (cond (Nat.blt (IntKind.wrap .i64 (v4 + 1)).toNat v0.length)
 ((AB6 R (v0.getD v4.toNat []) (v0.getD (IntKind.wrap .i64 (v4 + 1)).toNat [])).bind fun r0 =>
 cond (yP (v3.length + ([r0.1]).length))
 (pA R L v0 (v3 ++ [r0.1]) (IntKind.wrap .i64 (v4 + 2)))
 none)
 none)
 none)
 none)
 none)
 (some (v3, ()))) := by kernel_rfl
theorem A38 (x0 : List (List UInt8)) : @Eq _ (aL (zD EE R L) x0) ((fJ R x0).bind fun r0 =>
 qL R L r0.1) := by kernel_rfl
theorem AW7 (v3 : List (List UInt8)) : @Eq _ (qL R L v3 ([1, 1, 0, 0] ++ [0])) (cond (decide (1 < (v3.length : Int)))
 ((cI R v3).bind fun r0 =>
 qL R L r0.1)
 (cond (Nat.blt (0 : Int).toNat v3.length)
 (some (v3.getD (0 : Int).toNat [], ()))
 none)) := by kernel_rfl
theorem Ar6 (x0 : Int) (x1 : List UInt8) : @Eq _ (iT (zD EE R L) x0 x1) (cond (yP ((List.map (fun (n : Int) => UInt8.ofNat n.toNat) [(0 : Int), IntKind.wrap .u8 x0]).length + x1.length))
 ((eC R ((List.map (fun (n : Int) => UInt8.ofNat n.toNat) [(0 : Int), IntKind.wrap .u8 x0]) ++ x1)).bind fun r0 =>
 some (r0.1, ()))
 none) := by kernel_rfl
theorem BK9 (x0 x1 : List UInt8) : @Eq _ (Ai6 (zD EE R L) x0 x1) (cond (yP (([(1 : UInt8)]).length + x0.length))
 (cond (yP (([(1 : UInt8)] ++ x0).length + x1.length))
 ((eC R (([1] ++ x0) ++ x1)).bind fun r0 =>
 some (r0.1, ()))
 none)
 none) := by kernel_rfl
theorem BL1 (x0:List (List UInt8)):@Eq _ (Aj5 (zD EE R L) x0) (lV R L [] x0 (x0.length:Int) 0):=by kernel_rfl
theorem Av7 (v3 v9 : List (List UInt8)) (v10 v11 : Int) : @Eq _ (lV R L v3 v9 v10 v11 ([1, 1, 0, 1, 0] ++ [0])) (cond (decide (v11 < v10))
 (cond (zA v11)
 (cond (Nat.blt v11.toNat v9.length)
 ((iT R v11 (v9.getD v11.toNat [])).bind fun r0 =>
 cond (yP (v3.length + ([r0.1]).length))
 (lV R L (v3 ++ [r0.1]) v9 v10 (IntKind.wrap .i64 (v11 + 1)))
 none)
 none)
 none)
 (qP R L v3 [v3])) := by kernel_rfl
theorem Ay9 (v3 : List (List UInt8)) (v6 : List (List (List UInt8))) : @Eq _ (qP R L v3 v6 ([1, 1, 1, 1, 0, 0] ++ [0])) (cond (decide (1 < (v3.length : Int)))
 (iI R L v3 v6 [] 0)
 (some (v6, ()))) := by kernel_rfl
theorem Ax9 (v3 : List (List UInt8)) (v6 : List (List (List UInt8))) (v7 : List (List UInt8)) (v8 : Int) : @Eq _ (iI R L v3 v6 v7 v8 ([1, 1, 1, 1, 0, 0, 0, 1, 0, 1, 0, 1, 0] ++ [0])) (cond (decide (v8 < (v3.length : Int)))
 (cond (zA v8)
 (cond (Nat.blt v8.toNat v3.length)
 (cond (zA (IntKind.wrap .i64 (v8 + 1)))
 (cond (Nat.blt (IntKind.wrap .i64 (v8 + 1)).toNat v3.length)
 ((Ai6 R (v3.getD v8.toNat []) (v3.getD (IntKind.wrap .i64 (v8 + 1)).toNat [])).bind fun r0 =>
 cond (yP (v7.length + ([r0.1]).length))
 (iI R L v3 v6 (v7 ++ [r0.1]) (IntKind.wrap .i64 (v8 + 2)))
 none)
 none)
 none)
 none)
 none)
 (cond (yP (v6.length + ([v7]).length))
 (qP R L v7 (v6 ++ [v7]))
 none)) := by kernel_rfl
theorem BI1 (x0 : List (List UInt8)) : @Eq _ (Aj6 (zD EE R L) x0) ((Aj5 R x0).bind fun r0 =>
 cond (Nat.blt (4 : Int).toNat r0.1.length)
 (cond (Nat.blt (0 : Int).toNat (r0.1.getD (4 : Int).toNat []).length)
 (some ((r0.1.getD (4 : Int).toNat []).getD (0 : Int).toNat [], ()))
 none)
 none) := by kernel_rfl
theorem A37 (x0:d80) (x1:Int):@Eq _ (dL (zD EE R L) x0 x1) (lG R L x1 x0 (IntKind.wrap .i64 ((x0.2.1.length:Int) - 1))):=by kernel_rfl
theorem A00 (v1 : Int) (v2 : d80) (v5 : Int) : @Eq _ (lG R L v1 v2 v5 ([1, 0, 1, 0] ++ [0])) (cond (decide (0 ≤ v5))
 (cond (zA v5)
 (cond (Nat.blt v5.toNat v2.2.1.length)
 (cond (eqI (v2.2.1.getD v5.toNat (0, ([], ()))).1 v1)
 (cond (zA v5)
 (cond (Nat.blt v5.toNat v2.2.1.length)
 (some ((v2.2.1.getD v5.toNat (0, ([], ()))).2.1, ()))
 none)
 none)
 (lG R L v1 v2 (IntKind.wrap .i64 (v5 - 1))))
 none)
 none)
 (cond (zA v1)
 (cond (Nat.blt v1.toNat v2.1.length)
 (some (v2.1.getD v1.toNat [], ()))
 none)
 none)) := by kernel_rfl
theorem A3Q (x0 x1 : List UInt8) : @Eq _ (cD (zD EE R L) x0 x1) (cond (decide (65536 < (x0.length : Int)))
 (some (false, ()))
 (cond (decide (65536 < (x1.length : Int)))
 (some (false, ()))
 (qW R L x0 x1 0 0))) := by kernel_rfl
theorem AP0 (v0 v1 : List UInt8) (v5 v6 : Int) : @Eq _ (qW R L v0 v1 v5 v6 ([1, 1, 1, 0, 1, 0] ++ [0])) (cond (decide (v6 < (v0.length : Int)))
 (cond (decide (v6 < (v1.length : Int)))
 (cond (zA v6)
 (cond (Nat.blt v6.toNat v0.length)
 (cond (zA v6)
 (cond (Nat.blt v6.toNat v1.length)
 (qW R L v0 v1 (xH .or .i64 v5 (IntKind.wrap .i64 (xH .xor .u8 (UInt8.toNat (v0.getD v6.toNat 0) : Int) (UInt8.toNat (v1.getD v6.toNat 0) : Int)))) (IntKind.wrap .i64 (v6 + 1)))
 none)
 none)
 none)
 none)
 (cond (eqI v5 0)
 (some (eqI (v0.length : Int) (v1.length : Int), ()))
 (some (false, ()))))
 (cond (eqI v5 0)
 (some (eqI (v0.length : Int) (v1.length : Int), ()))
 (some (false, ())))) := by kernel_rfl
theorem Al9 (x0 x1 x2 x3 : List UInt8) : @Eq _ (iK (zD EE R L) x0 x1 x2 x3) (cond (decide ((x3.length : Int) < 16))
 (some ([], (false, ())))
 (cond (zA (IntKind.wrap .i64 ((x3.length : Int) - 16)))
 (cond (Nat.ble (IntKind.wrap .i64 ((x3.length : Int) - 16)).toNat x3.length)
 ((AL0 R x0 x1 x2 (List.drop 0 (List.take (IntKind.wrap .i64 ((x3.length : Int) - 16)).toNat x3))).bind fun r0 =>
 cond (Nat.ble x3.length x3.length)
 (cond (Nat.ble ((List.drop 0 (List.take (IntKind.wrap .i64 ((x3.length : Int) - 16)).toNat x3)).length : Int).toNat x3.length)
 ((cD R r0.1 (List.drop ((List.drop 0 (List.take (IntKind.wrap .i64 ((x3.length : Int) - 16)).toNat x3)).length : Int).toNat (List.take x3.length x3))).bind fun r1 =>
 cond (!r1.1)
 (some ([], (false, ())))
 ((bF R x0 x1 1 (List.drop 0 (List.take (IntKind.wrap .i64 ((x3.length : Int) - 16)).toNat x3))).bind fun r2 =>
 some (r2.1, (true, ()))))
 none)
 none)
 none)
 none)) := by kernel_rfl
theorem A4G (x0 : List UInt8) (x1 x2 x3 : Int) (x4 : List UInt8) : @Eq _ (lT (zD EE R L) x0 x1 x2 x3 x4) ((cF R x1 x2 x3).bind fun r0 =>
 (iK R x0 r0.1 [98, 108, 111, 99, 107] x4).bind fun r1 =>
 some (r1.1, (r1.2.1, ()))) := by kernel_rfl
theorem A0j (x0:List UInt8):@Eq _ (fX (zD EE R L) x0) (rZ R L x0 [] 0):=by kernel_rfl
theorem AG9 (v0 : List UInt8) (v4 : List Int) (v5 : Int) : @Eq _ (rZ R L v0 v4 v5 ([1, 1, 0, 1, 0] ++ [0])) (cond (decide ((IntKind.wrap .i64 (v5 + 4)) ≤ (v0.length : Int)))
 ((nV R v0 v5).bind fun r0 =>
 cond (yP (v4.length + ([r0.1]).length))
 (rZ R L v0 (v4 ++ [r0.1]) (IntKind.wrap .i64 (v5 + 4)))
 none)
 (some (v4, (eqI (Int.tmod (v0.length : Int) 4) 0, ())))) := by kernel_rfl
theorem A9d (x0:List Int) (x1:Int):@Eq _ (AG6 (zD EE R L) x0 x1) (pM R L x0 x1 0):=by kernel_rfl
theorem Ao5 (v0 : List Int) (v1 v5 : Int) : @Eq _ (pM R L v0 v1 v5 ([1, 0, 1, 0] ++ [0])) (cond (decide (v5 < (v0.length : Int)))
 (cond (zA v5)
 (cond (Nat.blt v5.toNat v0.length)
 (cond (eqI (v0.getD v5.toNat 0) v1)
 (some (true, ()))
 (pM R L v0 v1 (IntKind.wrap .i64 (v5 + 1))))
 none)
 none)
 (some (false, ()))) := by kernel_rfl
theorem A2N (x0 : d71) (x1 : d69) (x2 : List Int) : @Eq _ (gK (zD EE R L) x0 x1 x2) ((tG R x1.1 0 11).bind fun r0 =>
 cond r0.1
 (cond (zA x1.1)
 (cond (Nat.blt x1.1.toNat x0.1.length)
 (cond (eqI (x0.1.getD x1.1.toNat 0) x1.2.1)
 ((tG R x1.2.2.1 0 999999).bind fun r1 =>
 cond r1.1
 ((AG6 R x2 x1.1).bind fun r2 =>
 some (!r2.1, ()))
 (some (false, ())))
 (some (false, ())))
 none)
 none)
 (some (false, ()))) := by kernel_rfl
theorem A4I (x0:Int):@Eq _ (AB7 (zD EE R L) x0) (lJ R L [] (IntKind.wrap .i64 (7 + x0))):=by kernel_rfl
theorem A0S (v3 : List Int) (v4 : Int) : @Eq _ (lJ R L v3 v4 ([1, 1, 1, 0] ++ [0])) (cond (yP (([v4]).length + v3.length))
 (cond (eqI v4 0)
 (some ([v4] ++ v3, ()))
 (lJ R L ([v4] ++ v3) (IntKind.wrap .i64 (Int.tdiv (IntKind.wrap .i64 (v4 - 1)) 2))))
 none) := by kernel_rfl
theorem A9y (x0 x1 : Int) : @Eq _ (AX0 (zD EE R L) x0 x1) ((AB7 R x1).bind fun r0 =>
 pW R L x0 r0.1 0) := by kernel_rfl
theorem An5 (v0 : Int) (v5 : List Int) (v6 : Int) : @Eq _ (pW R L v0 v5 v6 ([1, 1, 0, 1, 0] ++ [0])) (cond (decide (v6 < (v5.length : Int)))
 (cond (zA v6)
 (cond (Nat.blt v6.toNat v5.length)
 (cond (eqI (v5.getD v6.toNat 0) v0)
 (some (true, ()))
 (pW R L v0 v5 (IntKind.wrap .i64 (v6 + 1))))
 none)
 none)
 (some (false, ()))) := by kernel_rfl
theorem A6u (x0 : d71) : @Eq _ (AK0 (zD EE R L) x0) (cond (!(eqI (x0.1.length : Int) 12))
 (some (false, ()))
 ((fI R x0.1).bind fun r0 =>
 cond (!r0.1)
 (some (false, ()))
 (cond (decide (12 < (x0.2.1.length : Int)))
 (some (false, ()))
 (cond (!(eqI (x0.2.2.1.length : Int) 15))
 (some (false, ()))
 (mL R L x0 [] 0))))) := by kernel_rfl
theorem Af7 (v1 : d71) (v3 : List Int) (v4 : Int) : @Eq _ (mL R L v1 v3 v4 ([1, 1, 1, 0, 1, 0] ++ [0])) (cond (decide (v4 < (v1.2.1.length : Int)))
 (cond (zA v4)
 (cond (Nat.blt v4.toNat v1.2.1.length)
 ((gK R v1 (v1.2.1.getD v4.toNat (0, (0, (0, ())))) v3).bind fun r0 =>
 cond (!r0.1)
 (some (false, ()))
 (cond (zA v4)
 (cond (Nat.blt v4.toNat v1.2.1.length)
 (cond (yP (v3.length + ([(v1.2.1.getD v4.toNat (0, (0, (0, ())))).1]).length))
 (mL R L v1 (v3 ++ [(v1.2.1.getD v4.toNat (0, (0, (0, ())))).1]) (IntKind.wrap .i64 (v4 + 1)))
 none)
 none)
 none))
 none)
 none)
 (oD R L v1 v3 0)) := by kernel_rfl
theorem Af2 (v1 : d71) (v3 : List Int) (v5 : Int) : @Eq _ (oD R L v1 v3 v5 ([1, 1, 1, 1, 0, 1, 0] ++ [0])) (cond (decide (v5 < 15))
 (cond (zA v5)
 (cond (Nat.blt v5.toNat v1.2.2.1.length)
 (cond (decide (2 < ((v1.2.2.1.getD v5.toNat []).length : Int)))
 (some (false, ()))
 (mM R L v1 v3 v5 0))
 none)
 none)
 (some (true, ()))) := by kernel_rfl
theorem Ag4 (v1 : d71) (v3 : List Int) (v5 v6 : Int) : @Eq _ (mM R L v1 v3 v5 v6 ([1, 1, 1, 1, 0, 1, 0, 0, 1, 0, 0, 1, 1, 0] ++ [0])) (cond (zA v5)
 (cond (Nat.blt v5.toNat v1.2.2.1.length)
 (cond (decide (v6 < ((v1.2.2.1.getD v5.toNat []).length : Int)))
 (cond (zA v5)
 (cond (Nat.blt v5.toNat v1.2.2.1.length)
 (cond (zA v6)
 (cond (Nat.blt v6.toNat (v1.2.2.1.getD v5.toNat []).length)
 ((gK R v1 ((v1.2.2.1.getD v5.toNat []).getD v6.toNat (0, (0, (0, ())))) v3).bind fun r0 =>
 cond (!r0.1)
 (some (false, ()))
 ((AX0 R v5 ((v1.2.2.1.getD v5.toNat []).getD v6.toNat (0, (0, (0, ())))).2.1).bind fun r1 =>
 cond (!r1.1)
 (some (false, ()))
 (cond (yP (v3.length + ([((v1.2.2.1.getD v5.toNat []).getD v6.toNat (0, (0, (0, ())))).1]).length))
 (mM R L v1 (v3 ++ [((v1.2.2.1.getD v5.toNat []).getD v6.toNat (0, (0, (0, ())))).1]) v5 (IntKind.wrap .i64 (v6 + 1)))
 none)))
 none)
 none)
 none)
 none)
 (oD R L v1 v3 (IntKind.wrap .i64 (v5 + 1))))
 none)
 none) := by kernel_rfl
theorem A8S (x0 : d74) : @Eq _ (AG8 (zD EE R L) x0) (cond (!(eqI (x0.1.length : Int) 11))
 (some (false, ()))
 ((AK0 R x0.2.1).bind fun r0 =>
 cond (!r0.1)
 (some (false, ()))
 (pL R L x0 0))) := by kernel_rfl
theorem Ao6 (v1 : d74) (v3 : Int) : @Eq _ (pL R L v1 v3 ([1, 1, 0, 1, 0] ++ [0])) (cond (decide (v3 < (v1.1.length : Int)))
 (cond (zA v3)
 (cond (Nat.blt v3.toNat v1.1.length)
 ((tG R (v1.1.getD v3.toNat 0) 0 9999).bind fun r0 =>
 cond (!r0.1)
 (some (false, ()))
 (cond (zA v3)
 (cond (Nat.blt v3.toNat v1.1.length)
 (cond (decide (0 < (v1.1.getD v3.toNat 0)))
 (cond (zA v3)
 (cond (Nat.ble v3.toNat v1.1.length)
 (cond (zA v3)
 (cond (Nat.blt v3.toNat v1.1.length)
 ((AG6 R (List.drop 0 (List.take v3.toNat v1.1)) (v1.1.getD v3.toNat 0)).bind fun r1 =>
 cond r1.1
 (some (false, ()))
 (pL R L v1 (IntKind.wrap .i64 (v3 + 1))))
 none)
 none)
 none)
 none)
 (pL R L v1 (IntKind.wrap .i64 (v3 + 1))))
 none)
 none))
 none)
 none)
 (some (true, ()))) := by kernel_rfl
theorem Ak3 (x0 : d75) : @Eq _ (jB (zD EE R L) x0) ((tG R x0.1 0 19).bind fun r0 =>
 cond (!r0.1)
 (some (false, ()))
 (cond (decide (32 < (x0.2.1.length : Int)))
 (some (false, ()))
 (cond (!(eqI x0.1 0))
 (cond (decide (0 < (x0.2.1.length : Int)))
 (some (false, ()))
 (xR R L x0 x0 false 0))
 (xR R L x0 x0 false 0)))) := by kernel_rfl
theorem bN (v0 v1 : d75) (v2 : Bool) (v3 : Int) : @Eq _ (xR R L v0 v1 v2 v3 ([1, 1, 0, 1, 0] ++ [0])) (cond (decide (v3 < (v1.2.1.length : Int)))
 (cond (zA v3)
 (cond (Nat.blt v3.toNat v1.2.1.length)
 ((tG R (v1.2.1.getD v3.toNat 0) 0 999999).bind fun r0 =>
 cond (!r0.1)
 (some (false, ()))
 (xR R L v0 v1 v2 (IntKind.wrap .i64 (v3 + 1))))
 none)
 none)
 (some (true, ()))) := by kernel_rfl
theorem Au4 (x0:List d75):@Eq _ (iZ (zD EE R L) x0) (vY R L x0 false 0):=by kernel_rfl
theorem AD1 (v0 : List d75) (v2 : Bool) (v3 : Int) : @Eq _ (vY R L v0 v2 v3 ([1, 0, 1, 0] ++ [0])) (cond (decide (v3 < (v0.length : Int)))
 (cond (zA v3)
 (cond (Nat.blt v3.toNat v0.length)
 ((jB R (v0.getD v3.toNat (0, ([], ())))).bind fun r0 =>
 cond (!r0.1)
 (some (false, ()))
 (vY R L v0 v2 (IntKind.wrap .i64 (v3 + 1))))
 none)
 none)
 (some (decide ((v0.length : Int) ≤ 2), ()))) := by kernel_rfl
theorem A0O (x0:List d69):@Eq _ (fT (zD EE R L) x0) (uY R L x0 0):=by kernel_rfl
theorem AE7 (v0 : List d69) (v3 : Int) : @Eq _ (uY R L v0 v3 ([1, 0, 1, 0] ++ [0])) (cond (decide (v3 < (v0.length : Int)))
 (cond (zA v3)
 (cond (Nat.blt v3.toNat v0.length)
 ((tG R (v0.getD v3.toNat (0, (0, (0, ())))).1 0 11).bind fun r0 =>
 cond (!r0.1)
 (some (false, ()))
 ((tG R (v0.getD v3.toNat (0, (0, (0, ())))).2.1 0 7).bind fun r1 =>
 cond (!r1.1)
 (some (false, ()))
 ((tG R (v0.getD v3.toNat (0, (0, (0, ())))).2.2.1 0 999999).bind fun r2 =>
 cond (!r2.1)
 (some (false, ()))
 (uY R L v0 (IntKind.wrap .i64 (v3 + 1))))))
 none)
 none)
 (some (decide ((v0.length : Int) ≤ 2), ()))) := by kernel_rfl
theorem A65 (x0:d81):@Eq _ (AI6 (zD EE R L) x0) (mV R L x0 [] x0.2.1.2.2.2.2.1 (IntKind.wrap .i64 (x0.2.1.1 + 1))):=by kernel_rfl
theorem Ag6 (v1 : d81) (v4 : List (List UInt8)) (v5 : List UInt8) (v6 : Int) : @Eq _ (mV R L v1 v4 v5 v6 ([1, 1, 1, 0, 1, 0] ++ [0])) (cond (decide (v6 ≤ v1.2.1.2.2.1))
 ((dL R v1.2.2.1 (IntKind.wrap .i64 (32 + (Int.tmod v6 8)))).bind fun r0 =>
 (cA R v5 r0.1).bind fun r1 =>
 cond (yP (v4.length + ([r0.1]).length))
 (mV R L v1 (v4 ++ [r0.1]) r1.1 (IntKind.wrap .i64 (v6 + 1)))
 none)
 (some (v4, (eqS v5 v1.2.1.2.2.2.2.2.1, ())))) := by kernel_rfl
theorem A4q (x0:d81):@Eq _ (aU (zD EE R L) x0) (some ((x0.1,(x0.2.1,(x0.2.2.1,(false,(true,x0.2.2.2.2.2))))),())):=by kernel_rfl
theorem Ac1 (x0 : d81) : @Eq _ (mK (zD EE R L) x0) (cond (zA (IntKind.wrap .i64 (16 * (IntKind.wrap .i64 (x0.2.1.2.1 + 1)))))
 (cond (zA (IntKind.wrap .i64 (16 * x0.2.1.2.1)))
 (cond (Nat.ble (IntKind.wrap .i64 (16 * (IntKind.wrap .i64 (x0.2.1.2.1 + 1)))).toNat x0.2.2.1.1.length)
 (cond (Nat.ble (IntKind.wrap .i64 (16 * x0.2.1.2.1)).toNat (IntKind.wrap .i64 (16 * (IntKind.wrap .i64 (x0.2.1.2.1 + 1)))).toNat)
 (some (List.drop (IntKind.wrap .i64 (16 * x0.2.1.2.1)).toNat (List.take (IntKind.wrap .i64 (16 * (IntKind.wrap .i64 (x0.2.1.2.1 + 1)))).toNat x0.2.2.1.1), ()))
 none)
 none)
 none)
 none) := by kernel_rfl
theorem A6W (x0 x1 x2 x3 : List UInt8) : @Eq _ (AL1 (zD EE R L) x0 x1 x2 x3) (cond (decide ((x3.length : Int) < 16))
 (some ([], (false, ())))
 (cond (zA (IntKind.wrap .i64 ((x3.length : Int) - 16)))
 (cond (Nat.ble (IntKind.wrap .i64 ((x3.length : Int) - 16)).toNat x3.length)
 (cond (zA (IntKind.wrap .i64 ((x3.length : Int) - 16)))
 (cond (Nat.ble x3.length x3.length)
 (cond (Nat.ble (IntKind.wrap .i64 ((x3.length : Int) - 16)).toNat x3.length)
 ((AK6 R x0 x1 x2 (List.drop 0 (List.take (IntKind.wrap .i64 ((x3.length : Int) - 16)).toNat x3))).bind fun r0 =>
 cond (!(eqS r0.1 (List.drop (IntKind.wrap .i64 ((x3.length : Int) - 16)).toNat (List.take x3.length x3))))
 (some ([], (false, ())))
 ((Aa4 R x0 x1 1 (List.drop 0 (List.take (IntKind.wrap .i64 ((x3.length : Int) - 16)).toNat x3))).bind fun r1 =>
 some (r1.1, (true, ()))))
 none)
 none)
 none)
 none)
 none)) := by kernel_rfl
theorem A60 (x0 : List UInt8) (x1 x2 x3 : Int) (x4 : List UInt8) : @Eq _ (jZ (zD EE R L) x0 x1 x2 x3 x4) ((AA7 R x1 x2 x3).bind fun r0 =>
 (AL1 R x0 r0.1 [98, 108, 111, 99, 107] x4).bind fun r1 =>
 some (r1.1, (r1.2.1, ()))) := by kernel_rfl
theorem A1j (x0:List UInt8):@Eq _ (dQ (zD EE R L) x0) (qU R L x0 [] 0):=by kernel_rfl
theorem AO5 (v0 : List UInt8) (v3 : List Int) (v4 : Int) : @Eq _ (qU R L v0 v3 v4 ([1, 1, 0, 1, 0] ++ [0])) (cond (decide (v4 < (v0.length : Int)))
 (cond (zA v4)
 (cond (Nat.ble v0.length v0.length)
 (cond (Nat.ble v4.toNat v0.length)
 ((lI R (List.drop v4.toNat (List.take v0.length v0))).bind fun r0 =>
 cond (yP (v3.length + ([IntKind.wrap .i64 r0.1]).length))
 (qU R L v0 (v3 ++ [IntKind.wrap .i64 r0.1]) (IntKind.wrap .i64 (v4 + 4)))
 none)
 none)
 none)
 none)
 (some (v3, ()))) := by kernel_rfl
theorem AD4 (x0 : d75) (x1 : FnVal) : @Eq _ (oX (zD EE R L) x0 x1) ((vS EE R x1 [⟨t12, (x0 : d75)⟩]).bind fun (r0 : Bool) =>
 some (!r0, ())) := by kernel_rfl
theorem mG (x0:List d75) (x1:FnVal):@Eq _ (xD (zD EE R L) x0 x1) (xZ R L x0 x1 0 (x0.length:Int) 0):=by kernel_rfl
theorem oV (v0 : List d75) (v1 : FnVal) (v4 v7 v8 : Int) : @Eq _ (xZ R L v0 v1 v4 v7 v8 ([1, 0, 1, 0] ++ [0])) (cond (decide (v8 < v7))
 (cond (zA v8)
 (cond (Nat.blt v8.toNat v0.length)
 ((vS EE R v1 [⟨t12, (v0.getD v8.toNat (0, ([], ())) : d75)⟩]).bind fun (r0 : Bool) =>
 cond r0
 (some (v8, ()))
 (zE R L v0 v1 v4 v8 v7 (IntKind.wrap .i64 (v8 + 1))))
 none)
 none)
 (some (-1, ()))) := by kernel_rfl
theorem wG (v0 : List d75) (v1 : FnVal) (v4 v5 v7 v8 : Int) : @Eq _ (zE R L v0 v1 v4 v5 v7 v8 ([1, 0, 1, 0] ++ [0])) (cond (decide (v8 < v7))
 (cond (zA v8)
 (cond (Nat.blt v8.toNat v0.length)
 ((vS EE R v1 [⟨t12, (v0.getD v8.toNat (0, ([], ())) : d75)⟩]).bind fun (r0 : Bool) =>
 cond r0
 (some (v8, ()))
 (zE R L v0 v1 v4 v8 v7 (IntKind.wrap .i64 (v8 + 1))))
 none)
 none)
 (some (-1, ()))) := by kernel_rfl
theorem oN (x0 : List d75) (x1 : FnVal) : @Eq _ (yT (zD EE R L) x0 x1) ((xD R x0 x1).bind fun r0 =>
 some (decide (0 ≤ r0.1), ())) := by kernel_rfl
theorem AM2 (x0 : List d75) (x1 : FnVal) : @Eq _ (qS (zD EE R L) x0 x1) ((yT R x0 (FnVal.mk (299 : Nat) (FCaps.fn x1 FCaps.nil))).bind fun r0 =>
 some (!r0.1, ())) := by kernel_rfl
theorem A7X (x0 : Int) : @Eq _ (AK4 (zD EE R L) x0) ((sL R x0 0 19).bind fun r0 =>
 some (r0.1, ())) := by kernel_rfl
theorem A2B (x0 : d75) : @Eq _ (dN (zD EE R L) x0) ((AK4 R x0.1).bind fun r0 =>
 cond r0.1
 (cond (decide ((x0.2.1.length : Int) ≤ 32))
 ((uL R x0.2.1 (FnVal.mk (235 : Nat) FCaps.nil)).bind fun r1 =>
 cond r1.1
 (cond (eqI x0.1 0)
 (some (true, ()))
 (some (eqI (x0.2.1.length : Int) 0, ())))
 (some (false, ())))
 (some (false, ())))
 (some (false, ()))) := by kernel_rfl
theorem As8 (x0 : List d75) : @Eq _ (hP (zD EE R L) x0) (cond (decide ((x0.length : Int) ≤ 2))
 ((qS R x0 (FnVal.mk (239 : Nat) FCaps.nil)).bind fun r0 =>
 some (r0.1, ()))
 (some (false, ()))) := by kernel_rfl
theorem AZ0 (x0:d81):@Eq _ (mP (zD EE R L) x0) (uW R L x0 x0.2.1.2.2.2.2.1 (IntKind.wrap .i64 (x0.2.1.1 + 1))):=by kernel_rfl
theorem eS (v1 : d81) (v3 : List UInt8) (v4 : Int) : @Eq _ (uW R L v1 v3 v4 ([1, 1, 0, 1, 0] ++ [0])) (cond (decide (v4 ≤ v1.2.1.2.2.1))
 ((jG R v4).bind fun r0 =>
 cond (zA r0.1)
 (cond (Nat.blt r0.1.toNat v1.2.2.1.1.length)
 ((AU1 R v3 (v1.2.2.1.1.getD r0.1.toNat [])).bind fun r1 =>
 uW R L v1 r1.1 (IntKind.wrap .i64 (v4 + 1)))
 none)
 none)
 (some (eqS v3 v1.2.1.2.2.2.2.2.1, ()))) := by kernel_rfl
theorem Ah6 (x0 : d81) : @Eq _ (oM (zD EE R L) x0) ((qI R x0).bind fun r0 =>
 some ((r0.1.1, (r0.1.2.1, (r0.1.2.2.1, (false, (true, r0.1.2.2.2.2.2))))), ())) := by kernel_rfl
end Go.Rf.S

end
section
namespace Go.Rf.S
open Go.Proofs
set_option maxRecDepth 100000
instance Bw5:Laid:=⟨[]⟩
def Bw2:List Dyn → Option (Ty.pair .str .unit).D
 | [k,n,c,t]=>(A9W k).bind fun k=>(A9W n).bind fun n=>(BY6 c).bind fun c=>(A9W t).bind fun t=>some (chX k n (t.length / 64 + 1) c.toNat t,())
 | _=>none
def itx (x:Int):List UInt8:=ub (lit x.toNat 4)
def Bv7:List Dyn → Option (Ty.pair .bool .unit).D
 | [e]=>(lL e.t tE e.x).bind fun e=>some (Aa9 e,())
 | _=>none
abbrev tB:Ty:=.pair (.int .i64) (.pair (.int .i64) (.pair (.int .i64) .unit))
def Bu7:List Dyn → Option (Ty.pair (.sl tB) .unit).D
 | [l]=>(Bs5 (.sl tB) l).bind fun l=>some ((List.flatten (l:List (List tB.D)):List tB.D),())
 | _=>none
def Bu2:List Dyn → Option (Ty.pair (.sl (.int .i64)) .unit).D
 | [l]=>(Bs5 (.int .i64) l).bind fun l=>some ((l.reverse:List Int),())
 | _=>none
noncomputable def X:(f:FuncId) → Option (List Dyn → Option (EE.cfg f).rt.D)
 | 311=>some Bm7
 | 273=>some (okH EE 273 Bw2)
 | 162=>some (okH EE 162 Bv7)
 | 303=>some (okH EE 303 Bu7)
 | 366=>some (okH EE 366 Bu2)
 | _=>none
noncomputable abbrev R:Run EE:=run X
noncomputable abbrev L:jC:=lps X
theorem A8O {f:FuncId} {h:List Dyn → Option (EE.cfg f).rt.D} (hX:X f = some h) (ds:List Dyn):run X f ds = h ds:=by
 rw [BT4];unfold AS2;rw [hX]
theorem call {f:FuncId} {ds:List Dyn} {r:Option (EE.cfg f).rt.D} (h:zD EE R L f ds = r) (hX:X f = none:=by rfl):R f ds = r:=(Bf5 X hX ds).trans h
theorem round {f:FuncId} {fn:Func} {p:List Nat} {σ:List SV} {r:Option (EE.cfg f).rt.D} (h:(jM (A6Z fn) p && !A6p (EE.cfg f).keep) = true) (q:zS EE R L f fn (p ++ [0]) σ = r):zS EE R L f fn p σ = r:=(BC7 h).trans q
theorem Br7:∀ f h,X f = some h → ∀ ds x,h ds = some x → BQ6 EE f ds x:=by
 intro f h hX ds x hx
 unfold X at hX
 split at hX
 ·cases hX
  obtain ⟨s,n,rfl,h1,h2,rfl⟩:=A99 hx
  exact BA6 (E:=EE) Tryz.laysRep Tryz.extra rfl Tryz.func311 (by kernel_rfl) (by kernel_rfl) s n h1 h2
 ·cases hX;exact A6U hx
 ·cases hX;exact A6U hx
 ·cases hX;exact A6U hx
 ·cases hX;exact A6U hx
 ·cases hX
theorem mixed:EE.P.follows .mixedOrders = true:=by kernel_rfl
theorem BZ2:Ab3 EE.P:=Aw9 (by kernel_rfl)
theorem A6s:Au0 EE R:=BS0 X Br7 mixed BZ2
end Go.Rf.S

end
section
namespace Go.Rf.S
set_option maxRecDepth 100000
theorem Ar4 {k:IntKind} {a b:Nat} (h:a + b < sF k):IntKind.wrap k ((a:Int) + (b:Int)) = ((a + b:Nat):Int):=by
 rw [show (a:Int) + (b:Int) = ((a + b:Nat):Int) from by omega,AW0 h]
theorem BU3 (a b:Nat):IntKind.wrap .u32 ((a:Int) + (b:Int)) = (((a + b) % 4294967296:Nat):Int):=by
 rw [show (a:Int) + (b:Int) = ((a + b:Nat):Int) from by omega,Ap3]
theorem m32 {a:Nat} (h:a < 9223372036854775808):xH .and .i64 (a:Int) 4294967295 = ((a % 4294967296:Nat):Int):=by
 rw [show (4294967295:Int) = ((4294967295:Nat):Int) from rfl,AP8 (k:=.i64) h (by decide),BZ5]
theorem A8j {a c:Nat} (h:c ≤ a) (ha:a < 9223372036854775808):IntKind.wrap .i64 ((a:Int) - (c:Int)) = ((a - c:Nat):Int):=by
 rw [zH (by omega) (by omega)];omega
theorem A3G {k:IntKind} {a n:Nat} (h:a * 2 ^ n < sF k):IntKind.wrap k ((a:Int) * (2 ^ n:Int)) = ((a * 2 ^ n:Nat):Int):=by
 rw [A7V,AW0 h]
theorem Bp7:∀ n:Fin 32,0 < n.val → xH .and .u64 (IntKind.wrap .u64 (BV4 .i64 (n.val:Int))) 31 = ((32 - n.val:Nat):Int):=by decide +kernel
theorem Bl2 (x n:Nat) (hx:x < 4294967296) (h0:0 < n) (hn:n < 32):yW R (x:Int) (BV4 .i64 (n:Int)) = some (((rr n x:Nat):Int),()):=by
 have hq:yW R (x:Int) (BV4 .i64 (n:Int)) = _:=call (kA R L (x:Int) (BV4 .i64 (n:Int)))
 have e1:=Bp7 ⟨n,hn⟩ h0
 simp only at e1
 have e2:IntKind.wrap .u64 ((32:Int) - ((32 - n:Nat):Int)) = (n:Int):=by
  rw [show (32:Int) - ((32 - n:Nat):Int) = (n:Int) by omega,AW0 (by simp only [sF];omega)]
 rw [hq,e1,e2,decide_eq_false (show ¬ ((n:Int) < 0) by omega)]
 simp only [cond_false,tn]
 rw [show Min.min (32 - n) (IntKind.bits .u32) = 32 - n from Nat.min_eq_left (by simp only [IntKind.bits];omega),show Min.min n (IntKind.bits .u32) = n from Nat.min_eq_left (by simp only [IntKind.bits];omega),A7V,Ap3,jQ,
  Ag7 (k:=.u32) (wU _) (mI _ hx)]
 unfold rr rl
 rw [show 32 - (32 - n) = n by omega]
theorem iV (x n:Nat) (hx:x < 4294967296) (h0:0 < n) (hn:n < 32):xQ R (x:Int) (n:Int) = some (((rr n x:Nat):Int),()):=by
 have hq:xQ R (x:Int) (n:Int) = _:=call (A7R R L (x:Int) (n:Int))
 rw [hq,Bl2 x n hx h0 hn]
 rfl
theorem cT (x n:Nat) (hx:x < 4294967296) (h0:0 < n) (hn:n < 32):yF R (x:Int) (n:Int) = some (((rr n x:Nat):Int),()):=by
 have hq:yF R (x:Int) (n:Int) = _:=call (A2I R L (x:Int) (n:Int))
 have e2:IntKind.wrap .i64 ((32:Int) - (n:Int)) = ((32 - n:Nat):Int):=by
  rw [zH (by omega) (by omega)];omega
 have hb:x * 2 ^ (32 - n) < 9223372036854775808:=by
  have h1:2 ^ (32 - n) ≤ 2 ^ 31:=Nat.pow_le_pow_right (by decide) (by omega)
  have h2:x * 2 ^ (32 - n) ≤ x * 2 ^ 31:=Nat.mul_le_mul_left _ h1
  omega
 rw [hq,e2,decide_eq_false (show ¬ ((n:Int) < 0) by omega),decide_eq_false (show ¬ (((32 - n:Nat):Int) < 0) by omega)]
 simp only [cond_false,tn]
 rw [show Min.min (32 - n) (IntKind.bits .i64) = 32 - n from Nat.min_eq_left (by simp only [IntKind.bits];omega),show Min.min n (IntKind.bits .i64) = n from Nat.min_eq_left (by simp only [IntKind.bits];omega),A3G (k:=.i64) hb,jQ,
  Ag7 (k:=.i64) (Nat.lt_trans (mI _ hx) (by decide)) hb,m32 (Nat.or_lt_two_pow (n:=63) (Nat.lt_trans (mI _ hx) (by decide)) hb),Bc6 (by omega) hx]
theorem R7 {x:Nat} (hx:x < 4294967296):yF R (x:Int) 7 = some (((rr 7 x:Nat):Int),()):=cT x 7 hx (by decide) (by decide)
theorem T7 {x:Nat} (hx:x < 4294967296):xQ R (x:Int) 7 = some (((rr 7 x:Nat):Int),()):=iV x 7 hx (by decide) (by decide)
theorem R18 {x:Nat} (hx:x < 4294967296):yF R (x:Int) 18 = some (((rr 18 x:Nat):Int),()):=cT x 18 hx (by decide) (by decide)
theorem T18 {x:Nat} (hx:x < 4294967296):xQ R (x:Int) 18 = some (((rr 18 x:Nat):Int),()):=iV x 18 hx (by decide) (by decide)
theorem R17 {x:Nat} (hx:x < 4294967296):yF R (x:Int) 17 = some (((rr 17 x:Nat):Int),()):=cT x 17 hx (by decide) (by decide)
theorem T17 {x:Nat} (hx:x < 4294967296):xQ R (x:Int) 17 = some (((rr 17 x:Nat):Int),()):=iV x 17 hx (by decide) (by decide)
theorem R19 {x:Nat} (hx:x < 4294967296):yF R (x:Int) 19 = some (((rr 19 x:Nat):Int),()):=cT x 19 hx (by decide) (by decide)
theorem T19 {x:Nat} (hx:x < 4294967296):xQ R (x:Int) 19 = some (((rr 19 x:Nat):Int),()):=iV x 19 hx (by decide) (by decide)
theorem R6 {x:Nat} (hx:x < 4294967296):yF R (x:Int) 6 = some (((rr 6 x:Nat):Int),()):=cT x 6 hx (by decide) (by decide)
theorem T6 {x:Nat} (hx:x < 4294967296):xQ R (x:Int) 6 = some (((rr 6 x:Nat):Int),()):=iV x 6 hx (by decide) (by decide)
theorem R11 {x:Nat} (hx:x < 4294967296):yF R (x:Int) 11 = some (((rr 11 x:Nat):Int),()):=cT x 11 hx (by decide) (by decide)
theorem T11 {x:Nat} (hx:x < 4294967296):xQ R (x:Int) 11 = some (((rr 11 x:Nat):Int),()):=iV x 11 hx (by decide) (by decide)
theorem R25 {x:Nat} (hx:x < 4294967296):yF R (x:Int) 25 = some (((rr 25 x:Nat):Int),()):=cT x 25 hx (by decide) (by decide)
theorem T25 {x:Nat} (hx:x < 4294967296):xQ R (x:Int) 25 = some (((rr 25 x:Nat):Int),()):=iV x 25 hx (by decide) (by decide)
theorem R2 {x:Nat} (hx:x < 4294967296):yF R (x:Int) 2 = some (((rr 2 x:Nat):Int),()):=cT x 2 hx (by decide) (by decide)
theorem T2 {x:Nat} (hx:x < 4294967296):xQ R (x:Int) 2 = some (((rr 2 x:Nat):Int),()):=iV x 2 hx (by decide) (by decide)
theorem R13 {x:Nat} (hx:x < 4294967296):yF R (x:Int) 13 = some (((rr 13 x:Nat):Int),()):=cT x 13 hx (by decide) (by decide)
theorem T13 {x:Nat} (hx:x < 4294967296):xQ R (x:Int) 13 = some (((rr 13 x:Nat):Int),()):=iV x 13 hx (by decide) (by decide)
theorem R22 {x:Nat} (hx:x < 4294967296):yF R (x:Int) 22 = some (((rr 22 x:Nat):Int),()):=cT x 22 hx (by decide) (by decide)
theorem T22 {x:Nat} (hx:x < 4294967296):xQ R (x:Int) 22 = some (((rr 22 x:Nat):Int),()):=iV x 22 hx (by decide) (by decide)
theorem A2L {k:IntKind} (hk:256 ≤ sF k) (b:UInt8):IntKind.wrap k ((b.toNat:Nat):Int) = ((b.toNat:Nat):Int):=AW0 (Nat.lt_of_lt_of_le (UInt8.toNat_lt _) hk)
theorem Bd9 {k:IntKind} (hk:4294967296 ≤ sF k) {a b:Nat} (ha:a < 4294967296) (hb:b < 4294967296):xH .or k (a:Int) (b:Int) = ((a ||| b:Nat):Int):=Ag7 (Nat.lt_of_lt_of_le ha hk) (Nat.lt_of_lt_of_le hb hk)
theorem AD5 {k:IntKind} (hk:4294967296 ≤ sF k) {a b:Nat} (ha:a < 4294967296) (hb:b < 4294967296):xH .xor k (a:Int) (b:Int) = ((a ^^^ b:Nat):Int):=A1F (Nat.lt_of_lt_of_le ha hk) (Nat.lt_of_lt_of_le hb hk)
theorem A9o {k:IntKind} (hk:4294967296 ≤ sF k) {a b:Nat} (ha:a < 4294967296) (hb:b < 4294967296):xH .and k (a:Int) (b:Int) = ((a &&& b:Nat):Int):=AP8 (Nat.lt_of_lt_of_le ha hk) (Nat.lt_of_lt_of_le hb hk)
theorem BS2 (k:IntKind) (hk:4294967296 ≤ sF k) (h32:32 ≤ k.bits) (t:List UInt8) (i:Nat):
  xH .or k (xH .or k (xH .or k (IntKind.wrap k (IntKind.wrap k (((t.getD i 0).toNat:Nat):Int) * ((2:Int) ^ Min.min (Int.toNat 24) k.bits)))
   (IntKind.wrap k (IntKind.wrap k (((t.getD (i + 1) 0).toNat:Nat):Int) * ((2:Int) ^ Min.min (Int.toNat 16) k.bits))))
   (IntKind.wrap k (IntKind.wrap k (((t.getD (i + 2) 0).toNat:Nat):Int) * ((2:Int) ^ Min.min (Int.toNat 8) k.bits))))
   (IntKind.wrap k (((t.getD (i + 3) 0).toNat:Nat):Int)) = ((wBE t i:Nat):Int):=by
 have h0:=rT t i;have h1:=rT t (i + 1);have h2:=rT t (i + 2);have h3:=rT t (i + 3)
 have m24:Min.min (Int.toNat 24) k.bits = 24:=Nat.min_eq_left (by show 24 ≤ _;omega)
 have m16:Min.min (Int.toNat 16) k.bits = 16:=Nat.min_eq_left (by show 16 ≤ _;omega)
 have m8:Min.min (Int.toNat 8) k.bits = 8:=Nat.min_eq_left (by show 8 ≤ _;omega)
 have hk8:256 ≤ sF k:=Nat.le_trans (by decide) hk
 unfold bt at h0 h1 h2 h3
 rw [m24,m16,m8,A2L hk8,A2L hk8,A2L hk8,A2L hk8,A3G (by omega),A3G (by omega),A3G (by omega),Bd9 hk (by omega) (by omega),Bd9 hk (iC (by omega) (by omega)) (by omega),Bd9 hk (iC (iC (by omega) (by omega)) (by omega)) (by omega)]
 rfl
theorem Ao3 {i:Nat} (c:Nat) (h:i + c < 9223372036854775808):IntKind.wrap .i64 ((i:Int) + (c:Int)) = ((i + c:Nat):Int):=Ar4 h
theorem Bi6 (t:List UInt8) (i:Nat) (h:i + 3 < t.length) (hi:i < 1099511627776):aX R t (i:Int) = some (((wBE t i:Nat):Int),()):=by
 have hq:aX R t (i:Int) = _:=call (A4M R L t (i:Int))
 have e1:IntKind.wrap .i64 ((i:Int) + 1) = ((i + 1:Nat):Int):=Ao3 1 (by omega)
 have e2:IntKind.wrap .i64 ((i:Int) + 2) = ((i + 2:Nat):Int):=Ao3 2 (by omega)
 have e3:IntKind.wrap .i64 ((i:Int) + 3) = ((i + 3:Nat):Int):=Ao3 3 (by omega)
 rw [hq,e1,e2,e3]
 simp only [nn,tn,yB (show i < t.length by omega),yB (show i + 1 < t.length by omega),yB (show i + 2 < t.length by omega),yB h,cond_true]
 rw [BS2 .i64 (by decide) (by decide)]
end Go.Rf.S

end
section
namespace Go.Rf.S
set_option maxRecDepth 100000
theorem g0C (k:IntKind) (hk:4294967296 ≤ sF k) (h32:32 ≤ k.bits) {x:Nat} (h:x < 4294967296):
  xH .xor k (xH .xor k ((rr 7 x:Nat):Int) ((rr 18 x:Nat):Int)) (Int.fdiv (x:Int) ((2:Int) ^ Min.min (Int.toNat 3) k.bits)) = ((g0 x:Nat):Int):=by
 rw [show Min.min (Int.toNat 3) k.bits = 3 from Nat.min_eq_left (by show 3 ≤ _;omega),jQ,AD5 hk (jS h) (jS h),AD5 hk (xG (jS h) (jS h)) (mI _ h)]
 rfl
theorem g1C (k:IntKind) (hk:4294967296 ≤ sF k) (h32:32 ≤ k.bits) {x:Nat} (h:x < 4294967296):
  xH .xor k (xH .xor k ((rr 17 x:Nat):Int) ((rr 19 x:Nat):Int)) (Int.fdiv (x:Int) ((2:Int) ^ Min.min (Int.toNat 10) k.bits)) = ((g1 x:Nat):Int):=by
 rw [show Min.min (Int.toNat 10) k.bits = 10 from Nat.min_eq_left (by show 10 ≤ _;omega),jQ,AD5 hk (jS h) (jS h),AD5 hk (xG (jS h) (jS h)) (mI _ h)]
 rfl
theorem S1C (k:IntKind) (hk:4294967296 ≤ sF k) {x:Nat} (h:x < 4294967296):
  xH .xor k (xH .xor k ((rr 6 x:Nat):Int) ((rr 11 x:Nat):Int)) ((rr 25 x:Nat):Int) = ((S1 x:Nat):Int):=by
 rw [AD5 hk (jS h) (jS h),AD5 hk (xG (jS h) (jS h)) (jS h)]
 rfl
theorem S0C (k:IntKind) (hk:4294967296 ≤ sF k) {x:Nat} (h:x < 4294967296):
  xH .xor k (xH .xor k ((rr 2 x:Nat):Int) ((rr 13 x:Nat):Int)) ((rr 22 x:Nat):Int) = ((S0 x:Nat):Int):=by
 rw [AD5 hk (jS h) (jS h),AD5 hk (xG (jS h) (jS h)) (jS h)]
 rfl
theorem chC (k:IntKind) (hk:4294967296 ≤ sF k) {e f g:Nat} (he:e < 4294967296) (hf:f < 4294967296) (hg:g < 4294967296):
  xH .xor k (xH .and k (e:Int) (f:Int)) (xH .and k (xH .xor k 4294967295 (e:Int)) (g:Int)) = ((ch e f g:Nat):Int):=by
 rw [show (4294967295:Int) = ((4294967295:Nat):Int) from rfl,A9o hk he hf,AD5 hk (by decide) he,A9o hk (xG (by decide) he) hg,AD5 hk (lQ he) (lQ (xG (by decide) he))]
 rfl
theorem mjC (k:IntKind) (hk:4294967296 ≤ sF k) {e f g:Nat} (he:e < 4294967296) (hf:f < 4294967296) (hg:g < 4294967296):
  xH .xor k (xH .xor k (xH .and k (e:Int) (f:Int)) (xH .and k (e:Int) (g:Int))) (xH .and k (f:Int) (g:Int)) = ((mj e f g:Nat):Int):=by
 rw [A9o hk he hf,A9o hk he hg,A9o hk hf hg,AD5 hk (lQ he) (lQ he),AD5 hk (xG (lQ he) (lQ he)) (lQ hf)]
 rfl
def Wd (n:Nat) (w:List Nat):Prop:=w.length = n ∧ Bd 4294967296 w
theorem Wd.g {n:Nat} {w:List Nat} (h:Wd n w) (i:Nat):w.getD i 0 < 4294967296:=h.2.get (by decide) i
theorem Wd.s {n:Nat} {w:List Nat} (h:Wd n w) {i a:Nat} (ha:a < 4294967296):Wd n (w.set i a):=⟨by rw [List.length_set];exact h.1,h.2.set ha⟩
theorem Wd.rep (n:Nat):Wd n (List.replicate n 0):=⟨List.length_replicate,Bd.rep (by decide)⟩
theorem Bg7 {t:List UInt8} {i:Nat} {w:List Nat} (h:Wd 64 w):Wd 64 (stA t i w):=h.s (Bl1 _ _)
theorem Bf9 {i:Nat} {w:List Nat} (h:Wd 64 w):Wd 64 (stB i w):=h.s (wU _)
theorem Bf0 {k w v:List Nat} {i:Nat} (h:Wd 8 v):Wd 8 (stC k w i v):=⟨rfl,fun x hx=>by
 simp only [stC,List.mem_cons,List.not_mem_nil,or_false] at hx
 rcases hx with rfl | rfl | rfl | rfl | rfl | rfl | rfl | rfl
 ·exact wU _
 ·exact h.g 0
 ·exact h.g 1
 ·exact h.g 2
 ·exact wU _
 ·exact h.g 4
 ·exact h.g 5
 ·exact h.g 6⟩
theorem BX3 {v:List Nat} {i:Nat} {w:List Nat} {n:Nat} (h:Wd n w):Wd n (stD v i w):=h.s (wU _)
def kT:List Nat:=[1116352408,1899447441,3049323471,3921009573,961987163,1508970993,2453635748,2870763221,3624381080,310598401,607225278,1426881987,1925078388,2162078206,2614888103,3248222580,3835390401,4022224774,264347078,604807628,770255983,1249150122,1555081692,1996064986,2554220882,2821834349,2952996808,3210313671,3336571891,3584528711,113926993,338241895,666307205,773529912,1294757372,1396182291,1695183700,1986661051,2177026350,2456956037,2730485921,2820302411,3259730800,3345764771,3516065817,3600352804,4094571909,275423344,430227734,506948616,659060556,883997877,958139571,1322822218,1537002063,1747873779,1955562222,2024104815,2227730452,2361852424,2428436474,2756734187,3204031479,3329325298]
def hT:List Nat:=[1779033703,3144134277,1013904242,2773480762,1359893119,2600822924,528734635,1541459225]
theorem Bg6:Wd 8 hT:=⟨rfl,by intro x hx;revert x;decide⟩
theorem Bw4:Wd 64 kT:=⟨rfl,by intro x hx;revert x;decide⟩
theorem BW0:AH6 R = some (cl kT,()):=call (A28 R L)
theorem A4W:AB8 R = some (cl kT,()):=call (A0Y R L)
theorem BY1:AF5 R = some (cl hT,()):=call (A3L R L)
theorem Bg4 (t:List UInt8) (ht:64 ≤ t.length) (v2 v4:List Int):
  uG R L t v2 v4 (cl (List.replicate 64 0)) 0 = xP R L v2 v4 (cl (wJ (stA t) 16 0 (List.replicate 64 0))) 16 ∧ Wd 64 (wJ (stA t) 16 0 (List.replicate 64 0)):=
 yJ (fun (w:List Nat) i=>uG R L t v2 v4 (cl w) i) (stA t) (fun _ w=>Wd 64 w) 16 (fun w=>xP R L v2 v4 (cl w) 16)
  (fun w hw=>by
   have hq:uG R L t v2 v4 (cl w) (16:Nat) = _:=round (by kernel_rfl) (AN6 R L t v2 v4 (cl w) (16:Nat))
   show uG R L t v2 v4 (cl w) (16:Nat) = _
   rw [hq];rfl)
  (fun w i hi hw=>by
   have hq:uG R L t v2 v4 (cl w) (i:Nat) = _:=round (by kernel_rfl) (AN6 R L t v2 v4 (cl w) (i:Nat))
   refine ⟨?_,Bg7 hw⟩
   show uG R L t v2 v4 (cl w) (i:Nat) = _
   have e4:IntKind.wrap .i64 ((4:Int) * (i:Int)) = ((4 * i:Nat):Int):=by rw [zH (by omega) (by omega)];omega
   rw [hq,show decide ((i:Int) < 16) = true from decide_eq_true (by omega),e4,Bi6 t (4 * i) (by omega) (by omega),zB (by omega)]
   simp only [nn,tn,cond_true,Option.bind_some]
   rw [yB (show i < 64 by omega),tI]
   rfl)
  (List.replicate 64 0) (Wd.rep 64)
theorem Bi2 (v2 v4:List Int) (w0:List Nat) (h0:Wd 64 w0):
  xP R L v2 v4 (cl w0) 16 = wB R L v2 v4 (cl (wJ stB 48 0 w0)) (cl kT) v2 0 ∧ Wd 64 (wJ stB 48 0 w0):=by
 have h:xP R L v2 v4 (cl w0) (0 + 16) = wB R L v2 v4 (cl (wJ stB 48 0 w0)) (cl kT) v2 0 ∧ Wd 64 (wJ stB 48 0 w0):=yJ (fun (w:List Nat) i=>xP R L v2 v4 (cl w) (i + 16)) stB (fun _ w=>Wd 64 w) 48 (fun w=>wB R L v2 v4 (cl w) (cl kT) v2 0)
  (fun w hw=>by
   have hq:xP R L v2 v4 (cl w) (64:Nat) = _:=round (by kernel_rfl) (AM6 R L v2 v4 (cl w) (64:Nat))
   show xP R L v2 v4 (cl w) (64:Nat) = _
   rw [hq,show decide (((64:Nat):Int) < 64) = false from by decide,BW0];rfl)
  (fun w i hi hw=>by
   have hq:xP R L v2 v4 (cl w) ((i + 16:Nat):Int) = _:=round (by kernel_rfl) (AM6 R L v2 v4 (cl w) ((i + 16:Nat):Int))
   refine ⟨?_,Bf9 hw⟩
   show xP R L v2 v4 (cl w) ((i:Int) + 16) = xP R L v2 v4 (cl (stB i w)) (((i + 1:Nat):Int) + 16)
   rw [show (i:Int) + 16 = ((i + 16:Nat):Int) by omega,show ((i + 1:Nat):Int) + 16 = ((i + 16 + 1:Nat):Int) by omega]
   have e15:IntKind.wrap .i64 (((i + 16:Nat):Int) - 15) = ((i + 1:Nat):Int):=A8j (c:=15) (by omega) (by omega)
   have e2:IntKind.wrap .i64 (((i + 16:Nat):Int) - 2) = ((i + 14:Nat):Int):=A8j (c:=2) (by omega) (by omega)
   have e16:IntKind.wrap .i64 (((i + 16:Nat):Int) - 16) = ((i:Nat):Int):=A8j (c:=16) (by omega) (by omega)
   have e7:IntKind.wrap .i64 (((i + 16:Nat):Int) - 7) = ((i + 9:Nat):Int):=A8j (c:=7) (by omega) (by omega)
   have a1:=hw.g (i + 1);have a14:=hw.g (i + 14);have a0:=hw.g i;have a9:=hw.g (i + 9)
   have b1:=Bq9 a1;have b2:=Bp2 a14
   rw [hq,show decide (((i + 16:Nat):Int) < 64) = true from decide_eq_true (by omega),e15,e2,e16,e7,zB (by omega)]
   simp only [nn,tn,cond_true,yB (show i + 1 < 64 by omega),yB (show i + 14 < 64 by omega),yB (show i < 64 by omega),yB (show i + 9 < 64 by omega),yB (show i + 16 < 64 by omega),yG]
   rw [R7 a1,R18 a1,R17 a14,R19 a14]
   simp only [Option.bind_some]
   rw [g0C .i64 (by decide) (by decide) a1,g1C .i64 (by decide) (by decide) a14,Ar4 (by simp only [sF];omega),Ar4 (by simp only [sF];omega),Ar4 (by simp only [sF];omega),m32 (by omega),tI]
   rfl)
  w0 h0
 rw [Int.zero_add] at h
 exact h
theorem Bg2 (v2 v4:List Int) (w v0:List Nat) (hw:Wd 64 w) (h0:Wd 8 v0):
  wB R L v2 v4 (cl w) (cl kT) (cl v0) 0 = wM R L v2 v4 (cl (wJ (stC kT w) 64 0 v0)) 0 ∧ Wd 8 (wJ (stC kT w) 64 0 v0):=
 yJ (fun (v:List Nat) i=>wB R L v2 v4 (cl w) (cl kT) (cl v) i) (stC kT w) (fun _ v=>Wd 8 v) 64 (fun v=>wM R L v2 v4 (cl v) 0)
  (fun v hv=>by
   have hq:wB R L v2 v4 (cl w) (cl kT) (cl v) (64:Nat) = _:=round (by kernel_rfl) (AO6 R L v2 v4 (cl w) (cl kT) (cl v) (64:Nat))
   show wB R L v2 v4 (cl w) (cl kT) (cl v) (64:Nat) = _
   rw [hq];rfl)
  (fun v i hi hv=>by
   have hq:wB R L v2 v4 (cl w) (cl kT) (cl v) (i:Nat) = _:=round (by kernel_rfl) (AO6 R L v2 v4 (cl w) (cl kT) (cl v) (i:Nat))
   refine ⟨?_,Bf0 hv⟩
   show wB R L v2 v4 (cl w) (cl kT) (cl v) (i:Nat) = _
   have a0:=hv.g 0;have a1:=hv.g 1;have a2:=hv.g 2;have a3:=hv.g 3;have a4:=hv.g 4;have a5:=hv.g 5;have a6:=hv.g 6;have a7:=hv.g 7
   have ak:=Bw4.g i;have aw:=hw.g i
   have b1:=Bo2 a4;have b0:=Bq4 a0;have bc:=Bp5 (f:=v.getD 5 0) (g:=v.getD 6 0) a4;have bm:=Br2 (c:=v.getD 2 0) a0 a1
   rw [hq,show decide ((i:Int) < 64) = true from decide_eq_true (by omega),zB (by omega)]
   simp only [nn,tn,cond_true,yB (show i < 64 by omega),yG,show Int.toNat 0 = 0 from rfl,show Int.toNat 1 = 1 from rfl,show Int.toNat 2 = 2 from rfl,show Int.toNat 3 = 3 from rfl,show Int.toNat 4 = 4 from rfl,show Int.toNat 5 = 5 from rfl,show Int.toNat 6 = 6 from rfl,show Int.toNat 7 = 7 from rfl]
   rw [R6 a4,R11 a4,R25 a4,R2 a0,R13 a0,R22 a0]
   simp only [Option.bind_some]
   rw [S1C .i64 (by decide) a4,S0C .i64 (by decide) a0,chC .i64 (by decide) a4 a5 a6,mjC .i64 (by decide) a0 a1 a2]
   rw [Ar4 (a:=v.getD 7 0) (by simp only [sF];omega),Ar4 (b:=ch _ _ _) (by simp only [sF];omega),Ar4 (b:=kT.getD i 0) (by simp only [sF];omega),Ar4 (b:=w.getD i 0) (by simp only [sF];omega),Ar4 (b:=S0 _) (by simp only [sF];omega),Ar4 (b:=mj _ _ _) (by simp only [sF];omega),Ar4 (a:=v.getD 3 0) (by simp only [sF];omega),m32 (by omega),m32 (by omega)]
   rfl)
  v0 h0
theorem Bm0 (v4:List Int) (v h0:List Nat) (hv:Wd 8 v) (hh:Wd 8 h0):
  wM R L (cl h0) v4 (cl v) 0 = some (cl (wJ (stD v) 8 0 h0),()) ∧ Wd 8 (wJ (stD v) 8 0 h0):=
 yJ (fun (h:List Nat) i=>wM R L (cl h) v4 (cl v) i) (stD v) (fun _ h=>Wd 8 h) 8 (fun h=>some (cl h,()))
  (fun h _=>by
   have hq:wM R L (cl h) v4 (cl v) (8:Nat) = _:=round (by kernel_rfl) (AO2 R L (cl h) v4 (cl v) (8:Nat))
   show wM R L (cl h) v4 (cl v) (8:Nat) = _
   rw [hq];rfl)
  (fun h i hi hh=>by
   have hq:wM R L (cl h) v4 (cl v) (i:Nat) = _:=round (by kernel_rfl) (AO2 R L (cl h) v4 (cl v) (i:Nat))
   refine ⟨?_,BX3 hh⟩
   show wM R L (cl h) v4 (cl v) (i:Nat) = _
   have a:=hh.g i;have b:=hv.g i
   rw [hq,show decide ((i:Int) < 8) = true from decide_eq_true (by omega),zB (by omega)]
   simp only [nn,tn,cond_true,yB (show i < 8 from hi),yG]
   rw [Ar4 (by simp only [sF];omega),m32 (by omega),tI]
   rfl)
  h0 hh
theorem A4n (h:List Nat) (t:List UInt8) (hh:Wd 8 h) (ht:64 ≤ t.length):cM R (cl h) t = some (cl (A8Y kT h t),()) ∧ Wd 8 (A8Y kT h t):=by
 have hq:cM R (cl h) t = _:=call (A2x R L (cl h) t)
 obtain ⟨a1,a2⟩:=Bg4 t ht (cl h) (List.replicate 8 0)
 obtain ⟨b1,b2⟩:=Bi2 (cl h) (List.replicate 8 0) _ a2
 obtain ⟨c1,c2⟩:=Bg2 (cl h) (List.replicate 8 0) _ h b2 hh
 obtain ⟨d1,d2⟩:=Bm0 (List.replicate 8 0) _ h c2 hh
 exact ⟨hq.trans (a1.trans (b1.trans (c1.trans d1))),d2⟩
end Go.Rf.S

end
section
namespace Go.Rf.S
set_option maxRecDepth 100000
abbrev HS:Type:=List Int × (List UInt8 × (Int × Unit))
theorem Bj8 (v0:HS) (t:List UInt8) (ht:64 ≤ t.length) (v2:List Int):
  xB R L v0 t v2 (cl (List.replicate 64 0)) 0 = zU R L v0 v2 (cl (wJ (stA t) 16 0 (List.replicate 64 0))) 16 ∧ Wd 64 (wJ (stA t) 16 0 (List.replicate 64 0)):=
 yJ (fun (w:List Nat) i=>xB R L v0 t v2 (cl w) i) (stA t) (fun _ w=>Wd 64 w) 16 (fun w=>zU R L v0 v2 (cl w) 16)
  (fun w hw=>by
   have hq:xB R L v0 t v2 (cl w) (16:Nat) = _:=round (by kernel_rfl) (fB R L v0 t v2 (cl w) (16:Nat))
   show xB R L v0 t v2 (cl w) (16:Nat) = _
   rw [hq];rfl)
  (fun w i hi hw=>by
   have hq:xB R L v0 t v2 (cl w) (i:Nat) = _:=round (by kernel_rfl) (fB R L v0 t v2 (cl w) (i:Nat))
   refine ⟨?_,Bg7 hw⟩
   show xB R L v0 t v2 (cl w) (i:Nat) = _
   have e4:IntKind.wrap .i64 ((4:Int) * (i:Int)) = ((4 * i:Nat):Int):=by rw [zH (by omega) (by omega)];omega
   have e1:IntKind.wrap .i64 (((4 * i:Nat):Int) + 1) = ((4 * i + 1:Nat):Int):=Ao3 1 (by omega)
   have e2:IntKind.wrap .i64 (((4 * i:Nat):Int) + 2) = ((4 * i + 2:Nat):Int):=Ao3 2 (by omega)
   have e3:IntKind.wrap .i64 (((4 * i:Nat):Int) + 3) = ((4 * i + 3:Nat):Int):=Ao3 3 (by omega)
   rw [hq,show decide ((i:Int) < 16) = true from decide_eq_true (by omega),e4,e1,e2,e3,zB (by omega)]
   simp only [nn,tn,cond_true,yB (show 4 * i < t.length by omega),yB (show 4 * i + 1 < t.length by omega),yB (show 4 * i + 2 < t.length by omega),yB (show 4 * i + 3 < t.length by omega)]
   rw [BS2 .u32 (by decide) (by decide),yB (show i < 64 by omega),tI]
   rfl)
  (List.replicate 64 0) (Wd.rep 64)
theorem Ba6 (a b c d:Nat):(((a + b) % 4294967296 + c) % 4294967296 + d) % 4294967296 = (a + b + c + d) % 4294967296:=by simp only [Nat.mod_add_mod]
theorem Bl8 (v0:HS) (v2:List Int) (w0:List Nat) (h0:Wd 64 w0):
  zU R L v0 v2 (cl w0) 16 = zW R L v0 v2 (cl (wJ stB 48 0 w0)) (List.replicate 8 0) v0.1 0 ∧ Wd 64 (wJ stB 48 0 w0):=by
 have h:zU R L v0 v2 (cl w0) (0 + 16) = zW R L v0 v2 (cl (wJ stB 48 0 w0)) (List.replicate 8 0) v0.1 0 ∧ Wd 64 (wJ stB 48 0 w0):=
  yJ (fun (w:List Nat) i=>zU R L v0 v2 (cl w) (i + 16)) stB (fun _ w=>Wd 64 w) 48 (fun w=>zW R L v0 v2 (cl w) (List.replicate 8 0) v0.1 0)
  (fun w hw=>by
   have hq:zU R L v0 v2 (cl w) (64:Nat) = _:=round (by kernel_rfl) (gZ R L v0 v2 (cl w) (64:Nat))
   show zU R L v0 v2 (cl w) (64:Nat) = _
   rw [hq,show decide (((64:Nat):Int) < 64) = false from by decide];rfl)
  (fun w i hi hw=>by
   have hq:zU R L v0 v2 (cl w) ((i + 16:Nat):Int) = _:=round (by kernel_rfl) (gZ R L v0 v2 (cl w) ((i + 16:Nat):Int))
   refine ⟨?_,Bf9 hw⟩
   show zU R L v0 v2 (cl w) ((i:Int) + 16) = zU R L v0 v2 (cl (stB i w)) (((i + 1:Nat):Int) + 16)
   rw [show (i:Int) + 16 = ((i + 16:Nat):Int) by omega,show ((i + 1:Nat):Int) + 16 = ((i + 16 + 1:Nat):Int) by omega]
   have e15:IntKind.wrap .i64 (((i + 16:Nat):Int) - 15) = ((i + 1:Nat):Int):=A8j (c:=15) (by omega) (by omega)
   have e2:IntKind.wrap .i64 (((i + 16:Nat):Int) - 2) = ((i + 14:Nat):Int):=A8j (c:=2) (by omega) (by omega)
   have e16:IntKind.wrap .i64 (((i + 16:Nat):Int) - 16) = ((i:Nat):Int):=A8j (c:=16) (by omega) (by omega)
   have e7:IntKind.wrap .i64 (((i + 16:Nat):Int) - 7) = ((i + 9:Nat):Int):=A8j (c:=7) (by omega) (by omega)
   have a1:=hw.g (i + 1);have a14:=hw.g (i + 14);have a0:=hw.g i;have a9:=hw.g (i + 9)
   rw [hq,show decide (((i + 16:Nat):Int) < 64) = true from decide_eq_true (by omega),e15,e2,e16,e7,zB (by omega)]
   simp only [nn,tn,cond_true,yB (show i + 1 < 64 by omega),yB (show i + 14 < 64 by omega),yB (show i < 64 by omega),yB (show i + 9 < 64 by omega),yB (show i + 16 < 64 by omega),yG]
   rw [T7 a1,T18 a1,T17 a14,T19 a14]
   simp only [Option.bind_some]
   rw [g0C .u32 (by decide) (by decide) a1,g1C .u32 (by decide) (by decide) a14,BU3,BU3,BU3,Ba6,tI]
   rfl)
  w0 h0
 rw [Int.zero_add] at h
 exact h
theorem Bq2 {x:List Nat} (h:x.length = 8):x = [x.getD 0 0,x.getD 1 0,x.getD 2 0,x.getD 3 0,x.getD 4 0,x.getD 5 0,x.getD 6 0,x.getD 7 0]:=by
 match x,h with
 | [a,b,c,d,e,f,g,i],_=>rfl
theorem Bf1 (v0:HS) (v2 v6:List Int) (h:List Nat) (hh:Wd 8 h):
  zW R L v0 v2 v6 (List.replicate 8 0) (cl h) 0 = yI R L v0 v2 v6 (cl h) 0:=by
 have:=(yJ (fun (w:List Nat) i=>zW R L v0 v2 v6 (cl w) (cl h) i) (fun i w=>w.set i (h.getD i 0)) (fun _ w=>True) 8 (fun w=>yI R L v0 v2 v6 (cl w) 0)
  (fun w hw=>by
   have hq:zW R L v0 v2 v6 (cl w) (cl h) (8:Nat) = _:=round (by kernel_rfl) (fC R L v0 v2 v6 (cl w) (cl h) (8:Nat))
   show zW R L v0 v2 v6 (cl w) (cl h) (8:Nat) = _
   rw [hq];rfl)
  (fun w i hi hw=>by
   have hq:zW R L v0 v2 v6 (cl w) (cl h) (i:Nat) = _:=round (by kernel_rfl) (fC R L v0 v2 v6 (cl w) (cl h) (i:Nat))
   refine ⟨?_,trivial⟩
   show zW R L v0 v2 v6 (cl w) (cl h) (i:Nat) = _
   rw [hq,show decide ((i:Int) < 8) = true from decide_eq_true (by omega),zB (by omega)]
   simp only [nn,tn,cond_true,yB (show i < 8 from hi),yG]
   rw [AW0 (k:=.u32) (hh.g i),tI])
  (List.replicate 8 0) trivial).1
 refine this.trans ?_
 rw [Bq2 hh.1]
 rfl
theorem BY5 (h s c k w a m:Nat):(((((h + s) % 4294967296 + c) % 4294967296 + k) % 4294967296 + w) % 4294967296 + (a + m) % 4294967296) % 4294967296 = (h + s + c + k + w + a + m) % 4294967296:=by
 simp only [Nat.mod_add_mod,Nat.add_mod_mod,Nat.add_assoc]
theorem BM5 (d h s c k w:Nat):(d + ((((h + s) % 4294967296 + c) % 4294967296 + k) % 4294967296 + w) % 4294967296) % 4294967296 = (d + (h + s + c + k + w)) % 4294967296:=by
 simp only [Nat.mod_add_mod,Nat.add_mod_mod]
theorem Be9 (v0:HS) (w v00:List Nat) (hw:Wd 64 w) (h0:Wd 8 v00):
  yI R L v0 (cl kT) (cl w) (cl v00) 0 = yH R L v0 (cl (wJ (stC kT w) 64 0 v00)) 0 ∧ Wd 8 (wJ (stC kT w) 64 0 v00):=
 yJ (fun (v:List Nat) i=>yI R L v0 (cl kT) (cl w) (cl v) i) (stC kT w) (fun _ v=>Wd 8 v) 64 (fun v=>yH R L v0 (cl v) 0)
  (fun v hv=>by
   have hq:yI R L v0 (cl kT) (cl w) (cl v) (64:Nat) = _:=round (by kernel_rfl) (fE R L v0 (cl kT) (cl w) (cl v) (64:Nat))
   show yI R L v0 (cl kT) (cl w) (cl v) (64:Nat) = _
   rw [hq];rfl)
  (fun v i hi hv=>by
   have hq:yI R L v0 (cl kT) (cl w) (cl v) (i:Nat) = _:=round (by kernel_rfl) (fE R L v0 (cl kT) (cl w) (cl v) (i:Nat))
   refine ⟨?_,Bf0 hv⟩
   show yI R L v0 (cl kT) (cl w) (cl v) (i:Nat) = _
   have a0:=hv.g 0;have a1:=hv.g 1;have a2:=hv.g 2;have a3:=hv.g 3;have a4:=hv.g 4;have a5:=hv.g 5;have a6:=hv.g 6;have a7:=hv.g 7
   rw [hq,show decide ((i:Int) < 64) = true from decide_eq_true (by omega),zB (by omega),show ((2:Int) ^ IntKind.bits .u32 - 1) = 4294967295 from by decide]
   simp only [nn,tn,cond_true,yB (show i < 64 by omega),yG,show Int.toNat 0 = 0 from rfl,show Int.toNat 1 = 1 from rfl,show Int.toNat 2 = 2 from rfl,show Int.toNat 3 = 3 from rfl,show Int.toNat 4 = 4 from rfl,show Int.toNat 5 = 5 from rfl,show Int.toNat 6 = 6 from rfl,show Int.toNat 7 = 7 from rfl]
   rw [T6 a4,T11 a4,T25 a4,T2 a0,T13 a0,T22 a0]
   simp only [Option.bind_some]
   rw [S1C .u32 (by decide) a4,S0C .u32 (by decide) a0,chC .u32 (by decide) a4 a5 a6,mjC .u32 (by decide) a0 a1 a2]
   simp only [BU3]
   rw [BY5,BM5]
   rfl)
  v00 h0
theorem Bk1 (rest:List UInt8 × (Int × Unit)) (v h0:List Nat) (hv:Wd 8 v) (hh:Wd 8 h0):
  yH R L (cl h0,rest) (cl v) 0 = some ((cl (wJ (stD v) 8 0 h0),rest),()) ∧ Wd 8 (wJ (stD v) 8 0 h0):=
 yJ (fun (h:List Nat) i=>yH R L (cl h,rest) (cl v) i) (stD v) (fun _ h=>Wd 8 h) 8 (fun h=>some ((cl h,rest),()))
  (fun h _=>by
   have hq:yH R L (cl h,rest) (cl v) (8:Nat) = _:=round (by kernel_rfl) (fF R L (cl h,rest) (cl v) (8:Nat))
   show yH R L (cl h,rest) (cl v) (8:Nat) = _
   rw [hq];rfl)
  (fun h i hi hh=>by
   have hq:yH R L (cl h,rest) (cl v) (i:Nat) = _:=round (by kernel_rfl) (fF R L (cl h,rest) (cl v) (i:Nat))
   refine ⟨?_,BX3 hh⟩
   show yH R L (cl h,rest) (cl v) (i:Nat) = _
   have a:=hh.g i;have b:=hv.g i
   rw [hq,show decide ((i:Int) < 8) = true from decide_eq_true (by omega),zB (by omega)]
   simp only [nn,tn,cond_true,yB (show i < 8 from hi),yG]
   rw [AW0 (k:=.u32) a,BU3,sO (by omega),tI]
   rfl)
  h0 hh
theorem bS (t:List UInt8) {i n:Nat} (h:i < n):(t.take n).getD i 0 = t.getD i 0:=by
 rw [List.getD_eq_getElem?_getD,List.getD_eq_getElem?_getD,List.getElem?_take,if_pos h]
theorem Ap7 {α:Type} {f g:Nat → α → α}:∀ (n i:Nat) (a:α),(∀ j b,i ≤ j → j < i + n → f j b = g j b) → wJ f n i a = wJ g n i a
 | 0,_,_,_=>rfl
 | n + 1,i,a,h=>by
  show wJ f n (i + 1) (f i a) = wJ g n (i + 1) (g i a)
  rw [h i a (Nat.le_refl _) (by omega),Ap7 n (i + 1) _ (fun j b h1 h2=>h j b (by omega) (by omega))]
theorem BD8 (k h:List Nat) (t:List UInt8):A8Y k h (t.take 64) = A8Y k h t:=by
 have e:wJ (stA (t.take 64)) 16 0 (List.replicate 64 0) = wJ (stA t) 16 0 (List.replicate 64 0):=Ap7 16 0 _ fun j b h1 h2=>by
  unfold stA wBE bt
  rw [bS t (by omega),bS t (by omega),bS t (by omega),bS t (by omega)]
 unfold A8Y Bs9
 rw [e]
theorem BX0 (h:List Nat) (rest:List UInt8 × (Int × Unit)) (t:List UInt8) (hh:Wd 8 h) (ht:64 ≤ t.length):
  nC R (cl h,rest) t (cl kT) = some ((cl (A8Y kT h t),rest),()):=by
 have hq:nC R (cl h,rest) t (cl kT) = _:=call (AS6 R L (cl h,rest) t (cl kT))
 obtain ⟨a1,a2⟩:=Bj8 (cl h,rest) t ht (cl kT)
 obtain ⟨b1,b2⟩:=Bl8 (cl h,rest) (cl kT) _ a2
 obtain ⟨c1,c2⟩:=Be9 (cl h,rest) _ h b2 hh
 obtain ⟨d1,d2⟩:=Bk1 rest _ h c2 hh
 exact hq.trans (a1.trans (b1.trans ((Bf1 _ _ _ h hh).trans (c1.trans d1))))
end Go.Rf.S

end
section
namespace Go.Rf.S
set_option maxRecDepth 100000
theorem A9a {k h:List Nat} {t:List UInt8} (hh:Wd 8 h):Wd 8 (A8Y k h t):=by
 have:∀ (v:List Nat) (n i:Nat) (x:List Nat),Wd 8 x → Wd 8 (wJ (stD v) n i x):=by
  intro v n
  induction n with
  | zero=>intro i x hx;exact hx
  | succ n ih=>intro i x hx;exact ih (i + 1) _ (BX3 hx)
 exact this _ _ _ _ hh
theorem BR3 {k:List Nat}:∀ {n:Nat} {h:List Nat} {t:List UInt8},Wd 8 h → t.length < 64 * (n + 1) → Wd 8 (A9J k n h t).1 ∧ (A9J k n h t).2.length = t.length % 64
 | 0,h,t,hh,ht=>⟨hh,by show t.length = _;omega⟩
 | n + 1,h,t,hh,ht=>by
  unfold A9J
  split
  ·rename_i h64
   have:=BR3 (k:=k) (n:=n) (h:=A8Y k h t) (t:=t.drop 64) (A9a hh) (by rw [List.length_drop];omega)
   refine ⟨this.1,this.2.trans ?_⟩
   rw [List.length_drop]
   omega
  ·exact ⟨hh,by show t.length = _;omega⟩
theorem A7M {a b:Nat} (h:a ≤ b):Nat.ble a b = true:=by rw [Nat.ble_eq];exact h
theorem A9H (v4:HS) (m:Int):∀ (n:Nat) (h:List Nat) (t:List UInt8),Wd 8 h → t.length < 64 * (n + 1) →
  qN R L (cl h,(t,(m,()))) v4 = some ((cl (A9J kT n h t).1,((A9J kT n h t).2,(m,()))),()):=by
 have stop:∀ (h:List Nat) (t:List UInt8),t.length < 64 → qN R L (cl h,(t,(m,()))) v4 = some ((cl h,(t,(m,()))),()):=by
  intro h t ht
  have hq:qN R L (cl h,(t,(m,()))) v4 = _:=round (by kernel_rfl) (AW9 R L (cl h,(t,(m,()))) v4)
  rw [hq,decide_eq_false (show ¬ ((64:Int) ≤ ((t.length:Nat):Int)) by omega)]
  rfl
 intro n
 induction n with
 | zero=>intro h t hh ht;exact stop h t (by omega)
 | succ n ih=>
  intro h t hh ht
  unfold A9J
  split
  ·rename_i h64
   have hq:qN R L (cl h,(t,(m,()))) v4 = _:=round (by kernel_rfl) (AW9 R L (cl h,(t,(m,()))) v4)
   rw [hq,decide_eq_true (show (64:Int) ≤ ((t.length:Nat):Int) by omega),(A4n h t hh h64).1]
   simp only [cond_true,Option.bind_some]
   rw [A7M (Nat.le_refl _),show Int.toNat 64 = 64 from rfl,A7M h64,List.take_length]
   exact ih (A8Y kT h t) (t.drop 64) (A9a hh) (by rw [List.length_drop];omega)
  ·rename_i h64
   exact stop h t (by omega)
theorem BD4 (v4:HS) (m:Int) (old:List UInt8):∀ (n:Nat) (h:List Nat) (t:List UInt8),Wd 8 h → t.length < 64 * (n + 1) →
  sM R L t (cl h,(old,(m,()))) v4 (cl kT) = some ((cl (A9J kT n h t).1,((A9J kT n h t).2,(m,()))),()):=by
 have stop:∀ (h:List Nat) (t:List UInt8),t.length < 64 → sM R L t (cl h,(old,(m,()))) v4 (cl kT) = some ((cl h,(t,(m,()))),()):=by
  intro h t ht
  have hq:sM R L t (cl h,(old,(m,()))) v4 (cl kT) = _:=round (by kernel_rfl) (AI0 R L t (cl h,(old,(m,()))) v4 (cl kT))
  rw [hq,decide_eq_false (show ¬ ((64:Int) ≤ ((t.length:Nat):Int)) by omega)]
  rfl
 intro n
 induction n with
 | zero=>intro h t hh ht;exact stop h t (by omega)
 | succ n ih=>
  intro h t hh ht
  unfold A9J
  split
  ·rename_i h64
   have hq:sM R L t (cl h,(old,(m,()))) v4 (cl kT) = _:=round (by kernel_rfl) (AI0 R L t (cl h,(old,(m,()))) v4 (cl kT))
   rw [hq,decide_eq_true (show (64:Int) ≤ ((t.length:Nat):Int) by omega),show Int.toNat 64 = 64 from rfl,A7M h64,List.drop_zero,BX0 h _ (t.take 64) hh (by rw [List.length_take];omega),BD8]
   simp only [cond_true,Option.bind_some]
   rw [A7M (Nat.le_refl _),List.take_length]
   exact ih (A8Y kT h t) (t.drop 64) (A9a hh) (by rw [List.length_drop];omega)
  ·rename_i h64
   exact stop h t (by omega)
def hS (h:List Nat) (r:List UInt8) (m:Nat):HS:=(cl h,(r,((m:Int),())))
def BH9 (h:List Nat) (r t:List UInt8):List Nat × List UInt8:=A9J kT ((r ++ t).length / 64) h (r ++ t)
theorem A4o (n:Nat):n < 64 * (n / 64 + 1):=by omega
theorem Az8 (h:List Nat) (r t:List UInt8) (m:Nat) (hh:Wd 8 h) (hr:r.length ≤ 1024) (ht:t.length ≤ 549755813888) (hm:m ≤ 549755813888):
  lY R (hS h r m) t = some (hS (BH9 h r t).1 (BH9 h r t).2 (m + t.length),()):=by
 have hq:lY R (hS h r m) t = _:=call (A4f R L (hS h r m) t)
 rw [hq]
 unfold hS
 simp only
 rw [vR (by omega),Ar4 (by simp only [sF];omega)]
 simp only [cond_true]
 exact A9H _ _ _ h (r ++ t) hh (A4o _)
theorem BQ0 (h:List Nat) (r t:List UInt8) (m:Nat) (hh:Wd 8 h) (hr:r.length ≤ 1024) (ht:t.length ≤ 549755813888) (hm:m ≤ 549755813888):
  oH R (hS h r m) t = some (hS (BH9 h r t).1 (BH9 h r t).2 (m + t.length),()):=by
 have hq:oH R (hS h r m) t = _:=call (A0R R L (hS h r m) t)
 rw [hq,A4W]
 unfold hS
 simp only [Option.bind_some]
 rw [vR (by omega),Ar4 (by simp only [sF];omega)]
 simp only [cond_true]
 exact BD4 _ _ _ _ h (r ++ t) hh (A4o _)
theorem Av5 {h:List Nat} {r t:List UInt8} (hh:Wd 8 h):Wd 8 (BH9 h r t).1 ∧ (BH9 h r t).2.length = (r ++ t).length % 64:=BR3 hh (A4o _)
theorem Ap5 (l:List Nat):List.map (fun n:Int=>UInt8.ofNat (Int.toNat n)) (cl l) = ub l:=by
 unfold cl ub
 rw [List.map_map]
 rfl
theorem AW8 (a b:List Nat):cl a ++ cl b = cl (a ++ b):=by
 unfold cl;rw [List.map_append]
def A4S (m:Nat):Nat:=(119 - m % 64) % 64
def BG1 (b:Nat):List Nat:=[b / 2 ^ 56 % 256,b / 2 ^ 48 % 256,b / 2 ^ 40 % 256,b / 2 ^ 32 % 256,b / 2 ^ 24 % 256,b / 2 ^ 16 % 256,b / 2 ^ 8 % 256,b / 2 ^ 0 % 256]
def BT6 (m:Nat):List Nat:=128 :: List.replicate (A4S m) 0
def BR8 (m:Nat):List UInt8:=ub (BT6 m ++ BG1 (8 * m))
theorem A6E (m:Nat):(BR8 m).length = A4S m + 9:=by
 unfold BR8 ub BT6 BG1
 rw [List.length_map,List.length_append,List.length_cons,List.length_replicate]
 rfl
def be4 (x:Nat):List Nat:=[x / 2 ^ 24 % 256,x / 2 ^ 16 % 256,x / 2 ^ 8 % 256,x % 256]
theorem BB4 (a b:Nat):Int.tmod (a:Int) (b:Int) = ((a % b:Nat):Int):=rfl
theorem A6e (v1:HS) (v3:Int) (m:Nat) (hv:v1.2.2.1 = (m:Int)) (hm:m ≤ 549755813888):∀ (k j:Nat),j + k = A4S m →
  oE R L v1 v3 (cl (128 :: List.replicate j 0)) = vQ R L v1 v3 (cl (BT6 m)) 7
 | 0,j,hj=>by
  have hq:oE R L v1 v3 (cl (128 :: List.replicate j 0)) = _:=round (by kernel_rfl) (Ac8 R L v1 v3 (cl (128 :: List.replicate j 0)))
  have hp:A4S m = (119 - m % 64) % 64:=rfl
  rw [hq,hv,gM,List.length_cons,List.length_replicate,Ar4 (by simp only [sF];omega),show Int.tmod ((m + (j + 1):Nat):Int) 64 = (((m + (j + 1)) % 64:Nat):Int) from BB4 _ 64,
   show eqI (((m + (j + 1)) % 64:Nat):Int) 56 = true from by rw [vK];exact decide_eq_true (by omega)]
  have:j = A4S m:=by omega
  subst this
  rfl
 | k + 1,j,hj=>by
  have hq:oE R L v1 v3 (cl (128 :: List.replicate j 0)) = _:=round (by kernel_rfl) (Ac8 R L v1 v3 (cl (128 :: List.replicate j 0)))
  have hp:A4S m = (119 - m % 64) % 64:=rfl
  rw [hq,hv,gM,List.length_cons,List.length_replicate,Ar4 (by simp only [sF];omega),show Int.tmod ((m + (j + 1):Nat):Int) 64 = (((m + (j + 1)) % 64:Nat):Int) from BB4 _ 64,
   show eqI (((m + (j + 1)) % 64:Nat):Int) 56 = false from by rw [vK];exact decide_eq_false (by omega)]
  simp only [Bool.not_false,cond_true]
  rw [vR (by simp only [List.length_cons,List.length_nil];omega)]
  simp only [cond_true]
  have e:cl (128 :: List.replicate j 0) ++ [(0:Int)] = cl (128 :: List.replicate (j + 1) 0):=by
   rw [show [(0:Int)] = cl [0] from rfl,AW8,List.replicate_succ',List.cons_append]
  rw [e]
  exact A6e v1 v3 m hv hm k (j + 1) (by omega)
theorem BJ7 (v1:HS) (b:Nat) (hb:b < 9223372036854775808) (p:List Nat) (hp:p.length ≤ 100) (j:Nat) (hj:j < 8):
  vQ R L v1 (b:Int) (cl p) (j:Int) = vQ R L v1 (b:Int) (cl (p ++ [b / 2 ^ (8 * j) % 256])) (IntKind.wrap .i64 ((j:Int) - 1)):=by
 have hq:vQ R L v1 (b:Int) (cl p) (j:Int) = _:=round (by kernel_rfl) (Ad9 R L v1 (b:Int) (cl p) (j:Int))
 have e8:IntKind.wrap .i64 ((8:Int) * (j:Int)) = ((8 * j:Nat):Int):=by rw [zH (by omega) (by omega)];omega
 rw [hq,decide_eq_true (show (0:Int) ≤ (j:Int) by omega),e8,decide_eq_false (show ¬ (((8 * j:Nat):Int) < 0) by omega),tn,show Min.min (8 * j) (IntKind.bits .i64) = 8 * j from Nat.min_eq_left (by simp only [IntKind.bits];omega),jQ,sJ,
  vR (by rw [gM];simp only [List.length_cons,List.length_nil];omega)]
 simp only [cond_true,cond_false]
 rw [show [((b / 2 ^ (8 * j) % 256:Nat):Int)] = cl [b / 2 ^ (8 * j) % 256] from rfl,AW8]
theorem BN7 (v1:HS) (b:Nat) (hb:b < 9223372036854775808) (p:List Nat) (hp:p.length ≤ 100) (j:Nat) (hj:j < 8):
  xX R L v1 (b:Int) (ub p) (j:Int) = xX R L v1 (b:Int) (ub (p ++ [b / 2 ^ (8 * j) % 256])) (IntKind.wrap .i64 ((j:Int) - 1)):=by
 have hq:xX R L v1 (b:Int) (ub p) (j:Int) = _:=round (by kernel_rfl) (AP5 R L v1 (b:Int) (ub p) (j:Int))
 have e8:IntKind.wrap .i64 ((8:Int) * (j:Int)) = ((8 * j:Nat):Int):=by rw [zH (by omega) (by omega)];omega
 have hl:(ub p).length = p.length:=List.length_map _
 rw [hq,decide_eq_true (show (0:Int) ≤ (j:Int) by omega),e8,decide_eq_false (show ¬ (((8 * j:Nat):Int) < 0) by omega),tn,show Min.min (8 * j) (IntKind.bits .i64) = 8 * j from Nat.min_eq_left (by simp only [IntKind.bits];omega),jQ,sJ,
  vR (by rw [hl,List.length_map];simp only [List.length_cons,List.length_nil];omega)]
 simp only [cond_true,cond_false]
 rw [show [((b / 2 ^ (8 * j) % 256:Nat):Int)] = cl [b / 2 ^ (8 * j) % 256] from rfl,Ap5]
 unfold ub
 rw [List.map_append]
theorem BC3 (v1:HS) (b:Nat) (hb:b < 9223372036854775808) (p:List Nat) (hp:p.length ≤ 64):
  vQ R L v1 (b:Int) (cl p) 7 = (lY R v1 (ub (p ++ BG1 b))).bind fun r0=>vM R L r0.1 ([]:List Int) 0:=by
 have st:=fun (q:List Nat) (hq:q.length ≤ 100) (j:Nat) hj=>BJ7 v1 b hb q hq j hj
 have e:vQ R L v1 (b:Int) (cl p) 7 = vQ R L v1 (b:Int) (cl (p ++ BG1 b)) (-1):=by
  have d:∀ j:Nat,j < 8 → IntKind.wrap .i64 (((j + 1:Nat):Int) - 1) = (j:Int):=fun j hj=>A8j (c:=1) (by omega) (by omega)
  have len:∀ (q:List Nat) (x:Nat),(q ++ [x]).length = q.length + 1:=fun q x=>by simp
  show vQ R L v1 (b:Int) (cl p) ((7:Nat):Int) = _
  rw [st p (by omega) 7 (by decide),d 6 (by decide),st _ (by simp only [len];omega) 6 (by decide),d 5 (by decide),st _ (by simp only [len];omega) 5 (by decide),d 4 (by decide),st _ (by simp only [len];omega) 4 (by decide),d 3 (by decide),
   st _ (by simp only [len];omega) 3 (by decide),d 2 (by decide),st _ (by simp only [len];omega) 2 (by decide),d 1 (by decide),st _ (by simp only [len];omega) 1 (by decide),d 0 (by decide),st _ (by simp only [len];omega) 0 (by decide)]
  simp only [List.append_assoc]
  rfl
 have hq:vQ R L v1 (b:Int) (cl (p ++ BG1 b)) (-1) = _:=round (by kernel_rfl) (Ad9 R L v1 (b:Int) (cl (p ++ BG1 b)) (-1))
 rw [e,hq,show decide ((0:Int) ≤ -1) = false from by decide,Ap5]
 rfl
theorem A8t (v1:HS) (b:Nat) (hb:b < 9223372036854775808) (p:List Nat) (hp:p.length ≤ 64):
  xX R L v1 (b:Int) (ub p) 7 = (oH R v1 (ub (p ++ BG1 b))).bind fun r0=>vH R L ([]:List Int) r0.1.1 0:=by
 have st:=fun (q:List Nat) (hq:q.length ≤ 100) (j:Nat) hj=>BN7 v1 b hb q hq j hj
 have e:xX R L v1 (b:Int) (ub p) 7 = xX R L v1 (b:Int) (ub (p ++ BG1 b)) (-1):=by
  have d:∀ j:Nat,j < 8 → IntKind.wrap .i64 (((j + 1:Nat):Int) - 1) = (j:Int):=fun j hj=>A8j (c:=1) (by omega) (by omega)
  have len:∀ (q:List Nat) (x:Nat),(q ++ [x]).length = q.length + 1:=fun q x=>by simp
  show xX R L v1 (b:Int) (ub p) ((7:Nat):Int) = _
  rw [st p (by omega) 7 (by decide),d 6 (by decide),st _ (by simp only [len];omega) 6 (by decide),d 5 (by decide),st _ (by simp only [len];omega) 5 (by decide),d 4 (by decide),st _ (by simp only [len];omega) 4 (by decide),d 3 (by decide),
   st _ (by simp only [len];omega) 3 (by decide),d 2 (by decide),st _ (by simp only [len];omega) 2 (by decide),d 1 (by decide),st _ (by simp only [len];omega) 1 (by decide),d 0 (by decide),st _ (by simp only [len];omega) 0 (by decide)]
  simp only [List.append_assoc]
  rfl
 have hq:xX R L v1 (b:Int) (ub (p ++ BG1 b)) (-1) = _:=round (by kernel_rfl) (AP5 R L v1 (b:Int) (ub (p ++ BG1 b)) (-1))
 rw [e,hq,show decide ((0:Int) ≤ -1) = false from by decide]
 rfl
end Go.Rf.S

end
section
namespace Go.Rf.S
set_option maxRecDepth 100000
def stO (h:List Nat) (i:Nat) (o:List Nat):List Nat:=o ++ be4 (h.getD i 0)
theorem A8N (h:List Nat) (hh:Wd 8 h) (rest:List UInt8 × (Int × Unit)) (o:List Nat) (ho:o.length ≤ 100) (i:Nat) (hi:i < 8):
  tX R L (cl h,rest) (cl o) (i:Int) 3 = vM R L (cl h,rest) (cl (stO h i o)) ((i + 1:Nat):Int):=by
 have st:∀ (q:List Nat),q.length ≤ 200 → ∀ j,j < 4 → tX R L (cl h,rest) (cl q) (i:Int) (j:Nat) = tX R L (cl h,rest) (cl (q ++ [h.getD i 0 / 2 ^ (8 * j) % 256])) (i:Int) (IntKind.wrap .i64 ((j:Int) - 1)):=by
  intro q hq j hj
  have hq':tX R L (cl h,rest) (cl q) (i:Int) (j:Nat) = _:=round (by kernel_rfl) (Ad1 R L (cl h,rest) (cl q) (i:Int) (j:Nat))
  have e8:IntKind.wrap .i64 ((8:Int) * (j:Int)) = ((8 * j:Nat):Int):=by rw [zH (by omega) (by omega)];omega
  rw [hq',decide_eq_true (show (0:Int) ≤ (j:Int) by omega),e8,decide_eq_false (show ¬ (((8 * j:Nat):Int) < 0) by omega)]
  simp only [nn,tn,cond_true,cond_false,yB (show i < 8 from hi),yG]
  rw [show Min.min (8 * j) (IntKind.bits .i64) = 8 * j from Nat.min_eq_left (by simp only [IntKind.bits];omega),jQ,sJ,vR (by rw [gM];simp only [List.length_cons,List.length_nil];omega)]
  simp only [cond_true]
  rw [show [((h.getD i 0 / 2 ^ (8 * j) % 256:Nat):Int)] = cl [h.getD i 0 / 2 ^ (8 * j) % 256] from rfl,AW8]
 have d:∀ j:Nat,j < 8 → IntKind.wrap .i64 (((j + 1:Nat):Int) - 1) = (j:Int):=fun j hj=>A8j (c:=1) (by omega) (by omega)
 have len:∀ (q:List Nat) (x:Nat),(q ++ [x]).length = q.length + 1:=fun q x=>by simp
 have hend:∀ q,tX R L (cl h,rest) q (i:Int) (-1) = vM R L (cl h,rest) q (IntKind.wrap .i64 ((i:Int) + 1)):=fun q=>by
  have hq':tX R L (cl h,rest) q (i:Int) (-1) = _:=round (by kernel_rfl) (Ad1 R L (cl h,rest) q (i:Int) (-1))
  rw [hq'];rfl
 show tX R L (cl h,rest) (cl o) (i:Int) ((3:Nat):Int) = _
 rw [st o (by omega) 3 (by decide),d 2 (by decide),st _ (by simp only [len];omega) 2 (by decide),d 1 (by decide),st _ (by simp only [len];omega) 1 (by decide),d 0 (by decide),st _ (by simp only [len];omega) 0 (by decide),
  show IntKind.wrap .i64 (((0:Nat):Int) - 1) = -1 from by decide,hend,zB (by omega)]
 simp only [List.append_assoc]
 unfold stO be4
 simp only [Nat.mul_zero,Nat.pow_zero,Nat.div_one,List.cons_append,List.nil_append,show 8 * 3 = 24 from rfl,show 8 * 2 = 16 from rfl,show 8 * 1 = 8 from rfl]
theorem BF0 (h:List Nat) (i:Nat) (o:List Nat):(stO h i o).length = o.length + 4:=by
 unfold stO be4;rw [List.length_append];rfl
theorem A5t (h:List Nat) (hh:Wd 8 h) (rest:List UInt8 × (Int × Unit)):
  vM R L (cl h,rest) (cl []) 0 = some (ub (wJ (stO h) 8 0 []),()) ∧ (wJ (stO h) 8 0 []).length = 4 * 8:=
 yJ (fun (o:List Nat) i=>vM R L (cl h,rest) (cl o) i) (stO h) (fun i o=>o.length = 4 * i) 8 (fun o=>some (ub o,()))
  (fun o _=>by
   have hq:vM R L (cl h,rest) (cl o) (8:Nat) = _:=round (by kernel_rfl) (Af6 R L (cl h,rest) (cl o) (8:Nat))
   show vM R L (cl h,rest) (cl o) (8:Nat) = _
   rw [hq,show decide (((8:Nat):Int) < 8) = false from by decide,Ap5];rfl)
  (fun o i hi ho=>by
   have hq:vM R L (cl h,rest) (cl o) (i:Nat) = _:=round (by kernel_rfl) (Af6 R L (cl h,rest) (cl o) (i:Nat))
   refine ⟨?_,by rw [BF0];omega⟩
   show vM R L (cl h,rest) (cl o) (i:Nat) = _
   rw [hq,show decide ((i:Int) < 8) = true from decide_eq_true (by omega)]
   exact A8N h hh rest o (by omega) i hi)
  [] rfl
theorem BI6 (h:List Nat) (hh:Wd 8 h):
  vH R L (cl []) (cl h) 0 = some (ub (wJ (stO h) 8 0 []),()) ∧ (wJ (stO h) 8 0 []).length = 4 * 8:=
 yJ (fun (o:List Nat) i=>vH R L (cl o) (cl h) i) (stO h) (fun i o=>o.length = 4 * i) 8 (fun o=>some (ub o,()))
  (fun o _=>by
   have hq:vH R L (cl o) (cl h) (8:Nat) = _:=round (by kernel_rfl) (AO4 R L (cl o) (cl h) (8:Nat))
   show vH R L (cl o) (cl h) (8:Nat) = _
   rw [hq,show decide (((8:Nat):Int) < 8) = false from by decide,Ap5];rfl)
  (fun o i hi ho=>by
   have hq:vH R L (cl o) (cl h) (i:Nat) = _:=round (by kernel_rfl) (AO4 R L (cl o) (cl h) (i:Nat))
   refine ⟨?_,by rw [BF0];omega⟩
   show vH R L (cl o) (cl h) (i:Nat) = _
   have m24:Min.min (Int.toNat 24) (IntKind.bits .i64) = 24:=rfl
   have m16:Min.min (Int.toNat 16) (IntKind.bits .i64) = 16:=rfl
   have m8:Min.min (Int.toNat 8) (IntKind.bits .i64) = 8:=rfl
   rw [hq,show decide ((i:Int) < 8) = true from decide_eq_true (by omega),zB (by omega)]
   simp only [nn,tn,cond_true,yB (show i < 8 from hi),yG]
   rw [m24,m16,m8,jQ,jQ,jQ,sJ,sJ,sJ,sJ,vR (by rw [gM];simp only [List.length_cons,List.length_nil];omega)]
   simp only [cond_true]
   rw [show [((h.getD i 0 / 2 ^ 24 % 256:Nat):Int),((h.getD i 0 / 2 ^ 16 % 256:Nat):Int),((h.getD i 0 / 2 ^ 8 % 256:Nat):Int),((h.getD i 0 % 256:Nat):Int)] = cl (be4 (h.getD i 0)) from rfl,AW8]
   rfl)
  [] rfl
theorem Aq0:∀ n:Nat,Go.Lib.repeatL [(0:UInt8)] n = ub (List.replicate n 0)
 | 0=>by simp [Go.Lib.repeatL,ub]
 | n + 1=>by
  show [(0:UInt8)] ++ Go.Lib.repeatL [0] n = _
  rw [Aq0 n]
  unfold ub
  rw [List.replicate_succ,List.map_cons]
  rfl
theorem A2e (n:Nat) (hn:n ≤ 64):oP R [0] (n:Int) = some (ub (List.replicate n 0),()):=by
 have e:oP R [0] (n:Int) = Bm7 [⟨.str,[0]⟩,⟨.int .i64,(n:Int)⟩]:=A8O rfl _
 rw [e]
 show cond (decide (0 ≤ (n:Int)) && (Nat.blt 0 ([0]:List UInt8).length && Nat.ble (([0]:List UInt8).length * Int.toNat (n:Int)) 1099511627776)) (some (Go.Lib.repeatL [0] (Int.toNat (n:Int)),())) none = _
 rw [decide_eq_true (show (0:Int) ≤ (n:Int) by omega),tn,show Nat.blt 0 ([0]:List UInt8).length = true from rfl,show Nat.ble (([0]:List UInt8).length * n) 1099511627776 = true from by rw [Nat.ble_eq];simp only [List.length_cons,List.length_nil];omega,Aq0]
 rfl
def Bl4 (h:List Nat) (r:List UInt8) (m:Nat):List UInt8:=ub (wJ (stO (BH9 h r (BR8 m)).1) 8 0 [])
theorem BJ5 (h:List Nat) (r:List UInt8) (m:Nat) (hh:Wd 8 h):(Bl4 h r m).length = 32:=by
 unfold Bl4 ub
 rw [List.length_map,(A5t _ (Av5 (r:=r) (t:=BR8 m) hh).1 ([],((0:Int),()))).2]
theorem A80 (h:List Nat) (r:List UInt8) (m:Nat) (hh:Wd 8 h) (hr:r.length = m % 64) (hm:m ≤ 549755813888):AJ2 R (hS h r m) = some (Bl4 h r m,()):=by
 have hq:AJ2 R (hS h r m) = _:=call (A7q R L (hS h r m))
 have e8:IntKind.wrap .i64 ((8:Int) * (m:Int)) = ((8 * m:Nat):Int):=by rw [zH (by omega) (by omega)];omega
 have hp:A4S m ≤ 63:=by unfold A4S;omega
 have hpl:(BT6 m).length ≤ 64:=by unfold BT6;rw [List.length_cons,List.length_replicate];omega
 have hT:=A6E m
 rw [hq]
 show oE R L (hS h r m) (IntKind.wrap .i64 ((8:Int) * (m:Int))) (cl (128 :: List.replicate 0 0)) = _
 rw [e8,A6e (hS h r m) _ m rfl hm (A4S m) 0 (by omega),BC3 _ _ (by omega) _ hpl]
 show (lY R (hS h r m) (BR8 m)).bind _ = _
 rw [Az8 h r (BR8 m) m hh (by omega) (by omega) hm]
 simp only [Option.bind_some]
 exact (A5t _ (Av5 hh).1 _).1
theorem Bo6 (h:List Nat) (r:List UInt8) (m:Nat) (hh:Wd 8 h) (hr:r.length = m % 64) (hm:m ≤ 549755813888):cJ R (hS h r m) = some (Bl4 h r m,()):=by
 have hq:cJ R (hS h r m) = _:=call (A24 R L (hS h r m))
 have e8:IntKind.wrap .i64 ((8:Int) * (m:Int)) = ((8 * m:Nat):Int):=by rw [zH (by omega) (by omega)];omega
 have hp:A4S m ≤ 63:=by unfold A4S;omega
 have hpl:(BT6 m).length ≤ 64:=by unfold BT6;rw [List.length_cons,List.length_replicate];omega
 have hT:=A6E m
 have en:Int.tmod (IntKind.wrap .i64 ((119:Int) - ((r.length:Nat):Int))) 64 = ((A4S m:Nat):Int):=by
  rw [show (119:Int) - ((r.length:Nat):Int) = ((119 - r.length:Nat):Int) by omega,sO (by omega),show Int.tmod ((119 - r.length:Nat):Int) 64 = (((119 - r.length) % 64:Nat):Int) from BB4 _ 64,hr]
  rfl
 rw [hq]
 show (oP R [0] (Int.tmod (IntKind.wrap .i64 ((119:Int) - ((r.length:Nat):Int))) 64)).bind (fun r0=>cond (yP (1 + r0.1.length)) (xX R L (hS h r m) (IntKind.wrap .i64 ((8:Int) * (m:Int))) ([128] ++ r0.1) 7) none) = _
 rw [en,A2e _ (by omega)]
 simp only [Option.bind_some]
 have hul:(ub (List.replicate (A4S m) 0)).length = A4S m:=by unfold ub;rw [List.length_map,List.length_replicate]
 rw [vR (by omega),e8,show ([128]:List UInt8) ++ ub (List.replicate (A4S m) 0) = ub (BT6 m) from rfl]
 simp only [cond_true]
 rw [A8t _ _ (by omega) _ hpl]
 show (oH R (hS h r m) (BR8 m)).bind _ = _
 rw [BQ0 h r (BR8 m) m hh (by omega) (by omega) hm]
 simp only [Option.bind_some]
 exact (BI6 _ (Av5 hh).1).1
def dig (t:List UInt8):List UInt8:=Bl4 (BH9 hT [] t).1 (BH9 hT [] t).2 t.length
theorem A0H (t:List UInt8):(dig t).length = 32:=BJ5 _ _ _ (Av5 Bg6).1
theorem A0Q (t:List UInt8) (ht:t.length ≤ 549755813888):eC R t = some (dig t,()):=by
 have hq:eC R t = _:=call (A7E R L t)
 have hn:AR7 R = some (hS hT [] 0,()):=call (A4a R L)
 have hw:=Av5 (r:=[]) (t:=t) Bg6
 rw [hq,hn]
 simp only [Option.bind_some]
 rw [BQ0 hT [] t 0 Bg6 (by simp) ht (by decide)]
 simp only [Option.bind_some]
 rw [Nat.zero_add,Bo6 _ _ t.length hw.1 hw.2 ht]
 rfl
theorem A39 (t:List UInt8) (ht:t.length ≤ 549755813888):aA R t = some (dig t,()):=by
 have hq:aA R t = _:=call (A8Z R L t)
 have hn0:AA2 R = _:=call (A5I R L)
 have hn:AA2 R = some (hS hT [] 0,()):=by rw [hn0,BY1];rfl
 have hw:=Av5 (r:=[]) (t:=t) Bg6
 rw [hq,hn]
 simp only [Option.bind_some]
 rw [Az8 hT [] t 0 Bg6 (by simp) ht (by decide)]
 simp only [Option.bind_some]
 rw [Nat.zero_add,A80 _ _ t.length hw.1 hw.2 ht]
 rfl
end Go.Rf.S

end
section
namespace Go.Rf.S
set_option maxRecDepth 100000
theorem Bo5:∀ n:Fin 32,xH .and .u64 (IntKind.wrap .u64 (n.val:Int)) 31 = (n.val:Int):=by decide +kernel
theorem BP6 (x n:Nat) (hx:x < 4294967296) (hn:n < 32):yW R (x:Int) (n:Int) = some (((rl n x:Nat):Int),()):=by
 have hq:yW R (x:Int) (n:Int) = _:=call (kA R L (x:Int) (n:Int))
 have e1:=Bo5 ⟨n,hn⟩
 simp only at e1
 have e2:IntKind.wrap .u64 ((32:Int) - (n:Int)) = ((32 - n:Nat):Int):=by
  rw [show (32:Int) - (n:Int) = ((32 - n:Nat):Int) by omega,AW0 (by simp only [sF];omega)]
 rw [hq,e1,e2,decide_eq_false (show ¬ (((32 - n:Nat):Int) < 0) by omega)]
 simp only [cond_false,tn]
 rw [show Min.min (32 - n) (IntKind.bits .u32) = 32 - n from Nat.min_eq_left (by simp only [IntKind.bits];omega),show Min.min n (IntKind.bits .u32) = n from Nat.min_eq_left (by simp only [IntKind.bits];omega),A7V,Ap3,jQ,
  Ag7 (k:=.u32) (wU _) (mI _ hx)]
 rfl
theorem A5y (x n:Nat) (hx:x < 4294967296) (hn:n < 31):rN R (x:Int) (n:Int) = some (((rl n x:Nat):Int),()):=by
 have hq:rN R (x:Int) (n:Int) = _:=call (A4u R L (x:Int) (n:Int))
 have e2:IntKind.wrap .i64 ((32:Int) - (n:Int)) = ((32 - n:Nat):Int):=by
  rw [zH (by omega) (by omega)];omega
 have hb:x * 2 ^ n < 9223372036854775808:=by
  have h1:2 ^ n ≤ 2 ^ 30:=Nat.pow_le_pow_right (by decide) (by omega)
  have h2:x * 2 ^ n ≤ x * 2 ^ 30:=Nat.mul_le_mul_left _ h1
  omega
 rw [hq,e2,decide_eq_false (show ¬ ((n:Int) < 0) by omega),decide_eq_false (show ¬ (((32 - n:Nat):Int) < 0) by omega)]
 simp only [cond_false,tn]
 rw [show Min.min (32 - n) (IntKind.bits .i64) = 32 - n from Nat.min_eq_left (by simp only [IntKind.bits];omega),show Min.min n (IntKind.bits .i64) = n from Nat.min_eq_left (by simp only [IntKind.bits];omega),A3G (k:=.i64) hb,jQ,
  Ag7 (k:=.i64) hb (Nat.lt_trans (mI _ hx) (by decide)),m32 (Nat.or_lt_two_pow (n:=63) hb (Nat.lt_trans (mI _ hx) (by decide))),BW9 hx]
def qT:List (List Int):=[[16,12],[8,7]]
theorem A8X (a b c d:Nat) (ha:a < 4294967296) (hb:b < 4294967296) (hc:c < 4294967296) (hd:d < 4294967296):
  AA9 R (a:Int) (b:Int) (c:Int) (d:Int) = some ((((qr a b c d).1:Nat):Int),((((qr a b c d).2.1:Nat):Int),((((qr a b c d).2.2.1:Nat):Int),((((qr a b c d).2.2.2:Nat):Int),())))):=by
 have hq:AA9 R (a:Int) (b:Int) (c:Int) (d:Int) = _:=call (A3v R L (a:Int) (b:Int) (c:Int) (d:Int))
 have st:∀ (a b c d i s1 s2:Nat),b < 4294967296 → d < 4294967296 → i < 2 → s1 < 32 → s2 < 32 → (qT.getD i (List.replicate 2 (0:Int))).getD (Int.toNat 0) 0 = (s1:Int) → (qT.getD i (List.replicate 2 (0:Int))).getD (Int.toNat 1) 0 = (s2:Int) →
   tY R L (a:Int) (b:Int) (c:Int) (d:Int) qT (i:Int) =
    tY R L (((a + b) % 4294967296:Nat):Int) ((rl s2 (b ^^^ ((c + rl s1 (d ^^^ ((a + b) % 4294967296))) % 4294967296)):Nat):Int) (((c + rl s1 (d ^^^ ((a + b) % 4294967296))) % 4294967296:Nat):Int) ((rl s1 (d ^^^ ((a + b) % 4294967296)):Nat):Int) qT ((i + 1:Nat):Int):=by
  intro a b c d i s1 s2 hb hd hi h1 h2 e1 e2
  have hq:tY R L (a:Int) (b:Int) (c:Int) (d:Int) qT (i:Int) = _:=round (by kernel_rfl) (AV2 R L (a:Int) (b:Int) (c:Int) (d:Int) qT (i:Int))
  rw [hq,show decide ((i:Int) < 2) = true from decide_eq_true (by omega),zB (by omega)]
  simp only [nn,tn,cond_true,yB (show i < 2 from hi),BU3]
  rw [e1,e2,AD5 (k:=.u32) (by decide) hd (wU _),BP6 _ s1 (xG hd (wU _)) h1]
  simp only [Option.bind_some,BU3]
  rw [AD5 (k:=.u32) (by decide) hb (wU _),BP6 _ s2 (xG hb (wU _)) h2]
  rfl
 rw [hq]
 show tY R L (a:Int) (b:Int) (c:Int) (d:Int) qT ((0:Nat):Int) = _
 rw [st a b c d 0 16 12 hb hd (by decide) (by decide) (by decide) rfl rfl,st _ _ _ _ 1 8 7 (As7 (xG hb (wU _))) (As7 (xG hd (wU _))) (by decide) (by decide) (by decide) rfl rfl]
 have he:∀ (a b c d:Int),tY R L a b c d qT ((1 + 1:Nat):Int) = some (a,(b,(c,(d,())))):=fun a b c d=>by
  have hq:tY R L a b c d qT ((1 + 1:Nat):Int) = _:=round (by kernel_rfl) (AV2 R L a b c d qT ((1 + 1:Nat):Int))
  rw [hq];rfl
 rw [he]
 rfl
def ql (q:Nat × Nat × Nat × Nat):List Nat:=[q.1,q.2.1,q.2.2.1,q.2.2.2]
theorem A1M (a b c d:Nat) (ha:a < 4294967296) (hb:b < 4294967296) (hc:c < 4294967296) (hd:d < 4294967296):
  gH R (a:Int) (b:Int) (c:Int) (d:Int) = some (cl (ql (qr a b c d)),()):=by
 have hq:gH R (a:Int) (b:Int) (c:Int) (d:Int) = _:=call (Au7 R L (a:Int) (b:Int) (c:Int) (d:Int))
 have sm:∀ {x y:Nat},x < 4294967296 → y < 4294967296 → xH .and .i64 (IntKind.wrap .i64 ((x:Int) + (y:Int))) 4294967295 = (((x + y) % 4294967296:Nat):Int):=fun hx hy=>by
  rw [Ar4 (by simp only [sF];omega),m32 (by omega)]
 have L16:∀ {x:Nat},x < 4294967296 → rN R (x:Int) 16 = some (((rl 16 x:Nat):Int),()):=fun {x} h=>A5y x 16 h (by decide)
 have L12:∀ {x:Nat},x < 4294967296 → rN R (x:Int) 12 = some (((rl 12 x:Nat):Int),()):=fun {x} h=>A5y x 12 h (by decide)
 have L8:∀ {x:Nat},x < 4294967296 → rN R (x:Int) 8 = some (((rl 8 x:Nat):Int),()):=fun {x} h=>A5y x 8 h (by decide)
 have L7:∀ {x:Nat},x < 4294967296 → rN R (x:Int) 7 = some (((rl 7 x:Nat):Int),()):=fun {x} h=>A5y x 7 h (by decide)
 have h1:=wU (a + b)
 have hd1:rl 16 (d ^^^ ((a + b) % 4294967296)) < 4294967296:=As7 (xG hd h1)
 have hc1:=wU (c + rl 16 (d ^^^ ((a + b) % 4294967296)))
 rw [hq,sm ha hb,AD5 (k:=.i64) (by decide) hd h1,L16 (xG hd h1)]
 simp only [Option.bind_some]
 rw [sm hc hd1,AD5 (k:=.i64) (by decide) hb hc1,L12 (xG hb hc1)]
 simp only [Option.bind_some]
 have hb1:rl 12 (b ^^^ ((c + rl 16 (d ^^^ ((a + b) % 4294967296))) % 4294967296)) < 4294967296:=As7 (xG hb hc1)
 rw [sm h1 hb1,AD5 (k:=.i64) (by decide) hd1 (wU _),L8 (xG hd1 (wU _))]
 simp only [Option.bind_some]
 rw [sm hc1 (As7 (xG hd1 (wU _))),AD5 (k:=.i64) (by decide) hb1 (wU _),L7 (xG hb1 (wU _))]
 rfl
theorem Bb9 {a b c d:Nat} {y:List Nat} {n:Nat} (h:Wd n y):Wd n (qs a b c d y):=⟨by rw [Bi1];exact h.1,Bn8 h.2⟩
theorem A97 (y:List Nat) (hy:Wd 16 y) (a b c d:Nat) (ha:a < 16) (hb:b < 16) (hc:c < 16) (hd:d < 16):
  gS R (cl y) (a:Int) (b:Int) (c:Int) (d:Int) = some (cl (qs a b c d y),()):=by
 have hq:gS R (cl y) (a:Int) (b:Int) (c:Int) (d:Int) = _:=call (A3c R L (cl y) (a:Int) (b:Int) (c:Int) (d:Int))
 rw [hq]
 simp only [nn,tn,cond_true,yB ha,yB hb,yB hc,yB hd,yG]
 rw [A1M _ _ _ _ (hy.g a) (hy.g b) (hy.g c) (hy.g d)]
 simp only [Option.bind_some,yG,tI]
 rfl
theorem BR4 (k:IntKind) (hk:4294967296 ≤ sF k) (h32:32 ≤ k.bits) (t:List UInt8) (i:Nat):
  xH .or k (xH .or k (xH .or k (IntKind.wrap k (((t.getD i 0).toNat:Nat):Int))
   (IntKind.wrap k (IntKind.wrap k (((t.getD (i + 1) 0).toNat:Nat):Int) * ((2:Int) ^ Min.min (Int.toNat 8) k.bits))))
   (IntKind.wrap k (IntKind.wrap k (((t.getD (i + 2) 0).toNat:Nat):Int) * ((2:Int) ^ Min.min (Int.toNat 16) k.bits))))
   (IntKind.wrap k (IntKind.wrap k (((t.getD (i + 3) 0).toNat:Nat):Int) * ((2:Int) ^ Min.min (Int.toNat 24) k.bits))) = ((wLE t i:Nat):Int):=by
 have h0:=rT t i;have h1:=rT t (i + 1);have h2:=rT t (i + 2);have h3:=rT t (i + 3)
 have m24:Min.min (Int.toNat 24) k.bits = 24:=Nat.min_eq_left (by show 24 ≤ _;omega)
 have m16:Min.min (Int.toNat 16) k.bits = 16:=Nat.min_eq_left (by show 16 ≤ _;omega)
 have m8:Min.min (Int.toNat 8) k.bits = 8:=Nat.min_eq_left (by show 8 ≤ _;omega)
 have hk8:256 ≤ sF k:=Nat.le_trans (by decide) hk
 unfold bt at h0 h1 h2 h3
 rw [m24,m16,m8,A2L hk8,A2L hk8,A2L hk8,A2L hk8,A3G (by omega),A3G (by omega),A3G (by omega),Bd9 hk (by omega) (by omega),Bd9 hk (iC (by omega) (by omega)) (by omega),Bd9 hk (iC (iC (by omega) (by omega)) (by omega)) (by omega)]
 rfl
theorem A0q (t:List UInt8) (i:Nat) (h:i + 3 < t.length) (hi:i < 1099511627776):nV R t (i:Int) = some (((wLE t i:Nat):Int),()):=by
 have hq:nV R t (i:Int) = _:=call (A5E R L t (i:Int))
 have e1:IntKind.wrap .i64 ((i:Int) + 1) = ((i + 1:Nat):Int):=Ao3 1 (by omega)
 have e2:IntKind.wrap .i64 ((i:Int) + 2) = ((i + 2:Nat):Int):=Ao3 2 (by omega)
 have e3:IntKind.wrap .i64 ((i:Int) + 3) = ((i + 3:Nat):Int):=Ao3 3 (by omega)
 rw [hq,e1,e2,e3]
 simp only [nn,tn,yB (show i < t.length by omega),yB (show i + 1 < t.length by omega),yB (show i + 2 < t.length by omega),yB h,cond_true]
 rw [BR4 .i64 (by decide) (by decide)]
theorem Ag3 (t:List UInt8) (h:4 ≤ t.length):lI R t = some (((wLE t 0:Nat):Int),()):=by
 have hq:lI R t = _:=call (Au5 R L t)
 rw [hq]
 simp only [show Int.toNat 0 = 0 from rfl,show Int.toNat 1 = 1 from rfl,show Int.toNat 2 = 2 from rfl,show Int.toNat 3 = 3 from rfl,yB (show 0 < t.length by omega),yB (show 1 < t.length by omega),yB (show 2 < t.length by omega),yB (show 3 < t.length by omega),cond_true]
 rw [show xH .or .u32 _ _ = _ from BR4 .u32 (by decide) (by decide) t 0]
end Go.Rf.S

end
