/- Codes of the program's functions, as a program printed them, and that they are what the program's functions are compiled to.
   No condition: plain facts. -/

import Derived.KernelRfl
import Derived.Test.YtmdnkninbkcmkaaZVPm5
import Derived.Test.YtmdnkninbkcmkaaProg
namespace Pm
set_option linter.unusedSimpArgs false
set_option linter.unusedVariables false
open Go Am
set_option maxRecDepth 100000
abbrev qDv (f:FuncId) (c:AFn) (n:Nat):Prop:=∀ {args:List Value} {h:Heap} {K:Value→Heap→Prop},args.length≤n→pwp Proofs.Try.prog c.body (qAu c.results K) (qDq args) h→qBu Proofs.Try.prog f args h K
def c_RSame01:AFn :=
⟨(O [T 4 false]
 (.seq (O [V 6 0,Ln 7 6,V 8 1,Ln 9 8,B 10 .neq 7 9]
 (.cond (.tmp 10)
 (O [T 4 false]
 .ret)
 .skip))
 (.seq (O [N 5 0]
 (.block 0 (.loop (.seq (O [V 11 5,V 12 0,Ln 13 12,B 14 .lss 11 13]
 (.cond (.tmp 14)
 .skip
 (.exit 0)))
 (.seq (.block 1 (O [V 17 0,V 18 5,X 19 1 17 18,L 20 19,V 21 1,V 22 5,X 23 1 21 22,L 24 23,B 25 .neq 20 24]
 (.cond (.tmp 25)
 (O [T 4 false]
 .ret)
 .skip)))
 (.ops [V 15 5,Bn 16 .add 15 1,V 5 16]))))))
 (O [T 4 true]
 .ret)))),[.tmp 4],26⟩
theorem call_RSame01:qDv 23 c_RSame01 26:=fun hl k=>qBq (fn:=Proofs.Try.f23) (by kernel_rfl) (by kernel_rfl) (by kernel_rfl) (by kernel_rfl) hl k
def c_RHas:AFn :=
⟨(O [T 4 false]
 (O [V 5 1,Bn 6 .geq 5 0,V 7 6,Gd 7 true (V 8 1),Gd 7 true (Bn 9 .lss 8 64),Pk 10 7 9 false,V 11 10,Gd 11 true (V 12 0),Gd 11 true (V 13 1),⟨some 14,some (11,true),.call 52 [(.tmp 13)],[]⟩,Gd 11 true (B 15 .quo 12 14),Gd 11 true (Bk 16 .rem 15 .u64 2),Gd 11 true (Bk 17 .eql 16 .u64 1),Pk 18 11 17 false,V 4 18]
 .ret)),[.tmp 4],19⟩
theorem call_RHas:qDv 20 c_RHas 19:=fun hl k=>qBq (fn:=Proofs.Try.f20) (by kernel_rfl) (by kernel_rfl) (by kernel_rfl) (by kernel_rfl) hl k
end Pm
/- Codes of the program's functions, as a program printed them, and that they are what the program's functions are compiled to.
   No condition: plain facts. -/
namespace Pm
set_option linter.unusedSimpArgs false
set_option linter.unusedVariables false
open Go Am
set_option maxRecDepth 100000
@[irreducible] def qQn:ByteArray:=⟨#[0,1,2,2,3,3,3,3,4,4,4,4,4,4,4,4,5,5,5,5,5,5,5,5,5,5,5,5,5,5,5,5,6,6,6,6,6,6,6,6,6,6,6,6,6,6,6,6,6,6,6,6,6,6,6,6,6,6,6,6,6,6,6,6,7,7,7,7,7,7,7,7,7,7,7,7,7,7,7,7,7,7,7,7,7,7,7,7,7,7,7,7,7,7,7,7,7,7,7,7,7,7,7,7,7,7,7,7,7,7,7,7,7,7,7,7,7,7,7,7,7,7,7,7,7,7,7,7,8,8,8,8,8,8,8,8,8,8,8,8,8,8,8,8,8,8,8,8,8,8,8,8,8,8,8,8,8,8,8,8,8,8,8,8,8,8,8,8,8,8,8,8,8,8,8,8,8,8,8,8,8,8,8,8,8,8,8,8,8,8,8,8,8,8,8,8,8,8,8,8,8,8,8,8,8,8,8,8,8,8,8,8,8,8,8,8,8,8,8,8,8,8,8,8,8,8,8,8,8,8,8,8,8,8,8,8,8,8,8,8,8,8,8,8,8,8,8,8,8,8,8,8,8,8,8,8]⟩
def c_SortI:AFn :=
⟨(O [V 3 0,Ln 4 3,V 2 4]
 (.ops [V 5 0,V 6 2,V 7 2,Cv' 8 .u64 7,⟨some 9,none,.call 85 [(.tmp 8)],[]⟩,⟨some 10,none,.call 84 [(.tmp 5),(.const (.int .i64 0)),(.tmp 6),(.tmp 9)],[]⟩])),[],11⟩
theorem call_SortI:qDv 60 c_SortI 11:=fun hl k=>qBq (fn:=Proofs.Try.f60) (by kernel_rfl) (by kernel_rfl) (by kernel_rfl) (by kernel_rfl) hl k
def c_pdqI:AFn :=
⟨(O [T 8 true]
 (O [T 9 true]
 (.block 0 (.loop (.block 1 (O [V 19 2,V 20 1,B 21 .sub 19 20,V 10 21]
 (.seq (O [V 22 10,Bn 23 .leq 22 12]
 (.cond (.tmp 23)
 (O [V 24 0,V 25 1,V 26 2,⟨some 27,none,.call 94 [(.tmp 24),(.tmp 25),(.tmp 26)],[]⟩]
 .ret)
 .skip))
 (.seq (O [V 28 3,Bn 29 .eql 28 0]
 (.cond (.tmp 29)
 (O [V 30 0,V 31 1,V 32 2,⟨some 33,none,.call 95 [(.tmp 30),(.tmp 31),(.tmp 32)],[]⟩]
 .ret)
 .skip))
 (.seq (O [V 34 8,Nt 35 34]
 (.cond (.tmp 35)
 (O [V 36 0,V 37 1,V 38 2,⟨some 39,none,.call 96 [(.tmp 36),(.tmp 37),(.tmp 38)],[]⟩]
 (.ops [V 40 3,Bn 41 .sub 40 1,V 3 41]))
 .skip))
 (O [V 43 0,V 44 1,V 45 2,⟨some 46,none,.call 97 [(.tmp 43),(.tmp 44),(.tmp 45)],[]⟩,V 42 46,⟨some 47,none,.q (.ext (.tmp 42) 0),[]⟩,⟨some 48,none,.q (.ext (.tmp 42) 1),[]⟩,V 11 47,V 12 48]
 (.seq (O [V 49 12,Bn 50 .eql 49 2]
 (.cond (.tmp 50)
 (O [V 51 0,V 52 1,V 53 2,⟨some 54,none,.call 98 [(.tmp 51),(.tmp 52),(.tmp 53)],[]⟩]
 (O [V 55 2,Bn 56 .sub 55 1,V 57 11,V 58 1,B 59 .sub 57 58,B 60 .sub 56 59,V 11 60]
 (.ops [N 12 1])))
 .skip))
 (.seq (O [V 61 8,V 62 61,Gd 62 true (V 63 9),Pk 64 62 63 false,V 65 64,Gd 65 true (V 66 12),Gd 65 true (Bn 67 .eql 66 1),Pk 68 65 67 false]
 (.cond (.tmp 68)
 (O [V 69 0,V 70 1,V 71 2,⟨some 72,none,.call 99 [(.tmp 69),(.tmp 70),(.tmp 71)],[]⟩]
 (.cond (.tmp 72)
 .ret
 .skip))
 .skip))
 (.seq (O [V 73 1,Bn 74 .gtr 73 0,V 75 74,Gd 75 true (V 76 0),Gd 75 true (V 77 1),Gd 75 true (Bn 78 .sub 77 1),Gd 75 true (X 79 1 76 78),Gd 75 true (L 80 79),Gd 75 true (V 81 0),Gd 75 true (V 82 11),Gd 75 true (X 83 1 81 82),Gd 75 true (L 84 83),⟨some 85,some (75,true),.call 100 [(.tmp 80),(.tmp 84)],[]⟩,Gd 75 true (Nt 86 85),Pk 87 75 86 false]
 (.cond (.tmp 87)
 (O [V 88 0,V 89 1,V 90 2,V 91 11,⟨some 92,none,.call 101 [(.tmp 88),(.tmp 89),(.tmp 90),(.tmp 91)],[]⟩,V 13 92]
 (O [V 93 13,V 1 93]
 (.exit 1)))
 .skip))
 (O [V 95 0,V 96 1,V 97 2,V 98 11,⟨some 99,none,.call 102 [(.tmp 95),(.tmp 96),(.tmp 97),(.tmp 98)],[]⟩,V 94 99,⟨some 100,none,.q (.ext (.tmp 94) 0),[]⟩,⟨some 101,none,.q (.ext (.tmp 94) 1),[]⟩,V 14 100,V 15 101]
 (O [V 102 15,V 9 102]
 (O [V 103 14,V 104 1,B 105 .sub 103 104,V 106 2,V 107 14,B 108 .sub 106 107,V 16 105,V 17 108]
 (O [V 109 10,Bn 110 .quo 109 8,V 18 110]
 (O [V 111 16,V 112 17,B 113 .lss 111 112]
 (.cond (.tmp 113)
 (O [V 114 16,V 115 18,B 116 .geq 114 115,V 8 116]
 (O [V 117 0,V 118 1,V 119 14,V 120 3,⟨some 121,none,.call 84 [(.tmp 117),(.tmp 118),(.tmp 119),(.tmp 120)],[]⟩]
 (.ops [V 122 14,Bn 123 .add 122 1,V 1 123])))
 (O [V 124 17,V 125 18,B 126 .geq 124 125,V 8 126]
 (O [V 127 0,V 128 14,Bn 129 .add 128 1,V 130 2,V 131 3,⟨some 132,none,.call 84 [(.tmp 127),(.tmp 129),(.tmp 130),(.tmp 131)],[]⟩]
 (.ops [V 133 14,V 2 133])))))))))))))))))))))),[],134⟩
theorem call_pdqI:qDv 84 c_pdqI 134:=fun hl k=>qBq (fn:=Proofs.Try.f84) (by kernel_rfl) (by kernel_rfl) (by kernel_rfl) (by kernel_rfl) hl k
def qTh:AFn :=
⟨(O [V 8 1,Bn 9 .add 8 1,V 6 9]
 (.block 0 (.loop (.seq (O [V 10 6,V 11 2,B 12 .lss 10 11]
 (.cond (.tmp 12)
 .skip
 (.exit 0)))
 (.seq (.block 1 (O [V 15 6,V 7 15]
 (.block 2 (.loop (.seq (O [V 16 7,V 17 1,B 18 .gtr 16 17,V 19 18,Gd 19 true (V 20 0),Gd 19 true (V 21 7),Gd 19 true (X 22 1 20 21),Gd 19 true (L 23 22),Gd 19 true (V 24 0),Gd 19 true (V 25 7),Gd 19 true (Bn 26 .sub 25 1),Gd 19 true (X 27 1 24 26),Gd 19 true (L 28 27),⟨some 29,some (19,true),.call 100 [(.tmp 23),(.tmp 28)],[]⟩,Pk 30 19 29 false]
 (.cond (.tmp 30)
 .skip
 (.exit 2)))
 (.seq (.block 3 (.ops [V 33 0,V 34 7,V 35 0,V 36 7,Bn 37 .sub 36 1,V 38 0,V 39 7,Bn 40 .sub 39 1,X 41 1 38 40,L 42 41,V 43 0,V 44 7,X 45 1 43 44,L 46 45,X 47 1 33 34,S 47 42,X 48 1 35 37,S 48 46]))
 (.ops [V 31 7,Bn 32 .sub 31 1,V 7 32])))))))
 (.ops [V 13 6,Bn 14 .add 13 1,V 6 14])))))),[],49⟩
theorem call_insI:qDv 94 qTh 49:=fun hl k=>qBq (fn:=Proofs.Try.f94) (by kernel_rfl) (by kernel_rfl) (by kernel_rfl) (by kernel_rfl) hl k
def c_LessI:AFn :=
⟨(O [T 4 false]
 (O [V 5 0,⟨some 6,none,.call 122 [(.tmp 5)],[]⟩,V 7 6,Gd 7 true (V 8 1),⟨some 9,some (7,true),.call 122 [(.tmp 8)],[]⟩,Gd 7 true (Nt 10 9),Pk 11 7 10 false,V 12 11,Gd 12 false (V 13 0),Gd 12 false (V 14 1),Gd 12 false (B 15 .lss 13 14),⟨some 16,none,.q (.pick (.tmp 12) (.const (.bool true)) (.tmp 15)),[]⟩,V 4 16]
 .ret)),[.tmp 4],17⟩
theorem call_LessI:qDv 100 c_LessI 17:=fun hl k=>qBq (fn:=Proofs.Try.f100) (by kernel_rfl) (by kernel_rfl) (by kernel_rfl) (by kernel_rfl) hl k
def c_isNaNI:AFn :=
⟨(O [T 2 false]
 (O [V 3 0,V 4 0,B 5 .neq 3 4,V 2 5]
 .ret)),[.tmp 2],6⟩
theorem call_isNaNI:qDv 122 c_isNaNI 6:=fun hl k=>qBq (fn:=Proofs.Try.f122) (by kernel_rfl) (by kernel_rfl) (by kernel_rfl) (by kernel_rfl) hl k
def c_LenU:AFn :=
⟨(O [N 2 0]
 (.seq (.cond (.const (.bool false))
 (O [V 3 0,Cv' 4 .u32 3,⟨some 5,none,.call 103 [(.tmp 4)],[]⟩,V 2 5]
 .ret)
 .skip)
 (O [V 6 0,⟨some 7,none,.call 104 [(.tmp 6)],[]⟩,V 2 7]
 .ret))),[.tmp 2],8⟩
theorem call_LenU:qDv 85 c_LenU 8:=fun hl k=>qBq (fn:=Proofs.Try.f85) (by kernel_rfl) (by kernel_rfl) (by kernel_rfl) (by kernel_rfl) hl k
def c_Len64:AFn :=
⟨(O [N 2 0]
 (.seq (O [V 3 0,Bk 4 .geq 3 .u64 4294967296]
 (.cond (.tmp 4)
 (O [V 5 0,Bk 6 .shr 5 .u64 32,V 0 6]
 (.ops [N 2 32]))
 .skip))
 (.seq (O [V 7 0,Bk 8 .geq 7 .u64 65536]
 (.cond (.tmp 8)
 (O [V 9 0,Bk 10 .shr 9 .u64 16,V 0 10]
 (.ops [V 11 2,Bn 12 .add 11 16,V 2 12]))
 .skip))
 (.seq (O [V 13 0,Bk 14 .geq 13 .u64 256]
 (.cond (.tmp 14)
 (O [V 15 0,Bk 16 .shr 15 .u64 8,V 0 16]
 (.ops [V 17 2,Bn 18 .add 17 8,V 2 18]))
 .skip))
 (O [V 19 2,V 20 0,Cv' 21 .u8 20,⟨some 22,none,.q (.idxS (.const (.string qQn)) (.tmp 21)),[]⟩,Cv' 23 .i64 22,B 24 .add 19 23,V 2 24]
 .ret))))),[.tmp 2],25⟩
theorem call_Len64:qDv 104 c_Len64 25:=fun hl k=>qBq (fn:=Proofs.Try.f104) (by kernel_rfl) (by kernel_rfl) (by kernel_rfl) (by kernel_rfl) hl k
def qNc:AFn :=
⟨(O [E 2]
 (.seq (O [V 6 0,Ln 7 6,Bn 8 .lss 7 2]
 (.cond (.tmp 8)
 (O [V 9 0,V 2 9]
 .ret)
 .skip))
 (.seq (O [N 3 1]
 (.block 0 (.loop (.seq (O [V 10 3,V 11 0,Ln 12 11,B 13 .lss 10 12]
 (.cond (.tmp 13)
 .skip
 (.exit 0)))
 (.seq (.block 1 (O [V 16 0,V 17 3,X 18 1 16 17,L 19 18,V 20 0,V 21 3,Bn 22 .sub 21 1,X 23 1 20 22,L 24 23,B 25 .eql 19 24]
 (.cond (.tmp 25)
 (O [V 26 0,V 27 3,⟨some 28,none,.q (.cut 1 (.tmp 26) (some (.tmp 27)) none),[]⟩,V 4 28]
 (.seq (O [N 5 1]
 (.block 2 (.loop (.seq (O [V 29 5,V 30 4,Ln 31 30,B 32 .lss 29 31]
 (.cond (.tmp 32)
 .skip
 (.exit 2)))
 (.seq (.block 3 (O [V 35 4,V 36 5,X 37 1 35 36,L 38 37,V 39 4,V 40 5,Bn 41 .sub 40 1,X 42 1 39 41,L 43 42,B 44 .neq 38 43]
 (.cond (.tmp 44)
 (O [V 45 0,V 46 3,V 47 4,V 48 5,X 49 1 47 48,L 50 49,X 51 1 45 46,S 51 50]
 (.ops [V 52 3,Bn 53 .add 52 1,V 3 53]))
 .skip)))
 (.ops [V 33 5,Bn 34 .add 33 1,V 5 34]))))))
 (O [V 54 0,V 55 3,⟨some 56,none,.q (.cut 1 (.tmp 54) (some (.tmp 55)) none),[]⟩,⟨none,none,.e (.clear [(.int .i64 0)] (.tmp 56)),[]⟩]
 (O [V 57 0,V 58 3,⟨some 59,none,.q (.cut 1 (.tmp 57) none (some (.tmp 58))),[]⟩,V 2 59]
 .ret))))
 .skip)))
 (.ops [V 14 3,Bn 15 .add 14 1,V 3 15]))))))
 (O [V 60 0,V 2 60]
 .ret)))),[.tmp 2],61⟩
theorem call_CompactI:qDv 61 qNc 61:=fun hl k=>qBq (fn:=Proofs.Try.f61) (by kernel_rfl) (by kernel_rfl) (by kernel_rfl) (by kernel_rfl) hl k
def c_Succs:AFn :=
⟨(O [E 2]
 (O [V 7 0,Ln 8 7,⟨some 9,none,.e (.make [(.slice none 0 0)] 1 (.tmp 8) (.tmp 8)),[]⟩,V 3 9]
 (.seq (O [V 10 0,Ln 11 10,N 12 0]
 (.block 0 (.loop (O [B 13 .lss 12 11]
 (.seq (.cond (.tmp 13)
 .skip
 (.exit 0))
 (.seq (.block 1 (O [V 14 12,X 15 4 10 12,LA 16 4 15,⟨some 5,none,.e (.new [(.int .u8 0),(.int .i64 0),(.int .i64 0),(.int .i64 0)] 4),[]⟩,V 4 14,⟨none,none,.e (.store 4 (.tmp 5) (.tmp 16)),[]⟩]
 (O [V 17 4,Bn 18 .add 17 1,⟨some 19,none,.e (.lit [(.int .i64 0)] 1 1 [(0,1,(.tmp 18))]),[]⟩,V 6 19]
 (.seq (O [FA 20 0 5,L 21 20]
 (.block 2 (O [Bk 23 .eql 21 .u8 10,V 22 23]
 (.cond (.tmp 22)
 (.ops [V 24 6,FA 25 1 5,L 26 25,⟨some 27,none,.q (.idxA 1 (.tmp 24) (.const (.int .i64 0))),[]⟩,S 27 26])
 (O [Bk 29 .eql 21 .u8 11,V 28 29]
 (.cond (.tmp 28)
 (.ops [V 30 6,FA 31 2 5,L 32 31,⟨some 33,none,.e (.lit [(.int .i64 0)] 1 1 [(0,1,(.tmp 32))]),[]⟩,Ap 34 1 30 33,V 6 34])
 .skip))))))
 (O [V 35 6,⟨some 36,none,.call 60 [(.tmp 35)],[]⟩]
 (.ops [V 37 3,V 38 4,V 39 6,⟨some 40,none,.call 61 [(.tmp 39)],[]⟩,Z 1 40,X 41 1 37 38,S 41 40]))))))
 (.ops [Bn 42 .add 12 1,V 12 42])))))))
 (O [V 43 3,V 2 43]
 .ret)))),[.tmp 2],44⟩
theorem call_Succs:qDv 32 c_Succs 44:=fun hl k=>qBq (fn:=Proofs.Try.f32) (by kernel_rfl) (by kernel_rfl) (by kernel_rfl) (by kernel_rfl) hl k
end Pm
/- Codes of the program's functions, as a program printed them, and that they are what the program's functions are compiled to.
   No condition: plain facts. -/
namespace Pm
set_option linter.unusedSimpArgs false
set_option linter.unusedVariables false
open Go Am
set_option maxRecDepth 100000
def c_MkIns:AFn :=
⟨(O [⟨some 8,none,.e (.new [(.int .u8 0),(.int .i64 0),(.int .i64 0),(.int .i64 0)] 4),[]⟩]
 (O [⟨some 14,none,.e (.lit [(.int .u8 0),(.int .u8 0),(.int .u8 0),(.int .u8 0),(.int .u8 0),(.int .u8 0),(.int .u8 0),(.int .u8 0),(.int .u8 0),(.int .u8 0),(.int .u8 0),(.int .u8 0),(.int .u8 0),(.int .u8 0),(.int .u8 0),(.int .u8 0),(.int .u8 0),(.int .u8 0),(.int .u8 0),(.int .u8 0),(.int .u8 0),(.int .u8 0),(.int .u8 0),(.int .u8 0),(.int .u8 0),(.int .u8 0),(.int .u8 0),(.int .u8 0),(.int .u8 0),(.int .u8 0),(.int .u8 0),(.int .u8 0),(.int .u8 0),(.int .u8 0),(.int .u8 0),(.int .u8 0)] 1 36 [(0,1,(.const (.int .u8 7))),(1,1,(.const (.int .u8 8))),(2,1,(.const (.int .u8 9))),(3,1,(.const (.int .u8 1))),(4,1,(.const (.int .u8 3))),(5,1,(.const (.int .u8 7))),(6,1,(.const (.int .u8 8))),(7,1,(.const (.int .u8 9))),(8,1,(.const (.int .u8 13))),(9,1,(.const (.int .u8 14))),(10,1,(.const (.int .u8 15))),(11,1,(.const (.int .u8 16))),(12,1,(.const (.int .u8 17))),(13,1,(.const (.int .u8 18))),(14,1,(.const (.int .u8 19))),(15,1,(.const (.int .u8 20))),(16,1,(.const (.int .u8 21))),(17,1,(.const (.int .u8 22))),(18,1,(.const (.int .u8 23))),(19,1,(.const (.int .u8 24))),(20,1,(.const (.int .u8 25))),(21,1,(.const (.int .u8 26))),(22,1,(.const (.int .u8 27))),(23,1,(.const (.int .u8 11))),(24,1,(.const (.int .u8 10))),(25,1,(.const (.int .u8 0))),(26,1,(.const (.int .u8 2))),(27,1,(.const (.int .u8 4))),(28,1,(.const (.int .u8 5))),(29,1,(.const (.int .u8 6))),(30,1,(.const (.int .u8 7))),(31,1,(.const (.int .u8 8))),(32,1,(.const (.int .u8 13))),(33,1,(.const (.int .u8 14))),(34,1,(.const (.int .u8 9))),(35,1,(.const (.int .u8 8)))]),[]⟩,V 9 14]
 (O [V 15 9,V 16 0,Cv' 17 .i64 16,V 18 9,Ln 19 18,B 20 .rem 17 19,X 21 1 15 20,L 22 21,V 10 22]
 (O [V 23 1,Bk 24 .rem 23 .u8 4,Cv' 25 .i64 24,V 11 25]
 (O [V 26 1,Bk 27 .quo 26 .u8 4,Bk 28 .rem 27 .u8 4,Cv' 29 .i64 28,V 12 29]
 (O [V 30 1,Bk 31 .quo 30 .u8 16,Bk 32 .rem 31 .u8 2,Cv' 33 .i64 32,V 13 33]
 (.seq (O [V 34 10]
 (.block 0 (O [Bk 36 .eql 34 .u8 1,V 35 36]
 (.cond (.tmp 35)
 (O [V 37 10,V 38 11,V 39 1,Bk 40 .quo 39 .u8 4,Bk 41 .rem 40 .u8 8,Cv' 42 .i64 41,⟨some 43,none,.q (.build [(.int .u8 0),(.int .i64 0),(.int .i64 0),(.int .i64 0)] [(0,1,(.tmp 37)),(1,1,(.tmp 38)),(2,1,(.tmp 42))]),[]⟩,⟨none,none,.e (.store 4 (.tmp 8) (.tmp 43)),[]⟩]
 .ret)
 (O [Bk 45 .eql 34 .u8 2,V 44 45]
 (.cond (.tmp 44)
 (O [V 46 10,V 47 11,V 48 12,⟨some 49,none,.q (.build [(.int .u8 0),(.int .i64 0),(.int .i64 0),(.int .i64 0)] [(0,1,(.tmp 46)),(1,1,(.tmp 47)),(2,1,(.tmp 48))]),[]⟩,⟨none,none,.e (.store 4 (.tmp 8) (.tmp 49)),[]⟩]
 .ret)
 (.seq (O [Bk 51 .eql 34 .u8 3,V 50 51]
 (.cond (.tmp 50)
 .skip
 (O [Bk 52 .eql 34 .u8 4,V 50 52]
 (.cond (.tmp 50)
 .skip
 (O [Bk 53 .eql 34 .u8 5,V 50 53]
 (.cond (.tmp 50)
 .skip
 (.ops [Bk 54 .eql 34 .u8 6,V 50 54])))))))
 (.cond (.tmp 50)
 (O [V 55 10,V 56 11,V 57 12,V 58 1,Bk 59 .quo 58 .u8 16,Bk 60 .rem 59 .u8 4,Cv' 61 .i64 60,⟨some 62,none,.q (.build [(.int .u8 0),(.int .i64 0),(.int .i64 0),(.int .i64 0)] [(0,1,(.tmp 55)),(1,1,(.tmp 56)),(2,1,(.tmp 57)),(3,1,(.tmp 61))]),[]⟩,⟨none,none,.e (.store 4 (.tmp 8) (.tmp 62)),[]⟩]
 .ret)
 (O [Bk 64 .eql 34 .u8 7,V 63 64]
 (.cond (.tmp 63)
 (O [V 65 10,V 66 11,V 67 13,⟨some 68,none,.q (.build [(.int .u8 0),(.int .i64 0),(.int .i64 0),(.int .i64 0)] [(0,1,(.tmp 65)),(1,1,(.tmp 66)),(2,1,(.tmp 67))]),[]⟩,⟨none,none,.e (.store 4 (.tmp 8) (.tmp 68)),[]⟩]
 .ret)
 (O [Bk 70 .eql 34 .u8 8,V 69 70]
 (.cond (.tmp 69)
 (O [V 71 10,V 72 13,V 73 11,⟨some 74,none,.q (.build [(.int .u8 0),(.int .i64 0),(.int .i64 0),(.int .i64 0)] [(0,1,(.tmp 71)),(1,1,(.tmp 72)),(2,1,(.tmp 73))]),[]⟩,⟨none,none,.e (.store 4 (.tmp 8) (.tmp 74)),[]⟩]
 .ret)
 (O [Bk 76 .eql 34 .u8 9,V 75 76]
 (.cond (.tmp 75)
 (O [V 77 10,V 78 11,⟨some 79,none,.q (.build [(.int .u8 0),(.int .i64 0),(.int .i64 0),(.int .i64 0)] [(0,1,(.tmp 77)),(1,1,(.tmp 78))]),[]⟩,⟨none,none,.e (.store 4 (.tmp 8) (.tmp 79)),[]⟩]
 .ret)
 (O [Bk 81 .eql 34 .u8 10,V 80 81]
 (.cond (.tmp 80)
 (O [V 82 10,V 83 2,Bn 84 .add 83 1,V 85 12,B 86 .add 84 85,V 87 3,⟨some 88,none,.q (.mm false (.tmp 86) [(.tmp 87)]),[]⟩,⟨some 89,none,.q (.build [(.int .u8 0),(.int .i64 0),(.int .i64 0),(.int .i64 0)] [(0,1,(.tmp 82)),(1,1,(.tmp 88))]),[]⟩,⟨none,none,.e (.store 4 (.tmp 8) (.tmp 89)),[]⟩]
 .ret)
 (O [Bk 91 .eql 34 .u8 11,V 90 91]
 (.cond (.tmp 90)
 (.seq (O [V 92 1,Bk 93 .geq 92 .u8 200]
 (.cond (.tmp 93)
 (O [V 94 10,V 95 11,V 96 2,V 97 12,B 98 .sub 96 97,⟨some 99,none,.q (.mm true (.tmp 98) [(.const (.int .i64 0))]),[]⟩,⟨some 100,none,.q (.build [(.int .u8 0),(.int .i64 0),(.int .i64 0),(.int .i64 0)] [(0,1,(.tmp 94)),(1,1,(.tmp 95)),(2,1,(.tmp 99))]),[]⟩,⟨none,none,.e (.store 4 (.tmp 8) (.tmp 100)),[]⟩]
 .ret)
 .skip))
 (O [V 101 10,V 102 11,V 103 2,Bn 104 .add 103 1,V 105 12,B 106 .add 104 105,V 107 3,⟨some 108,none,.q (.mm false (.tmp 106) [(.tmp 107)]),[]⟩,⟨some 109,none,.q (.build [(.int .u8 0),(.int .i64 0),(.int .i64 0),(.int .i64 0)] [(0,1,(.tmp 101)),(1,1,(.tmp 102)),(2,1,(.tmp 108))]),[]⟩,⟨none,none,.e (.store 4 (.tmp 8) (.tmp 109)),[]⟩]
 .ret))
 (O [Bk 111 .eql 34 .u8 18,V 110 111]
 (.cond (.tmp 110)
 (O [V 112 10,V 113 11,⟨some 114,none,.q (.build [(.int .u8 0),(.int .i64 0),(.int .i64 0),(.int .i64 0)] [(0,1,(.tmp 112)),(2,1,(.tmp 113))]),[]⟩,⟨none,none,.e (.store 4 (.tmp 8) (.tmp 114)),[]⟩]
 .ret)
 (O [Bk 116 .eql 34 .u8 19,V 115 116]
 (.cond (.tmp 115)
 (O [V 117 10,V 118 11,V 119 12,⟨some 120,none,.q (.build [(.int .u8 0),(.int .i64 0),(.int .i64 0),(.int .i64 0)] [(0,1,(.tmp 117)),(1,1,(.tmp 118)),(3,1,(.tmp 119))]),[]⟩,⟨none,none,.e (.store 4 (.tmp 8) (.tmp 120)),[]⟩]
 .ret)
 (O [Bk 122 .eql 34 .u8 20,V 121 122]
 (.cond (.tmp 121)
 (O [V 123 10,V 124 11,⟨some 125,none,.q (.build [(.int .u8 0),(.int .i64 0),(.int .i64 0),(.int .i64 0)] [(0,1,(.tmp 123)),(2,1,(.tmp 124))]),[]⟩,⟨none,none,.e (.store 4 (.tmp 8) (.tmp 125)),[]⟩]
 .ret)
 (.seq (O [Bk 127 .eql 34 .u8 17,V 126 127]
 (.cond (.tmp 126)
 .skip
 (O [Bk 128 .eql 34 .u8 21,V 126 128]
 (.cond (.tmp 126)
 .skip
 (.ops [Bk 129 .eql 34 .u8 26,V 126 129])))))
 (.cond (.tmp 126)
 (O [V 130 10,V 131 11,⟨some 132,none,.q (.build [(.int .u8 0),(.int .i64 0),(.int .i64 0),(.int .i64 0)] [(0,1,(.tmp 130)),(1,1,(.tmp 131))]),[]⟩,⟨none,none,.e (.store 4 (.tmp 8) (.tmp 132)),[]⟩]
 .ret)
 (O [Bk 134 .eql 34 .u8 22,V 133 134]
 (.cond (.tmp 133)
 (O [V 135 10,V 136 11,V 137 12,⟨some 138,none,.q (.build [(.int .u8 0),(.int .i64 0),(.int .i64 0),(.int .i64 0)] [(0,1,(.tmp 135)),(1,1,(.tmp 136)),(3,1,(.tmp 137))]),[]⟩,⟨none,none,.e (.store 4 (.tmp 8) (.tmp 138)),[]⟩]
 .ret)
 (O [Bk 140 .eql 34 .u8 24,V 139 140]
 (.cond (.tmp 139)
 (O [V 141 10,V 142 1,Bk 143 .rem 142 .u8 3,Cv' 144 .i64 143,Bn 145 .sub 144 1,⟨some 146,none,.q (.build [(.int .u8 0),(.int .i64 0),(.int .i64 0),(.int .i64 0)] [(0,1,(.tmp 141)),(2,1,(.tmp 145))]),[]⟩,⟨none,none,.e (.store 4 (.tmp 8) (.tmp 146)),[]⟩]
 .ret)
 .skip))))))))))))))))))))))))))))))
 (O [V 147 10,⟨some 148,none,.q (.build [(.int .u8 0),(.int .i64 0),(.int .i64 0),(.int .i64 0)] [(0,1,(.tmp 147))]),[]⟩,⟨none,none,.e (.store 4 (.tmp 8) (.tmp 148)),[]⟩]
 .ret)))))))),[.cells 8 4],149⟩
theorem call_MkIns:qDv 43 c_MkIns 149:=fun hl k=>qBq (fn:=Proofs.Try.f43) (by kernel_rfl) (by kernel_rfl) (by kernel_rfl) (by kernel_rfl) hl k
def c_Make:AFn :=
⟨(O [⟨some 2,none,.e (.new [(.int .i64 0),(.int .i64 0),(.int .i64 0),(.slice none 0 0),(.int .i64 0),(.int .i64 0),(.slice none 0 0)] 7),[]⟩]
 (O [⟨some 12,none,.e (.lit [(.int .i64 0)] 1 1 [(0,1,(.const (.int .i64 1)))]),[]⟩,⟨some 13,none,.q (.build [(.int .i64 0),(.int .i64 0),(.int .i64 0),(.slice none 0 0),(.int .i64 0),(.int .i64 0),(.slice none 0 0)] [(0,1,(.const (.int .i64 2))),(1,1,(.const (.int .i64 1))),(2,1,(.const (.int .i64 1))),(3,1,(.tmp 12)),(4,1,(.const (.int .i64 1))),(5,1,(.const (.int .i64 1)))]),[]⟩,⟨some 3,none,.e (.new [(.int .i64 0),(.int .i64 0),(.int .i64 0),(.slice none 0 0),(.int .i64 0),(.int .i64 0),(.slice none 0 0)] 7),[]⟩,⟨none,none,.e (.store 7 (.tmp 3) (.tmp 13)),[]⟩]
 (O [V 14 0,Ln 15 14,⟨some 16,none,.q (.mm false (.tmp 15) [(.const (.int .i64 3))]),[]⟩,⟨some 17,none,.q (.mm true (.tmp 16) [(.const (.int .i64 1))]),[]⟩,V 4 17]
 (.seq (O [N 5 0]
 (.block 0 (.loop (.seq (O [V 18 5,V 19 4,B 20 .lss 18 19]
 (.cond (.tmp 20)
 .skip
 (.exit 0)))
 (.seq (.block 1 (O [E 6]
 (.seq (O [N 7 1]
 (.block 2 (.loop (.seq (O [V 23 7,V 24 4,B 25 .lss 23 24,V 26 25,Gd 26 true (V 27 5),Gd 26 true (Bn 28 .eql 27 0),Pk 29 26 28 false]
 (.cond (.tmp 29)
 .skip
 (.exit 2)))
 (.seq (.block 3 (.ops [V 32 6,V 33 7,⟨some 34,none,.q (.build [(.int .u8 0),(.int .i64 0),(.int .i64 0),(.int .i64 0)] [(0,1,(.const (.int .u8 12))),(1,1,(.tmp 33))]),[]⟩,⟨some 35,none,.e (.lit [(.int .u8 0),(.int .i64 0),(.int .i64 0),(.int .i64 0)] 4 1 [(0,4,(.tmp 34))]),[]⟩,Ap 36 4 32 35,V 6 36]))
 (.ops [V 30 7,Bn 31 .add 30 1,V 7 31]))))))
 (O [V 37 6,Ln 38 37,V 8 38]
 (O [E 9]
 (.seq (O [V 39 5,V 40 0,Ln 41 40,B 42 .lss 39 41]
 (.cond (.tmp 42)
 (.ops [V 43 0,V 44 5,X 45 1 43 44,L 46 45,V 9 46])
 .skip))
 (O [V 47 9,Ln 48 47,Bn 49 .quo 48 2,⟨some 50,none,.q (.mm false (.tmp 49) [(.const (.int .i64 9))]),[]⟩,V 10 50]
 (.seq (O [N 11 0]
 (.block 4 (.loop (.seq (O [V 51 11,V 52 10,B 53 .lss 51 52]
 (.cond (.tmp 53)
 .skip
 (.exit 4)))
 (.seq (.block 5 (.ops [V 56 6,V 57 9,V 58 11,⟨some 59,none,.q (.bin .mul (.const (.int .i64 2)) (.tmp 58)),[]⟩,X 60 1 57 59,L 61 60,V 62 9,V 63 11,⟨some 64,none,.q (.bin .mul (.const (.int .i64 2)) (.tmp 63)),[]⟩,Bn 65 .add 64 1,X 66 1 62 65,L 67 66,V 68 8,V 69 11,B 70 .add 68 69,V 71 8,V 72 10,B 73 .add 71 72,⟨some 74,none,.call 43 [(.tmp 61),(.tmp 67),(.tmp 70),(.tmp 73)],[]⟩,⟨some 75,none,.e (.lit [(.int .u8 0),(.int .i64 0),(.int .i64 0),(.int .i64 0)] 4 1 [(0,4,(.tmp 74))]),[]⟩,Ap 76 4 56 75,V 6 76]))
 (.ops [V 54 11,Bn 55 .add 54 1,V 11 55]))))))
 (.ops [FA 77 6 3,L 78 77,V 79 6,Z 4 79,⟨some 80,none,.e (.lit [(.slice none 0 0)] 1 1 [(0,1,(.tmp 79))]),[]⟩,Ap 81 1 78 80,FA 82 6 3,S 82 81])))))))))
 (.ops [V 21 5,Bn 22 .add 21 1,V 5 22]))))))
 (O [LA 83 7 3,⟨none,none,.e (.store 7 (.tmp 2) (.tmp 83)),[]⟩]
 .ret))))),[.cells 2 7],84⟩
theorem call_Make:qDv 13 c_Make 84:=fun hl k=>qBq (fn:=Proofs.Try.f13) (by kernel_rfl) (by kernel_rfl) (by kernel_rfl) (by kernel_rfl) hl k
end Pm

/- Codes of the program's functions, as a program printed them, and that they are what the program's functions are compiled to.
   No condition: plain facts. -/
namespace Pm
set_option linter.unusedSimpArgs false
set_option linter.unusedVariables false
open Go Am
set_option maxRecDepth 100000
@[irreducible] def z196:List Value:=[(.string ⟨#[]⟩),(.int .u8 0),(.int .u8 0),(.int .u8 0),(.bool false),(.bool false),(.bool false),(.string ⟨#[]⟩),(.int .u8 0),(.int .u8 0),(.int .u8 0),(.bool false),(.bool false),(.bool false),(.string ⟨#[]⟩),(.int .u8 0),(.int .u8 0),(.int .u8 0),(.bool false),(.bool false),(.bool false),(.string ⟨#[]⟩),(.int .u8 0),(.int .u8 0),(.int .u8 0),(.bool false),(.bool false),(.bool false),(.string ⟨#[]⟩),(.int .u8 0),(.int .u8 0),(.int .u8 0),(.bool false),(.bool false),(.bool false),(.string ⟨#[]⟩),(.int .u8 0),(.int .u8 0),(.int .u8 0),(.bool false),(.bool false),(.bool false),(.string ⟨#[]⟩),(.int .u8 0),(.int .u8 0),(.int .u8 0),(.bool false),(.bool false),(.bool false),(.string ⟨#[]⟩),(.int .u8 0),(.int .u8 0),(.int .u8 0),(.bool false),(.bool false),(.bool false),(.string ⟨#[]⟩),(.int .u8 0),(.int .u8 0),(.int .u8 0),(.bool false),(.bool false),(.bool false),(.string ⟨#[]⟩),(.int .u8 0),(.int .u8 0),(.int .u8 0),(.bool false),(.bool false),(.bool false),(.string ⟨#[]⟩),(.int .u8 0),(.int .u8 0),(.int .u8 0),(.bool false),(.bool false),(.bool false),(.string ⟨#[]⟩),(.int .u8 0),(.int .u8 0),(.int .u8 0),(.bool false),(.bool false),(.bool false),(.string ⟨#[]⟩),(.int .u8 0),(.int .u8 0),(.int .u8 0),(.bool false),(.bool false),(.bool false),(.string ⟨#[]⟩),(.int .u8 0),(.int .u8 0),(.int .u8 0),(.bool false),(.bool false),(.bool false),(.string ⟨#[]⟩),(.int .u8 0),(.int .u8 0),(.int .u8 0),(.bool false),(.bool false),(.bool false),(.string ⟨#[]⟩),(.int .u8 0),(.int .u8 0),(.int .u8 0),(.bool false),(.bool false),(.bool false),(.string ⟨#[]⟩),(.int .u8 0),(.int .u8 0),(.int .u8 0),(.bool false),(.bool false),(.bool false),(.string ⟨#[]⟩),(.int .u8 0),(.int .u8 0),(.int .u8 0),(.bool false),(.bool false),(.bool false),(.string ⟨#[]⟩),(.int .u8 0),(.int .u8 0),(.int .u8 0),(.bool false),(.bool false),(.bool false),(.string ⟨#[]⟩),(.int .u8 0),(.int .u8 0),(.int .u8 0),(.bool false),(.bool false),(.bool false),(.string ⟨#[]⟩),(.int .u8 0),(.int .u8 0),(.int .u8 0),(.bool false),(.bool false),(.bool false),(.string ⟨#[]⟩),(.int .u8 0),(.int .u8 0),(.int .u8 0),(.bool false),(.bool false),(.bool false),(.string ⟨#[]⟩),(.int .u8 0),(.int .u8 0),(.int .u8 0),(.bool false),(.bool false),(.bool false),(.string ⟨#[]⟩),(.int .u8 0),(.int .u8 0),(.int .u8 0),(.bool false),(.bool false),(.bool false),(.string ⟨#[]⟩),(.int .u8 0),(.int .u8 0),(.int .u8 0),(.bool false),(.bool false),(.bool false),(.string ⟨#[]⟩),(.int .u8 0),(.int .u8 0),(.int .u8 0),(.bool false),(.bool false),(.bool false),(.string ⟨#[]⟩),(.int .u8 0),(.int .u8 0),(.int .u8 0),(.bool false),(.bool false),(.bool false),(.string ⟨#[]⟩),(.int .u8 0),(.int .u8 0),(.int .u8 0),(.bool false),(.bool false),(.bool false)]
def c_shapes:AFn :=
⟨(O [⟨some 0,none,.e (.new [(.string ⟨#[]⟩),(.int .u8 0),(.int .u8 0),(.int .u8 0),(.bool false),(.bool false),(.bool false),(.string ⟨#[]⟩),(.int .u8 0),(.int .u8 0),(.int .u8 0),(.bool false),(.bool false),(.bool false),(.string ⟨#[]⟩),(.int .u8 0),(.int .u8 0),(.int .u8 0),(.bool false),(.bool false),(.bool false),(.string ⟨#[]⟩),(.int .u8 0),(.int .u8 0),(.int .u8 0),(.bool false),(.bool false),(.bool false),(.string ⟨#[]⟩),(.int .u8 0),(.int .u8 0),(.int .u8 0),(.bool false),(.bool false),(.bool false),(.string ⟨#[]⟩),(.int .u8 0),(.int .u8 0),(.int .u8 0),(.bool false),(.bool false),(.bool false),(.string ⟨#[]⟩),(.int .u8 0),(.int .u8 0),(.int .u8 0),(.bool false),(.bool false),(.bool false),(.string ⟨#[]⟩),(.int .u8 0),(.int .u8 0),(.int .u8 0),(.bool false),(.bool false),(.bool false),(.string ⟨#[]⟩),(.int .u8 0),(.int .u8 0),(.int .u8 0),(.bool false),(.bool false),(.bool false),(.string ⟨#[]⟩),(.int .u8 0),(.int .u8 0),(.int .u8 0),(.bool false),(.bool false),(.bool false),(.string ⟨#[]⟩),(.int .u8 0),(.int .u8 0),(.int .u8 0),(.bool false),(.bool false),(.bool false),(.string ⟨#[]⟩),(.int .u8 0),(.int .u8 0),(.int .u8 0),(.bool false),(.bool false),(.bool false),(.string ⟨#[]⟩),(.int .u8 0),(.int .u8 0),(.int .u8 0),(.bool false),(.bool false),(.bool false),(.string ⟨#[]⟩),(.int .u8 0),(.int .u8 0),(.int .u8 0),(.bool false),(.bool false),(.bool false),(.string ⟨#[]⟩),(.int .u8 0),(.int .u8 0),(.int .u8 0),(.bool false),(.bool false),(.bool false),(.string ⟨#[]⟩),(.int .u8 0),(.int .u8 0),(.int .u8 0),(.bool false),(.bool false),(.bool false),(.string ⟨#[]⟩),(.int .u8 0),(.int .u8 0),(.int .u8 0),(.bool false),(.bool false),(.bool false),(.string ⟨#[]⟩),(.int .u8 0),(.int .u8 0),(.int .u8 0),(.bool false),(.bool false),(.bool false),(.string ⟨#[]⟩),(.int .u8 0),(.int .u8 0),(.int .u8 0),(.bool false),(.bool false),(.bool false),(.string ⟨#[]⟩),(.int .u8 0),(.int .u8 0),(.int .u8 0),(.bool false),(.bool false),(.bool false),(.string ⟨#[]⟩),(.int .u8 0),(.int .u8 0),(.int .u8 0),(.bool false),(.bool false),(.bool false),(.string ⟨#[]⟩),(.int .u8 0),(.int .u8 0),(.int .u8 0),(.bool false),(.bool false),(.bool false),(.string ⟨#[]⟩),(.int .u8 0),(.int .u8 0),(.int .u8 0),(.bool false),(.bool false),(.bool false),(.string ⟨#[]⟩),(.int .u8 0),(.int .u8 0),(.int .u8 0),(.bool false),(.bool false),(.bool false),(.string ⟨#[]⟩),(.int .u8 0),(.int .u8 0),(.int .u8 0),(.bool false),(.bool false),(.bool false),(.string ⟨#[]⟩),(.int .u8 0),(.int .u8 0),(.int .u8 0),(.bool false),(.bool false),(.bool false),(.string ⟨#[]⟩),(.int .u8 0),(.int .u8 0),(.int .u8 0),(.bool false),(.bool false),(.bool false),(.string ⟨#[]⟩),(.int .u8 0),(.int .u8 0),(.int .u8 0),(.bool false),(.bool false),(.bool false)] 7),[]⟩]
 (O [⟨some 1,none,.q (.val (.func 127)),[]⟩]
 (O [⟨some 2,none,.q (.val (.func 128)),[]⟩]
 (O [⟨some 3,none,.q (.build [(.string ⟨#[]⟩),(.int .u8 0),(.int .u8 0),(.int .u8 0),(.bool false),(.bool false),(.bool false)] [(0,1,(.const (.string ⟨#[110,111,112]⟩))),(4,1,(.const (.bool true)))]),[]⟩,⟨some 4,none,.q (.build [(.int .u8 0),(.int .u8 0),(.int .u8 0)] [(0,1,(.const (.int .u8 2))),(1,1,(.const (.int .u8 1)))]),[]⟩,⟨some 5,none,.q (.build [(.string ⟨#[]⟩),(.int .u8 0),(.int .u8 0),(.int .u8 0),(.bool false),(.bool false),(.bool false)] [(0,1,(.const (.string ⟨#[99,111,110,115,116]⟩))),(1,3,(.tmp 4)),(4,1,(.const (.bool true)))]),[]⟩,⟨some 6,none,.q (.build [(.int .u8 0),(.int .u8 0),(.int .u8 0)] [(0,1,(.const (.int .u8 2))),(1,1,(.const (.int .u8 3)))]),[]⟩,⟨some 7,none,.q (.build [(.string ⟨#[]⟩),(.int .u8 0),(.int .u8 0),(.int .u8 0),(.bool false),(.bool false),(.bool false)] [(0,1,(.const (.string ⟨#[109,111,118,101]⟩))),(1,3,(.tmp 6)),(4,1,(.const (.bool true)))]),[]⟩,V 8 1,⟨some 9,none,.callv (.tmp 8) [(.const (.string ⟨#[97,100,100]⟩))],[]⟩,V 10 1,⟨some 11,none,.callv (.tmp 10) [(.const (.string ⟨#[115,117,98]⟩))],[]⟩,V 12 1,⟨some 13,none,.callv (.tmp 12) [(.const (.string ⟨#[109,117,108]⟩))],[]⟩,V 14 1,⟨some 15,none,.callv (.tmp 14) [(.const (.string ⟨#[108,101,115,115]⟩))],[]⟩,⟨some 16,none,.q (.build [(.int .u8 0),(.int .u8 0),(.int .u8 0)] [(0,1,(.const (.int .u8 2))),(1,1,(.const (.int .u8 4)))]),[]⟩,⟨some 17,none,.q (.build [(.string ⟨#[]⟩),(.int .u8 0),(.int .u8 0),(.int .u8 0),(.bool false),(.bool false),(.bool false)] [(0,1,(.const (.string ⟨#[108,111,97,100]⟩))),(1,3,(.tmp 16)),(4,1,(.const (.bool true)))]),[]⟩,⟨some 18,none,.q (.build [(.int .u8 0),(.int .u8 0),(.int .u8 0)] [(0,1,(.const (.int .u8 4))),(1,1,(.const (.int .u8 3)))]),[]⟩,⟨some 19,none,.q (.build [(.string ⟨#[]⟩),(.int .u8 0),(.int .u8 0),(.int .u8 0),(.bool false),(.bool false),(.bool false)] [(0,1,(.const (.string ⟨#[115,116,111,114,101]⟩))),(1,3,(.tmp 18)),(4,1,(.const (.bool true)))]),[]⟩,V 20 2,⟨some 21,none,.callv (.tmp 20) [(.const (.string ⟨#[112,114,105,110,116]⟩)),(.const (.int .u8 3)),(.const (.bool false)),(.const (.bool false))],[]⟩,V 22 2,⟨some 23,none,.callv (.tmp 22) [(.const (.string ⟨#[106,117,109,112]⟩)),(.const (.int .u8 5)),(.const (.bool false)),(.const (.bool false))],[]⟩,⟨some 24,none,.q (.build [(.int .u8 0),(.int .u8 0),(.int .u8 0)] [(0,1,(.const (.int .u8 3))),(1,1,(.const (.int .u8 5)))]),[]⟩,⟨some 25,none,.q (.build [(.string ⟨#[]⟩),(.int .u8 0),(.int .u8 0),(.int .u8 0),(.bool false),(.bool false),(.bool false)] [(0,1,(.const (.string ⟨#[122,101,114,111]⟩))),(1,3,(.tmp 24))]),[]⟩,V 26 2,⟨some 27,none,.callv (.tmp 26) [(.const (.string ⟨#[103,111]⟩)),(.const (.int .u8 6)),(.const (.bool false)),(.const (.bool true))],[]⟩,V 28 2,⟨some 29,none,.callv (.tmp 28) [(.const (.string ⟨#[108,111,99,107]⟩)),(.const (.int .u8 7)),(.const (.bool true)),(.const (.bool false))],[]⟩,V 30 2,⟨some 31,none,.callv (.tmp 30) [(.const (.string ⟨#[117,110,108,111,99,107]⟩)),(.const (.int .u8 7)),(.const (.bool false)),(.const (.bool true))],[]⟩,V 32 2,⟨some 33,none,.callv (.tmp 32) [(.const (.string ⟨#[114,108,111,99,107]⟩)),(.const (.int .u8 7)),(.const (.bool true)),(.const (.bool false))],[]⟩,V 34 2,⟨some 35,none,.callv (.tmp 34) [(.const (.string ⟨#[114,117,110,108,111,99,107]⟩)),(.const (.int .u8 7)),(.const (.bool false)),(.const (.bool true))],[]⟩,⟨some 36,none,.q (.build [(.int .u8 0),(.int .u8 0),(.int .u8 0)] [(0,1,(.const (.int .u8 2))),(1,1,(.const (.int .u8 8)))]),[]⟩,⟨some 37,none,.q (.build [(.string ⟨#[]⟩),(.int .u8 0),(.int .u8 0),(.int .u8 0),(.bool false),(.bool false),(.bool false)] [(0,1,(.const (.string ⟨#[114,101,97,100]⟩))),(1,3,(.tmp 36)),(5,1,(.const (.bool true)))]),[]⟩,⟨some 38,none,.q (.build [(.int .u8 0),(.int .u8 0),(.int .u8 0)] [(0,1,(.const (.int .u8 8))),(1,1,(.const (.int .u8 3)))]),[]⟩,⟨some 39,none,.q (.build [(.string ⟨#[]⟩),(.int .u8 0),(.int .u8 0),(.int .u8 0),(.bool false),(.bool false),(.bool false)] [(0,1,(.const (.string ⟨#[119,114,105,116,101]⟩))),(1,3,(.tmp 38)),(6,1,(.const (.bool true)))]),[]⟩,⟨some 40,none,.q (.build [(.int .u8 0),(.int .u8 0),(.int .u8 0)] [(0,1,(.const (.int .u8 2))),(1,1,(.const (.int .u8 8))),(2,1,(.const (.int .u8 3)))]),[]⟩,⟨some 41,none,.q (.build [(.string ⟨#[]⟩),(.int .u8 0),(.int .u8 0),(.int .u8 0),(.bool false),(.bool false),(.bool false)] [(0,1,(.const (.string ⟨#[98,117,109,112]⟩))),(1,3,(.tmp 40)),(5,1,(.const (.bool true))),(6,1,(.const (.bool true)))]),[]⟩,⟨some 42,none,.q (.build [(.int .u8 0),(.int .u8 0),(.int .u8 0)] [(0,1,(.const (.int .u8 9))),(1,1,(.const (.int .u8 3)))]),[]⟩,⟨some 43,none,.q (.build [(.string ⟨#[]⟩),(.int .u8 0),(.int .u8 0),(.int .u8 0),(.bool false),(.bool false),(.bool false)] [(0,1,(.const (.string ⟨#[115,101,110,100]⟩))),(1,3,(.tmp 42)),(5,1,(.const (.bool true))),(6,1,(.const (.bool true)))]),[]⟩,⟨some 44,none,.q (.build [(.int .u8 0),(.int .u8 0),(.int .u8 0)] [(0,1,(.const (.int .u8 2))),(1,1,(.const (.int .u8 9)))]),[]⟩,⟨some 45,none,.q (.build [(.string ⟨#[]⟩),(.int .u8 0),(.int .u8 0),(.int .u8 0),(.bool false),(.bool false),(.bool false)] [(0,1,(.const (.string ⟨#[114,101,99,118]⟩))),(1,3,(.tmp 44)),(5,1,(.const (.bool true))),(6,1,(.const (.bool true)))]),[]⟩,⟨some 46,none,.q (.build [(.int .u8 0),(.int .u8 0),(.int .u8 0)] [(0,1,(.const (.int .u8 2))),(1,1,(.const (.int .u8 9))),(2,1,(.const (.int .u8 2)))]),[]⟩,⟨some 47,none,.q (.build [(.string ⟨#[]⟩),(.int .u8 0),(.int .u8 0),(.int .u8 0),(.bool false),(.bool false),(.bool false)] [(0,1,(.const (.string ⟨#[112,111,108,108]⟩))),(1,3,(.tmp 46)),(5,1,(.const (.bool true))),(6,1,(.const (.bool true)))]),[]⟩,V 48 2,⟨some 49,none,.callv (.tmp 48) [(.const (.string ⟨#[99,108,111,115,101]⟩)),(.const (.int .u8 9)),(.const (.bool false)),(.const (.bool true))],[]⟩,⟨some 50,none,.q (.build [(.int .u8 0),(.int .u8 0),(.int .u8 0)] [(0,1,(.const (.int .u8 10))),(1,1,(.const (.int .u8 1)))]),[]⟩,⟨some 51,none,.q (.build [(.string ⟨#[]⟩),(.int .u8 0),(.int .u8 0),(.int .u8 0),(.bool false),(.bool false),(.bool false)] [(0,1,(.const (.string ⟨#[103,114,111,119]⟩))),(1,3,(.tmp 50)),(6,1,(.const (.bool true)))]),[]⟩,V 52 2,⟨some 53,none,.callv (.tmp 52) [(.const (.string ⟨#[119,97,105,116]⟩)),(.const (.int .u8 10)),(.const (.bool true)),(.const (.bool false))],[]⟩,⟨some 54,none,.q (.build [(.int .u8 0),(.int .u8 0),(.int .u8 0)] [(0,1,(.const (.int .u8 2))),(1,1,(.const (.int .u8 11)))]),[]⟩,⟨some 55,none,.q (.build [(.string ⟨#[]⟩),(.int .u8 0),(.int .u8 0),(.int .u8 0),(.bool false),(.bool false),(.bool false)] [(0,1,(.const (.string ⟨#[98,101,103,105,110]⟩))),(1,3,(.tmp 54)),(5,1,(.const (.bool true)))]),[]⟩,V 56 2,⟨some 57,none,.callv (.tmp 56) [(.const (.string ⟨#[101,110,100]⟩)),(.const (.int .u8 11)),(.const (.bool false)),(.const (.bool true))],[]⟩,⟨some 58,none,.q (.build [(.string ⟨#[]⟩),(.int .u8 0),(.int .u8 0),(.int .u8 0),(.bool false),(.bool false),(.bool false),(.string ⟨#[]⟩),(.int .u8 0),(.int .u8 0),(.int .u8 0),(.bool false),(.bool false),(.bool false),(.string ⟨#[]⟩),(.int .u8 0),(.int .u8 0),(.int .u8 0),(.bool false),(.bool false),(.bool false),(.string ⟨#[]⟩),(.int .u8 0),(.int .u8 0),(.int .u8 0),(.bool false),(.bool false),(.bool false),(.string ⟨#[]⟩),(.int .u8 0),(.int .u8 0),(.int .u8 0),(.bool false),(.bool false),(.bool false),(.string ⟨#[]⟩),(.int .u8 0),(.int .u8 0),(.int .u8 0),(.bool false),(.bool false),(.bool false),(.string ⟨#[]⟩),(.int .u8 0),(.int .u8 0),(.int .u8 0),(.bool false),(.bool false),(.bool false),(.string ⟨#[]⟩),(.int .u8 0),(.int .u8 0),(.int .u8 0),(.bool false),(.bool false),(.bool false),(.string ⟨#[]⟩),(.int .u8 0),(.int .u8 0),(.int .u8 0),(.bool false),(.bool false),(.bool false),(.string ⟨#[]⟩),(.int .u8 0),(.int .u8 0),(.int .u8 0),(.bool false),(.bool false),(.bool false),(.string ⟨#[]⟩),(.int .u8 0),(.int .u8 0),(.int .u8 0),(.bool false),(.bool false),(.bool false),(.string ⟨#[]⟩),(.int .u8 0),(.int .u8 0),(.int .u8 0),(.bool false),(.bool false),(.bool false),(.string ⟨#[]⟩),(.int .u8 0),(.int .u8 0),(.int .u8 0),(.bool false),(.bool false),(.bool false),(.string ⟨#[]⟩),(.int .u8 0),(.int .u8 0),(.int .u8 0),(.bool false),(.bool false),(.bool false),(.string ⟨#[]⟩),(.int .u8 0),(.int .u8 0),(.int .u8 0),(.bool false),(.bool false),(.bool false),(.string ⟨#[]⟩),(.int .u8 0),(.int .u8 0),(.int .u8 0),(.bool false),(.bool false),(.bool false),(.string ⟨#[]⟩),(.int .u8 0),(.int .u8 0),(.int .u8 0),(.bool false),(.bool false),(.bool false),(.string ⟨#[]⟩),(.int .u8 0),(.int .u8 0),(.int .u8 0),(.bool false),(.bool false),(.bool false),(.string ⟨#[]⟩),(.int .u8 0),(.int .u8 0),(.int .u8 0),(.bool false),(.bool false),(.bool false),(.string ⟨#[]⟩),(.int .u8 0),(.int .u8 0),(.int .u8 0),(.bool false),(.bool false),(.bool false),(.string ⟨#[]⟩),(.int .u8 0),(.int .u8 0),(.int .u8 0),(.bool false),(.bool false),(.bool false),(.string ⟨#[]⟩),(.int .u8 0),(.int .u8 0),(.int .u8 0),(.bool false),(.bool false),(.bool false),(.string ⟨#[]⟩),(.int .u8 0),(.int .u8 0),(.int .u8 0),(.bool false),(.bool false),(.bool false),(.string ⟨#[]⟩),(.int .u8 0),(.int .u8 0),(.int .u8 0),(.bool false),(.bool false),(.bool false),(.string ⟨#[]⟩),(.int .u8 0),(.int .u8 0),(.int .u8 0),(.bool false),(.bool false),(.bool false),(.string ⟨#[]⟩),(.int .u8 0),(.int .u8 0),(.int .u8 0),(.bool false),(.bool false),(.bool false),(.string ⟨#[]⟩),(.int .u8 0),(.int .u8 0),(.int .u8 0),(.bool false),(.bool false),(.bool false),(.string ⟨#[]⟩),(.int .u8 0),(.int .u8 0),(.int .u8 0),(.bool false),(.bool false),(.bool false)] [(0,7,(.tmp 3)),(7,7,(.tmp 5)),(14,7,(.tmp 7)),(21,7,(.tmp 9)),(28,7,(.tmp 11)),(35,7,(.tmp 13)),(42,7,(.tmp 15)),(49,7,(.tmp 17)),(56,7,(.tmp 19)),(63,7,(.tmp 21)),(70,7,(.tmp 23)),(77,7,(.tmp 25)),(84,7,(.tmp 27)),(91,7,(.tmp 29)),(98,7,(.tmp 31)),(105,7,(.tmp 33)),(112,7,(.tmp 35)),(119,7,(.tmp 37)),(126,7,(.tmp 39)),(133,7,(.tmp 41)),(140,7,(.tmp 43)),(147,7,(.tmp 45)),(154,7,(.tmp 47)),(161,7,(.tmp 49)),(168,7,(.tmp 51)),(175,7,(.tmp 53)),(182,7,(.tmp 55)),(189,7,(.tmp 57))]),[]⟩,⟨none,none,.e (.store 196 (.tmp 0) (.tmp 58)),[]⟩]
 .ret)))),[.cells 0 196],59⟩
theorem c_shapes_is:qDp Proofs.Try.prog Proofs.Try.f123=some (qCw c_shapes):=by kernel_rfl
def c_shapes1:AFn :=
⟨(O [⟨some 2,none,.e (.new [(.string ⟨#[]⟩),(.int .u8 0),(.int .u8 0),(.int .u8 0),(.bool false),(.bool false),(.bool false)] 7),[]⟩]
 (O [V 3 0,⟨some 4,none,.q (.build [(.int .u8 0),(.int .u8 0),(.int .u8 0)] [(0,1,(.const (.int .u8 2))),(1,1,(.const (.int .u8 3))),(2,1,(.const (.int .u8 3)))]),[]⟩,⟨some 5,none,.q (.build [(.string ⟨#[]⟩),(.int .u8 0),(.int .u8 0),(.int .u8 0),(.bool false),(.bool false),(.bool false)] [(0,1,(.tmp 3)),(1,3,(.tmp 4)),(4,1,(.const (.bool true))),(5,1,(.const (.bool false))),(6,1,(.const (.bool false)))]),[]⟩,⟨none,none,.e (.store 7 (.tmp 2) (.tmp 5)),[]⟩]
 .ret)),[.cells 2 7],6⟩
theorem c_shapes1_is:qDp Proofs.Try.prog Proofs.Try.f127=some (qCw c_shapes1):=by kernel_rfl
def c_shapes2:AFn :=
⟨(O [⟨some 8,none,.e (.new [(.string ⟨#[]⟩),(.int .u8 0),(.int .u8 0),(.int .u8 0),(.bool false),(.bool false),(.bool false)] 7),[]⟩]
 (O [V 9 0,V 10 1,⟨some 11,none,.q (.build [(.int .u8 0),(.int .u8 0),(.int .u8 0)] [(0,1,(.tmp 10))]),[]⟩,V 12 2,V 13 3,⟨some 14,none,.q (.build [(.string ⟨#[]⟩),(.int .u8 0),(.int .u8 0),(.int .u8 0),(.bool false),(.bool false),(.bool false)] [(0,1,(.tmp 9)),(1,3,(.tmp 11)),(4,1,(.const (.bool false))),(5,1,(.tmp 12)),(6,1,(.tmp 13))]),[]⟩,⟨none,none,.e (.store 7 (.tmp 8) (.tmp 14)),[]⟩]
 .ret)),[.cells 8 7],15⟩
theorem c_shapes2_is:qDp Proofs.Try.prog Proofs.Try.f128=some (qCw c_shapes2):=by kernel_rfl
def qUf:AFn :=
⟨(O [⟨some 2,none,.e (.new [(.string ⟨#[]⟩),(.int .u8 0),(.int .u8 0),(.int .u8 0),(.bool false),(.bool false),(.bool false)] 7),[]⟩,T 3 false]
 (O [⟨some 5,none,.call 123 [],[]⟩,⟨some 4,none,.e (.new z196 7),[]⟩,⟨none,none,.e (.store 196 (.tmp 4) (.tmp 5)),[]⟩]
 (.seq (O [V 6 0,Cv' 7 .i64 6,Bn 8 .geq 7 28]
 (.cond (.tmp 8)
 (O [⟨some 9,none,.q (.build [(.string ⟨#[]⟩),(.int .u8 0),(.int .u8 0),(.int .u8 0),(.bool false),(.bool false),(.bool false)] []),[]⟩,⟨none,none,.e (.store 7 (.tmp 2) (.tmp 9)),[]⟩,T 3 false]
 .ret)
 .skip))
 (O [V 10 0,⟨some 11,none,.q (.idxP 28 7 (.tmp 4) (.tmp 10)),[]⟩,LA 12 7 11,⟨none,none,.e (.store 7 (.tmp 2) (.tmp 12)),[]⟩,T 3 true]
 .ret)))),[.cells 2 7,.tmp 3],13⟩
theorem c_irOf_is:qDp Proofs.Try.prog Proofs.Try.f105=some (qCw qUf):=by kernel_rfl
theorem call_irOf:qDv 105 qUf 13:=fun hl k=>qBq (by kernel_rfl) (by kernel_rfl) c_irOf_is (by kernel_rfl) hl k
def qLn:AFn :=
⟨(O [⟨some 2,none,.e (.box 4 4 (.tmp 0)),[]⟩,⟨some 4,none,.q (.val (.const (.int .u64 0))),[]⟩]
 (O [FA 11 0 2,L 12 11,⟨some 13,none,.call 105 [(.tmp 12)],[]⟩,V 10 13,⟨some 14,none,.q (.ext (.tmp 10) 0),[]⟩,⟨some 15,none,.q (.ext (.tmp 10) 1),[]⟩,⟨some 5,none,.e (.new [(.string ⟨#[]⟩),(.int .u8 0),(.int .u8 0),(.int .u8 0),(.bool false),(.bool false),(.bool false)] 7),[]⟩,⟨none,none,.e (.store 7 (.tmp 5) (.tmp 14)),[]⟩,V 6 15]
 (O [⟨some 7,none,.q (.val (.const (.int .u64 0))),[]⟩]
 (.seq (O [FA 16 1 2,L 17 16,FA 18 2 2,L 19 18,FA 20 3 2,L 21 20,⟨some 22,none,.q (.build [(.int .i64 0),(.int .i64 0),(.int .i64 0)] [(0,1,(.tmp 17)),(1,1,(.tmp 19)),(2,1,(.tmp 21))]),[]⟩,N 23 0]
 (.block 0 (.loop (O [Bn 24 .lss 23 3]
 (.seq (.cond (.tmp 24)
 .skip
 (.exit 0))
 (.seq (.block 1 (O [V 25 23,⟨some 26,none,.q (.idx none 3 1 (.tmp 22) (.tmp 23)),[]⟩,V 8 25,V 9 26]
 (O [V 27 8,FA 28 1 5,⟨some 29,none,.q (.idxP 3 1 (.tmp 28) (.tmp 27)),[]⟩,L 30 29,V 31 1,B 32 .eql 30 31]
 (.cond (.tmp 32)
 (.ops [V 33 7,V 34 9,⟨some 35,none,.e (.lit [(.int .i64 0)] 1 1 [(0,1,(.tmp 34))]),[]⟩,Z 1 35,⟨some 36,none,.call 42 [(.tmp 33),(.tmp 35)],[]⟩,V 7 36])
 .skip))))
 (.ops [Bn 37 .add 23 1,V 23 37])))))))
 (O [V 38 7,V 4 38]
 .ret))))),[.tmp 4],39⟩
theorem c_registers_is:qDp Proofs.Try.prog Proofs.Try.f86=some (qCw qLn):=by kernel_rfl
theorem call_registers:qDv 86 qLn 39:=fun hl k=>qBq (by kernel_rfl) (by kernel_rfl) c_registers_is (by kernel_rfl) hl k
def qRd:AFn :=
⟨(O [⟨some 1,none,.e (.box 4 4 (.tmp 0)),[]⟩,⟨some 2,none,.q (.val (.const (.int .u64 0))),[]⟩]
 (O [LA 3 4 1,⟨some 4,none,.call 86 [(.tmp 3),(.const (.int .u8 2))],[]⟩,V 2 4]
 .ret)),[.tmp 2],5⟩
theorem c_irSets_is:qDp Proofs.Try.prog Proofs.Try.f70=some (qCw qRd):=by kernel_rfl
theorem call_irSets:qDv 70 qRd 5:=fun hl k=>qBq (by kernel_rfl) (by kernel_rfl) c_irSets_is (by kernel_rfl) hl k
def qRi:AFn :=
⟨(O [E 2]
 (.seq (O [V 3 0]
 (.block 0 (O [Bk 5 .eql 3 .u8 1,V 4 5]
 (.cond (.tmp 4)
 (O [⟨some 6,none,.e (.lit [(.int .i64 0),(.int .i64 0),(.int .i64 0)] 1 3 [(0,1,(.const (.int .i64 2))),(1,1,(.const (.int .i64 1))),(2,1,(.const (.int .i64 0)))]),[]⟩,V 2 6]
 .ret)
 (O [Bk 8 .eql 3 .u8 2,V 7 8]
 (.cond (.tmp 7)
 (O [⟨some 9,none,.e (.lit [(.int .i64 0),(.int .i64 0),(.int .i64 0)] 1 3 [(0,1,(.const (.int .i64 2))),(1,1,(.const (.int .i64 3))),(2,1,(.const (.int .i64 0)))]),[]⟩,V 2 9]
 .ret)
 (.seq (O [Bk 11 .eql 3 .u8 3,V 10 11]
 (.cond (.tmp 10)
 .skip
 (O [Bk 12 .eql 3 .u8 4,V 10 12]
 (.cond (.tmp 10)
 .skip
 (O [Bk 13 .eql 3 .u8 5,V 10 13]
 (.cond (.tmp 10)
 .skip
 (.ops [Bk 14 .eql 3 .u8 6,V 10 14])))))))
 (.cond (.tmp 10)
 (O [⟨some 15,none,.e (.lit [(.int .i64 0),(.int .i64 0),(.int .i64 0)] 1 3 [(0,1,(.const (.int .i64 2))),(1,1,(.const (.int .i64 3))),(2,1,(.const (.int .i64 3)))]),[]⟩,V 2 15]
 .ret)
 (O [Bk 17 .eql 3 .u8 7,V 16 17]
 (.cond (.tmp 16)
 (O [⟨some 18,none,.e (.lit [(.int .i64 0),(.int .i64 0),(.int .i64 0)] 1 3 [(0,1,(.const (.int .i64 2))),(1,1,(.const (.int .i64 4))),(2,1,(.const (.int .i64 0)))]),[]⟩,V 2 18]
 .ret)
 (O [Bk 20 .eql 3 .u8 8,V 19 20]
 (.cond (.tmp 19)
 (O [⟨some 21,none,.e (.lit [(.int .i64 0),(.int .i64 0),(.int .i64 0)] 1 3 [(0,1,(.const (.int .i64 4))),(1,1,(.const (.int .i64 3))),(2,1,(.const (.int .i64 0)))]),[]⟩,V 2 21]
 .ret)
 (O [Bk 23 .eql 3 .u8 9,V 22 23]
 (.cond (.tmp 22)
 (O [⟨some 24,none,.e (.lit [(.int .i64 0),(.int .i64 0),(.int .i64 0)] 1 3 [(0,1,(.const (.int .i64 3))),(1,1,(.const (.int .i64 0))),(2,1,(.const (.int .i64 0)))]),[]⟩,V 2 24]
 .ret)
 (O [Bk 26 .eql 3 .u8 10,V 25 26]
 (.cond (.tmp 25)
 (O [⟨some 27,none,.e (.lit [(.int .i64 0),(.int .i64 0),(.int .i64 0)] 1 3 [(0,1,(.const (.int .i64 5))),(1,1,(.const (.int .i64 0))),(2,1,(.const (.int .i64 0)))]),[]⟩,V 2 27]
 .ret)
 (O [Bk 29 .eql 3 .u8 11,V 28 29]
 (.cond (.tmp 28)
 (O [⟨some 30,none,.e (.lit [(.int .i64 0),(.int .i64 0),(.int .i64 0)] 1 3 [(0,1,(.const (.int .i64 3))),(1,1,(.const (.int .i64 5))),(2,1,(.const (.int .i64 0)))]),[]⟩,V 2 30]
 .ret)
 (O [Bk 32 .eql 3 .u8 12,V 31 32]
 (.cond (.tmp 31)
 (O [⟨some 33,none,.e (.lit [(.int .i64 0),(.int .i64 0),(.int .i64 0)] 1 3 [(0,1,(.const (.int .i64 6))),(1,1,(.const (.int .i64 0))),(2,1,(.const (.int .i64 0)))]),[]⟩,V 2 33]
 .ret)
 (.seq (O [Bk 35 .eql 3 .u8 13,V 34 35]
 (.cond (.tmp 34)
 .skip
 (O [Bk 36 .eql 3 .u8 14,V 34 36]
 (.cond (.tmp 34)
 .skip
 (O [Bk 37 .eql 3 .u8 15,V 34 37]
 (.cond (.tmp 34)
 .skip
 (.ops [Bk 38 .eql 3 .u8 16,V 34 38])))))))
 (.cond (.tmp 34)
 (O [⟨some 39,none,.e (.lit [(.int .i64 0),(.int .i64 0),(.int .i64 0)] 1 3 [(0,1,(.const (.int .i64 7))),(1,1,(.const (.int .i64 0))),(2,1,(.const (.int .i64 0)))]),[]⟩,V 2 39]
 .ret)
 (O [Bk 41 .eql 3 .u8 17,V 40 41]
 (.cond (.tmp 40)
 (O [⟨some 42,none,.e (.lit [(.int .i64 0),(.int .i64 0),(.int .i64 0)] 1 3 [(0,1,(.const (.int .i64 2))),(1,1,(.const (.int .i64 8))),(2,1,(.const (.int .i64 0)))]),[]⟩,V 2 42]
 .ret)
 (O [Bk 44 .eql 3 .u8 18,V 43 44]
 (.cond (.tmp 43)
 (O [⟨some 45,none,.e (.lit [(.int .i64 0),(.int .i64 0),(.int .i64 0)] 1 3 [(0,1,(.const (.int .i64 8))),(1,1,(.const (.int .i64 3))),(2,1,(.const (.int .i64 0)))]),[]⟩,V 2 45]
 .ret)
 (O [Bk 47 .eql 3 .u8 19,V 46 47]
 (.cond (.tmp 46)
 (O [⟨some 48,none,.e (.lit [(.int .i64 0),(.int .i64 0),(.int .i64 0)] 1 3 [(0,1,(.const (.int .i64 2))),(1,1,(.const (.int .i64 8))),(2,1,(.const (.int .i64 3)))]),[]⟩,V 2 48]
 .ret)
 (O [Bk 50 .eql 3 .u8 20,V 49 50]
 (.cond (.tmp 49)
 (O [⟨some 51,none,.e (.lit [(.int .i64 0),(.int .i64 0),(.int .i64 0)] 1 3 [(0,1,(.const (.int .i64 9))),(1,1,(.const (.int .i64 3))),(2,1,(.const (.int .i64 0)))]),[]⟩,V 2 51]
 .ret)
 (O [Bk 53 .eql 3 .u8 21,V 52 53]
 (.cond (.tmp 52)
 (O [⟨some 54,none,.e (.lit [(.int .i64 0),(.int .i64 0),(.int .i64 0)] 1 3 [(0,1,(.const (.int .i64 2))),(1,1,(.const (.int .i64 9))),(2,1,(.const (.int .i64 0)))]),[]⟩,V 2 54]
 .ret)
 (O [Bk 56 .eql 3 .u8 22,V 55 56]
 (.cond (.tmp 55)
 (O [⟨some 57,none,.e (.lit [(.int .i64 0),(.int .i64 0),(.int .i64 0)] 1 3 [(0,1,(.const (.int .i64 2))),(1,1,(.const (.int .i64 9))),(2,1,(.const (.int .i64 2)))]),[]⟩,V 2 57]
 .ret)
 (O [Bk 59 .eql 3 .u8 23,V 58 59]
 (.cond (.tmp 58)
 (O [⟨some 60,none,.e (.lit [(.int .i64 0),(.int .i64 0),(.int .i64 0)] 1 3 [(0,1,(.const (.int .i64 9))),(1,1,(.const (.int .i64 0))),(2,1,(.const (.int .i64 0)))]),[]⟩,V 2 60]
 .ret)
 (O [Bk 62 .eql 3 .u8 24,V 61 62]
 (.cond (.tmp 61)
 (O [⟨some 63,none,.e (.lit [(.int .i64 0),(.int .i64 0),(.int .i64 0)] 1 3 [(0,1,(.const (.int .i64 10))),(1,1,(.const (.int .i64 1))),(2,1,(.const (.int .i64 0)))]),[]⟩,V 2 63]
 .ret)
 (O [Bk 65 .eql 3 .u8 25,V 64 65]
 (.cond (.tmp 64)
 (O [⟨some 66,none,.e (.lit [(.int .i64 0),(.int .i64 0),(.int .i64 0)] 1 3 [(0,1,(.const (.int .i64 10))),(1,1,(.const (.int .i64 0))),(2,1,(.const (.int .i64 0)))]),[]⟩,V 2 66]
 .ret)
 (O [Bk 68 .eql 3 .u8 26,V 67 68]
 (.cond (.tmp 67)
 (O [⟨some 69,none,.e (.lit [(.int .i64 0),(.int .i64 0),(.int .i64 0)] 1 3 [(0,1,(.const (.int .i64 2))),(1,1,(.const (.int .i64 11))),(2,1,(.const (.int .i64 0)))]),[]⟩,V 2 69]
 .ret)
 (O [Bk 71 .eql 3 .u8 27,V 70 71]
 (.cond (.tmp 70)
 (O [⟨some 72,none,.e (.lit [(.int .i64 0),(.int .i64 0),(.int .i64 0)] 1 3 [(0,1,(.const (.int .i64 11))),(1,1,(.const (.int .i64 0))),(2,1,(.const (.int .i64 0)))]),[]⟩,V 2 72]
 .ret)
 .skip))))))))))))))))))))))))))))))))))))))))))))
 (O [⟨some 73,none,.e (.lit [(.int .i64 0),(.int .i64 0),(.int .i64 0)] 1 3 [(0,1,(.const (.int .i64 0))),(1,1,(.const (.int .i64 0))),(2,1,(.const (.int .i64 0)))]),[]⟩,V 2 73]
 .ret))),[.tmp 2],74⟩
theorem c_R2row_is:qDp Proofs.Try.prog Proofs.Try.f76=some (qCw qRi):=by kernel_rfl
theorem call_R2row:qDv 76 qRi 74:=fun hl k=>qBq (by kernel_rfl) (by kernel_rfl) c_R2row_is (by kernel_rfl) hl k
def qSq:AFn :=
⟨(O [⟨some 1,none,.e (.box 4 4 (.tmp 0)),[]⟩,E 2]
 (O [FA 3 1 1,L 4 3,FA 5 2 1,L 6 5,FA 7 3 1,L 8 7,⟨some 9,none,.e (.lit [(.int .i64 0),(.int .i64 0),(.int .i64 0)] 1 3 [(0,1,(.tmp 4)),(1,1,(.tmp 6)),(2,1,(.tmp 8))]),[]⟩,V 2 9]
 .ret)),[.tmp 2],10⟩
theorem c_R2num_is:qDp Proofs.Try.prog Proofs.Try.f77=some (qCw qSq):=by kernel_rfl
theorem call_R2num:qDv 77 qSq 10:=fun hl k=>qBq (by kernel_rfl) (by kernel_rfl) c_R2num_is (by kernel_rfl) hl k
end Pm

/- Codes of the program's functions, as a program printed them, and that they are what the program's functions are compiled to.
   No condition: plain facts. -/
namespace Pm
set_option linter.unusedSimpArgs false
set_option linter.unusedVariables false
open Go Am
set_option maxRecDepth 100000
def qRm:AFn :=
⟨(O [E 2]
 (.seq (O [V 3 0,⟨some 4,none,.nilT false (.tmp 3),[]⟩]
 (.cond (.tmp 4)
 (O [E 2]
 .ret)
 .skip))
 (O [⟨some 5,none,.e (.lit [] 1 0 []),[]⟩,V 6 0,Ap 7 1 5 6,V 2 7]
 .ret))),[.tmp 2],8⟩
theorem c_Clone1_is:qDp Proofs.Try.prog Proofs.Try.f107=some (qCw qRm):=by kernel_rfl
theorem call_Clone1:qDv 107 qRm 8:=fun hl k=>qBq (by kernel_rfl) (by kernel_rfl) c_Clone1_is (by kernel_rfl) hl k
def qRl:AFn :=
⟨(O [E 4]
 (O [V 8 0,V 9 1,⟨some 10,none,.call 124 [(.tmp 8),(.tmp 9)],[]⟩,V 5 10]
 (.seq (O [V 11 5,Bn 12 .eql 11 (-1)]
 (.cond (.tmp 12)
 (O [V 13 0,V 4 13]
 .ret)
 .skip))
 (.seq (O [V 14 5,Bn 15 .add 14 1,V 6 15]
 (.block 0 (.loop (.seq (O [V 16 6,V 17 0,Ln 18 17,B 19 .lss 16 18]
 (.cond (.tmp 19)
 .skip
 (.exit 0)))
 (.seq (.block 1 (O [V 22 0,V 23 6,X 24 1 22 23,L 25 24,V 7 25]
 (O [V 26 1,V 27 7,⟨some 28,none,.callv (.tmp 26) [(.tmp 27)],[]⟩,Nt 29 28]
 (.cond (.tmp 29)
 (O [V 30 0,V 31 5,V 32 7,X 33 1 30 31,S 33 32]
 (.ops [V 34 5,Bn 35 .add 34 1,V 5 35]))
 .skip))))
 (.ops [V 20 6,Bn 21 .add 20 1,V 6 21]))))))
 (O [V 36 0,V 37 5,⟨some 38,none,.q (.cut 1 (.tmp 36) (some (.tmp 37)) none),[]⟩,⟨none,none,.e (.clear [(.int .i64 0)] (.tmp 38)),[]⟩]
 (O [V 39 0,V 40 5,⟨some 41,none,.q (.cut 1 (.tmp 39) none (some (.tmp 40))),[]⟩,V 4 41]
 .ret)))))),[.tmp 4],42⟩
theorem c_DelF1_is:qDp Proofs.Try.prog Proofs.Try.f106=some (qCw qRl):=by kernel_rfl
theorem call_DelF1:qDv 106 qRl 42:=fun hl k=>qBq (by kernel_rfl) (by kernel_rfl) c_DelF1_is (by kernel_rfl) hl k
def qRk:AFn :=
⟨(O [N 4 0]
 (.seq (O [V 6 0,Ln 7 6,N 8 0]
 (.block 0 (.loop (O [B 9 .lss 8 7]
 (.seq (.cond (.tmp 9)
 .skip
 (.exit 0))
 (.seq (.block 1 (O [V 10 8,V 5 10]
 (O [V 11 1,V 12 0,V 13 5,X 14 1 12 13,L 15 14,⟨some 16,none,.callv (.tmp 11) [(.tmp 15)],[]⟩]
 (.cond (.tmp 16)
 (O [V 17 5,V 4 17]
 .ret)
 .skip))))
 (.ops [Bn 18 .add 8 1,V 8 18])))))))
 (O [N 4 (-1)]
 .ret))),[.tmp 4],19⟩
theorem c_IdxF1_is:qDp Proofs.Try.prog Proofs.Try.f124=some (qCw qRk):=by kernel_rfl
theorem call_IdxF1:qDv 124 qRk 19:=fun hl k=>qBq (by kernel_rfl) (by kernel_rfl) c_IdxF1_is (by kernel_rfl) hl k
def qUg:AFn :=
⟨(O [N 4 0]
 (.seq (O [V 6 0,Ln 7 6,N 8 0]
 (.block 0 (.loop (O [B 9 .lss 8 7]
 (.seq (.cond (.tmp 9)
 .skip
 (.exit 0))
 (.seq (.block 1 (O [V 10 8,V 5 10]
 (O [V 11 1,V 12 0,V 13 5,X 14 1 12 13,L 15 14,B 16 .eql 11 15]
 (.cond (.tmp 16)
 (O [V 17 5,V 4 17]
 .ret)
 .skip))))
 (.ops [Bn 18 .add 8 1,V 8 18])))))))
 (O [N 4 (-1)]
 .ret))),[.tmp 4],19⟩
theorem c_Idx1_is:qDp Proofs.Try.prog Proofs.Try.f129=some (qCw qUg):=by kernel_rfl
theorem call_Idx1:qDv 129 qUg 19:=fun hl k=>qBq (by kernel_rfl) (by kernel_rfl) c_Idx1_is (by kernel_rfl) hl k
def qSt:AFn :=
⟨(O [T 4 false]
 (O [V 5 0,V 6 1,⟨some 7,none,.call 129 [(.tmp 5),(.tmp 6)],[]⟩,Bn 8 .geq 7 0,V 4 8]
 .ret)),[.tmp 4],9⟩
theorem c_Cont1_is:qDp Proofs.Try.prog Proofs.Try.f125=some (qCw qSt):=by kernel_rfl
theorem call_Cont1:qDv 125 qSt 9:=fun hl k=>qBq (by kernel_rfl) (by kernel_rfl) c_Cont1_is (by kernel_rfl) hl k
def qOv:AFn :=
⟨(O [⟨some 1,none,.e (.box 1 1 (.tmp 0)),[]⟩,E 2]
 (O [E 3]
 (.seq (O [L 6 1,Ln 7 6,N 8 0]
 (.block 0 (.loop (O [B 9 .lss 8 7]
 (.seq (.cond (.tmp 9)
 .skip
 (.exit 0))
 (.seq (.block 1 (O [X 10 1 6 8,L 11 10,V 5 11]
 (.ops [V 12 3,V 13 5,⟨some 14,none,.call 107 [(.tmp 13)],[]⟩,⟨some 15,none,.q (.fn (.func 108) [(.tmp 1)]),[]⟩,⟨some 16,none,.call 106 [(.tmp 14),(.tmp 15)],[]⟩,Z 1 16,⟨some 17,none,.e (.lit [(.slice none 0 0)] 1 1 [(0,1,(.tmp 16))]),[]⟩,Ap 18 1 12 17,V 3 18])))
 (.ops [Bn 19 .add 8 1,V 8 19])))))))
 (O [V 20 3,V 2 20]
 .ret)))),[.tmp 2],21⟩
theorem c_fInside_is:qDp Proofs.Try.prog Proofs.Try.f87=some (qCw qOv):=by kernel_rfl
theorem call_fInside:qDv 87 qOv 21:=fun hl k=>qBq (by kernel_rfl) (by kernel_rfl) c_fInside_is (by kernel_rfl) hl k
def qJc:AFn :=
⟨(O [T 3 false]
 (O [V 4 0,Bn 5 .lss 4 0,V 6 5,Gd 6 false (V 7 0),Gd 6 false (L 8 1),Gd 6 false (Ln 9 8),Gd 6 false (B 10 .geq 7 9),⟨some 11,none,.q (.pick (.tmp 6) (.const (.bool true)) (.tmp 10)),[]⟩,V 3 11]
 .ret)),[.tmp 3],12⟩
theorem c_fInside1_is:qDp Proofs.Try.prog Proofs.Try.f108=some (qCw qJc):=by kernel_rfl
theorem call_fInside1:qDv 108 qJc 12:=fun hl k=>qBq (by kernel_rfl) (by kernel_rfl) c_fInside1_is (by kernel_rfl) hl k
def qUs:AFn :=
⟨(O [⟨some 4,none,.q (.val (.const (.int .u64 0))),[]⟩]
 (.seq (O [V 5 1,V 6 0,Ln 7 6,B 8 .geq 5 7]
 (.cond (.tmp 8)
 (O [⟨some 4,none,.q (.val (.const (.int .u64 0))),[]⟩]
 .ret)
 .skip))
 (O [V 9 0,V 10 1,X 11 1 9 10,L 12 11,V 4 12]
 .ret))),[.tmp 4],13⟩
theorem c_fAt_is:qDp Proofs.Try.prog Proofs.Try.f111=some (qCw qUs):=by kernel_rfl
theorem call_fAt:qDv 111 qUs 13:=fun hl k=>qBq (by kernel_rfl) (by kernel_rfl) c_fAt_is (by kernel_rfl) hl k
def qTi:AFn :=
⟨(O [⟨some 2,none,.q (.val (.const (.int .u64 0))),[]⟩]
 (.seq (O [V 3 0,⟨some 4,none,.q (.ptrCk (.tmp 3)),[]⟩,FA 5 0 4,FA 6 4 5,L 7 6]
 (.cond (.tmp 7)
 (O [⟨some 8,none,.call 41 [(.const (.int .i64 64))],[]⟩,V 2 8]
 .ret)
 .skip))
 (O [⟨some 2,none,.q (.val (.const (.int .u64 0))),[]⟩]
 .ret))),[.tmp 2],9⟩
theorem c_fAll_is:qDp Proofs.Try.prog Proofs.Try.f88=some (qCw qTi):=by kernel_rfl
theorem call_fAll:qDv 88 qTi 9:=fun hl k=>qBq (by kernel_rfl) (by kernel_rfl) c_fAll_is (by kernel_rfl) hl k
def qRg:AFn :=
⟨(O [⟨some 6,none,.q (.val (.const (.int .u64 0))),[]⟩]
 (.seq (O [V 7 0,⟨some 8,none,.q (.ptrCk (.tmp 7)),[]⟩,FA 9 0 8,FA 10 4 9,L 11 10]
 (.cond (.tmp 11)
 (O [V 12 1,V 13 2,B 14 .and 12 13,V 6 14]
 .ret)
 .skip))
 (O [V 15 1,V 16 2,B 17 .or 15 16,V 6 17]
 .ret))),[.tmp 6],18⟩
theorem c_fMeet_is:qDp Proofs.Try.prog Proofs.Try.f110=some (qCw qRg):=by kernel_rfl
theorem call_fMeet:qDv 110 qRg 18:=fun hl k=>qBq (by kernel_rfl) (by kernel_rfl) c_fMeet_is (by kernel_rfl) hl k
def qRh:AFn :=
⟨(O [T 4 false]
 (.seq (O [V 5 0,⟨some 6,none,.q (.ptrCk (.tmp 5)),[]⟩,FA 7 0 6,FA 8 5 7,L 9 8]
 (.cond (.tmp 9)
 (O [V 10 0,⟨some 11,none,.q (.ptrCk (.tmp 10)),[]⟩,FA 12 0 11,FA 13 0 12,L 14 13,V 15 1,X 16 1 14 15,L 17 16,V 18 0,⟨some 19,none,.q (.ptrCk (.tmp 18)),[]⟩,FA 20 0 19,FA 21 0 20,L 22 21,Ln 23 22,Z 1 17,⟨some 24,none,.call 125 [(.tmp 17),(.tmp 23)],[]⟩,V 4 24]
 .ret)
 .skip))
 (O [V 25 1,Bn 26 .eql 25 0,V 4 26]
 .ret))),[.tmp 4],27⟩
theorem c_fEdge_is:qDp Proofs.Try.prog Proofs.Try.f109=some (qCw qRh):=by kernel_rfl
theorem call_fEdge:qDv 109 qRh 27:=fun hl k=>qBq (by kernel_rfl) (by kernel_rfl) c_fEdge_is (by kernel_rfl) hl k
def qRf:AFn :=
⟨(O [V 4 0,⟨some 5,none,.q (.ptrCk (.tmp 4)),[]⟩,FA 6 11 5,L 7 6,V 8 1,X 9 1 7 8,L 10 9,Nt 11 10]
 (.cond (.tmp 11)
 (O [V 12 0,⟨some 13,none,.q (.ptrCk (.tmp 12)),[]⟩,FA 14 11 13,L 15 14,V 16 1,X 17 1 15 16,⟨none,none,.e (.store 1 (.tmp 17) (.const (.bool true))),[]⟩]
 (.ops [V 18 0,V 19 0,⟨some 20,none,.q (.ptrCk (.tmp 19)),[]⟩,FA 21 10 20,L 22 21,V 23 1,⟨some 24,none,.e (.lit [(.int .i64 0)] 1 1 [(0,1,(.tmp 23))]),[]⟩,Ap 25 1 22 24,⟨some 26,none,.q (.ptrCk (.tmp 18)),[]⟩,FA 27 10 26,S 27 25]))
 .skip)),[],28⟩
theorem c_fPush_is:qDp Proofs.Try.prog Proofs.Try.f89=some (qCw qRf):=by kernel_rfl
theorem call_fPush:qDv 89 qRf 28:=fun hl k=>qBq (by kernel_rfl) (by kernel_rfl) c_fPush_is (by kernel_rfl) hl k
def qSp:AFn :=
⟨(O [V 10 0,⟨some 11,none,.call 88 [(.tmp 10)],[]⟩,V 4 11]
 (.seq (O [V 12 0,V 13 1,⟨some 14,none,.call 109 [(.tmp 12),(.tmp 13)],[]⟩]
 (.cond (.tmp 14)
 (.ops [V 15 0,V 16 4,V 17 0,⟨some 18,none,.q (.ptrCk (.tmp 17)),[]⟩,FA 19 0 18,FA 20 3 19,L 21 20,⟨some 22,none,.call 110 [(.tmp 15),(.tmp 16),(.tmp 21)],[]⟩,V 4 22])
 .skip))
 (.seq (O [V 23 0,⟨some 24,none,.q (.ptrCk (.tmp 23)),[]⟩,FA 25 6 24,L 26 25,V 27 1,X 28 1 26 27,L 29 28,Ln 30 29,N 31 0]
 (.block 0 (.loop (O [B 32 .lss 31 30]
 (.seq (.cond (.tmp 32)
 .skip
 (.exit 0))
 (.seq (.block 1 (O [X 33 1 29 31,L 34 33,V 6 34]
 (.ops [V 35 0,V 36 4,V 37 0,⟨some 38,none,.q (.ptrCk (.tmp 37)),[]⟩,FA 39 9 38,L 40 39,V 41 6,X 42 1 40 41,L 43 42,⟨some 44,none,.call 110 [(.tmp 35),(.tmp 36),(.tmp 43)],[]⟩,V 4 44])))
 (.ops [Bn 45 .add 31 1,V 31 45])))))))
 (O [V 46 0,⟨some 47,none,.q (.ptrCk (.tmp 46)),[]⟩,FA 48 8 47,L 49 48,V 50 1,V 51 4,X 52 1 49 50,S 52 51]
 (O [V 53 4,V 54 0,⟨some 55,none,.q (.ptrCk (.tmp 54)),[]⟩,FA 56 0 55,FA 57 2 56,L 58 57,V 59 1,V 62 0,⟨some 63,none,.q (.ptrCk (.tmp 62)),[]⟩,FA 64 0 63,FA 65 1 64,L 66 65,V 67 1,⟨some 60,none,.st (.call 111 [(.tmp 58),(.tmp 59)]),[.load (.tmp 65)]⟩,B 61 .andNot 53 60,⟨some 68,none,.call 111 [(.tmp 66),(.tmp 67)],[]⟩,B 69 .or 61 68,V 7 69]
 (.seq (O [V 70 7,V 71 0,⟨some 72,none,.q (.ptrCk (.tmp 71)),[]⟩,FA 73 9 72,L 74 73,V 75 1,X 76 1 74 75,L 77 76,B 78 .eql 70 77]
 (.cond (.tmp 78)
 .ret
 .skip))
 (O [V 79 0,⟨some 80,none,.q (.ptrCk (.tmp 79)),[]⟩,FA 81 9 80,L 82 81,V 83 1,V 84 7,X 85 1 82 83,S 85 84]
 (O [V 86 0,⟨some 87,none,.q (.ptrCk (.tmp 86)),[]⟩,FA 88 7 87,L 89 88,V 90 1,X 91 1 89 90,L 92 91,Ln 93 92,N 94 0]
 (.block 2 (.loop (O [B 95 .lss 94 93]
 (.seq (.cond (.tmp 95)
 .skip
 (.exit 2))
 (.seq (.block 3 (O [X 96 1 92 94,L 97 96,V 9 97]
 (.ops [V 98 0,V 99 9,⟨some 100,none,.call 89 [(.tmp 98),(.tmp 99)],[]⟩])))
 (.ops [Bn 101 .add 94 1,V 94 101])))))))))))))),[],102⟩
theorem c_fLook_is:qDp Proofs.Try.prog Proofs.Try.f90=some (qCw qSp):=by kernel_rfl
theorem call_fLook:qDv 90 qSp 102:=fun hl k=>qBq (by kernel_rfl) (by kernel_rfl) c_fLook_is (by kernel_rfl) hl k
def qRe:AFn :=
⟨(O [⟨some 1,none,.e (.box 6 6 (.tmp 0)),[]⟩,E 2,E 3]
 (O [Z 6 1,FA 8 0 1,L 9 8,Ln 10 9,V 4 10]
 (.seq (O [V 11 4,Bn 12 .gtr 11 64]
 (.cond (.tmp 12)
 (O [E 2,E 3]
 .ret)
 .skip))
 (O [LA 13 6 1,V 14 4,V 16 4,V 18 4,⟨some 15,none,.e (.make [(.int .u64 0)] 1 (.tmp 14) (.tmp 14)),[]⟩,⟨some 17,none,.e (.make [(.int .u64 0)] 1 (.tmp 16) (.tmp 16)),[]⟩,⟨some 19,none,.e (.make [(.bool false)] 1 (.tmp 18) (.tmp 18)),[]⟩,⟨some 20,none,.q (.build [(.slice none 0 0),(.slice none 0 0),(.slice none 0 0),(.int .u64 0),(.bool false),(.bool false),(.slice none 0 0),(.slice none 0 0),(.slice none 0 0),(.slice none 0 0),(.slice none 0 0),(.slice none 0 0)] [(0,6,(.tmp 13)),(8,1,(.tmp 15)),(9,1,(.tmp 17)),(11,1,(.tmp 19))]),[]⟩,⟨some 21,none,.e (.box 12 12 (.tmp 20)),[]⟩,V 5 21]
 (O [V 22 5,V 23 5,FA 24 0 1,L 25 24,FA 27 0 1,L 28 27,⟨some 26,none,.st (.call 87 [(.tmp 25)]),[.load (.tmp 27)]⟩,⟨some 29,none,.call 34 [(.tmp 28)],[]⟩,⟨some 30,none,.q (.ptrCk (.tmp 22)),[]⟩,FA 31 7 30,S 31 26,⟨some 32,none,.q (.ptrCk (.tmp 23)),[]⟩,FA 33 6 32,S 33 29]
 (.seq (O [FA 34 5 1,L 35 34]
 (.cond (.tmp 35)
 (.ops [V 36 5,V 37 5,V 38 5,⟨some 39,none,.q (.ptrCk (.tmp 38)),[]⟩,FA 40 6 39,L 41 40,V 42 5,⟨some 43,none,.q (.ptrCk (.tmp 42)),[]⟩,FA 44 7 43,L 45 44,⟨some 46,none,.q (.ptrCk (.tmp 36)),[]⟩,FA 47 7 46,S 47 41,⟨some 48,none,.q (.ptrCk (.tmp 37)),[]⟩,FA 49 6 48,S 49 45])
 .skip))
 (.seq (O [V 50 4,N 51 0]
 (.block 0 (.loop (O [B 52 .lss 51 50]
 (.seq (.cond (.tmp 52)
 .skip
 (.exit 0))
 (.seq (.block 1 (O [V 53 51,V 6 53]
 (O [V 54 5,⟨some 55,none,.q (.ptrCk (.tmp 54)),[]⟩,FA 56 8 55,L 57 56,V 58 6,V 59 5,⟨some 60,none,.q (.ptrCk (.tmp 59)),[]⟩,FA 61 9 60,L 62 61,V 63 6,V 64 5,V 66 5,⟨some 65,none,.st (.call 88 [(.tmp 64)]),[.load (.tmp 56),.load (.tmp 61)]⟩,⟨some 67,none,.st (.call 88 [(.tmp 66)]),[.load (.tmp 56),.load (.tmp 61)]⟩,X 68 1 57 58,S 68 65,X 69 1 62 63,S 69 67]
 (.ops [V 70 5,V 71 6,⟨some 72,none,.call 89 [(.tmp 70),(.tmp 71)],[]⟩]))))
 (.ops [Bn 73 .add 51 1,V 51 73])))))))
 (.seq (.block 2 (.loop (.seq (O [V 74 5,⟨some 75,none,.q (.ptrCk (.tmp 74)),[]⟩,FA 76 10 75,L 77 76,Ln 78 77,Bn 79 .gtr 78 0]
 (.cond (.tmp 79)
 .skip
 (.exit 2)))
 (.block 3 (O [V 80 5,⟨some 81,none,.q (.ptrCk (.tmp 80)),[]⟩,FA 82 10 81,L 83 82,⟨some 84,none,.q (.idxA 1 (.tmp 83) (.const (.int .i64 0))),[]⟩,L 85 84,V 7 85]
 (O [V 86 5,V 87 5,⟨some 88,none,.q (.ptrCk (.tmp 87)),[]⟩,FA 89 10 88,L 90 89,⟨some 91,none,.q (.cut 1 (.tmp 90) (some (.const (.int .i64 1))) none),[]⟩,⟨some 92,none,.q (.ptrCk (.tmp 86)),[]⟩,FA 93 10 92,S 93 91]
 (O [V 94 5,⟨some 95,none,.q (.ptrCk (.tmp 94)),[]⟩,FA 96 11 95,L 97 96,V 98 7,X 99 1 97 98,⟨none,none,.e (.store 1 (.tmp 99) (.const (.bool false))),[]⟩]
 (.ops [V 100 5,V 101 7,⟨some 102,none,.call 90 [(.tmp 100),(.tmp 101)],[]⟩]))))))))
 (.seq (O [FA 103 5 1,L 104 103]
 (.cond (.tmp 104)
 (O [V 105 5,⟨some 106,none,.q (.ptrCk (.tmp 105)),[]⟩,FA 107 9 106,L 108 107,V 109 5,⟨some 110,none,.q (.ptrCk (.tmp 109)),[]⟩,FA 111 8 110,L 112 111,V 2 108,V 3 112]
 .ret)
 .skip))
 (O [V 113 5,⟨some 114,none,.q (.ptrCk (.tmp 113)),[]⟩,FA 115 8 114,L 116 115,V 117 5,⟨some 118,none,.q (.ptrCk (.tmp 117)),[]⟩,FA 119 9 118,L 120 119,V 2 116,V 3 120]
 .ret)))))))))),[.tmp 2,.tmp 3],121⟩
theorem c_fSolve_is:qDp Proofs.Try.prog Proofs.Try.f74=some (qCw qRe):=by kernel_rfl
theorem call_fSolve:qDv 74 qRe 121:=fun hl k=>qBq (by kernel_rfl) (by kernel_rfl) c_fSolve_is (by kernel_rfl) hl k
def qNy:AFn :=
⟨(O [E 2,E 3]
 (.seq (O [V 7 0,Ln 8 7,Bn 9 .gtr 8 60]
 (.cond (.tmp 9)
 (O [E 2,E 3]
 .ret)
 .skip))
 (O [V 10 0,⟨some 11,none,.call 32 [(.tmp 10)],[]⟩,⟨some 12,none,.q (.build [(.slice none 0 0),(.slice none 0 0),(.slice none 0 0),(.int .u64 0),(.bool false),(.bool false)] [(0,1,(.tmp 11)),(5,1,(.const (.bool true)))]),[]⟩,⟨some 4,none,.e (.new [(.slice none 0 0),(.slice none 0 0),(.slice none 0 0),(.int .u64 0),(.bool false),(.bool false)] 6),[]⟩,⟨none,none,.e (.store 6 (.tmp 4) (.tmp 12)),[]⟩]
 (.seq (O [V 13 0,Ln 14 13,N 15 0]
 (.block 0 (.loop (O [B 16 .lss 15 14]
 (.seq (.cond (.tmp 16)
 .skip
 (.exit 0))
 (.seq (.block 1 (O [X 17 4 13 15,LA 18 4 17,⟨some 6,none,.e (.new [(.int .u8 0),(.int .i64 0),(.int .i64 0),(.int .i64 0)] 4),[]⟩,⟨none,none,.e (.store 4 (.tmp 6) (.tmp 18)),[]⟩]
 (O [FA 19 1 4,L 20 19,LA 21 4 6,⟨some 22,none,.st (.call 73 [(.tmp 21)]),[.load (.tmp 19)]⟩,⟨some 23,none,.st (.e (.lit [(.int .u64 0)] 1 1 [(0,1,(.tmp 22))])),[.load (.tmp 19)]⟩,Ap 24 1 20 23,FA 25 1 4,S 25 24]
 (.ops [FA 26 2 4,L 27 26,LA 28 4 6,⟨some 29,none,.st (.call 70 [(.tmp 28)]),[.load (.tmp 26)]⟩,⟨some 30,none,.st (.e (.lit [(.int .u64 0)] 1 1 [(0,1,(.tmp 29))])),[.load (.tmp 26)]⟩,Ap 31 1 27 30,FA 32 2 4,S 32 31]))))
 (.ops [Bn 33 .add 15 1,V 15 33])))))))
 (O [LA 34 6 4,Z 1 34,⟨some 35,none,.call 74 [(.tmp 34)],[]⟩,⟨some 36,none,.q (.ext (.tmp 35) 0),[]⟩,⟨some 37,none,.q (.ext (.tmp 35) 1),[]⟩,V 2 36,V 3 37]
 .ret))))),[.tmp 2,.tmp 3],38⟩
theorem c_lSolve_is:qDp Proofs.Try.prog Proofs.Try.f51=some (qCw qNy):=by kernel_rfl
theorem call_lSolve:qDv 51 qNy 38:=fun hl k=>qBq (by kernel_rfl) (by kernel_rfl) c_lSolve_is (by kernel_rfl) hl k
def qRb:AFn :=
⟨(O [E 2]
 (O [V 6 0,⟨some 7,none,.call 51 [(.tmp 6)],[]⟩,V 5 7,⟨some 8,none,.q (.ext (.tmp 5) 0),[]⟩,⟨some 9,none,.q (.ext (.tmp 5) 1),[]⟩,V 3 8,V 4 9]
 (O [V 10 3,V 2 10]
 .ret))),[.tmp 2],11⟩
theorem c_lAhead_is:qDp Proofs.Try.prog Proofs.Try.f19=some (qCw qRb):=by kernel_rfl
theorem call_lAhead:qDv 19 qRb 11:=fun hl k=>qBq (by kernel_rfl) (by kernel_rfl) c_lAhead_is (by kernel_rfl) hl k
def qOt:AFn :=
⟨(O [E 2]
 (O [V 6 0,⟨some 7,none,.call 51 [(.tmp 6)],[]⟩,V 5 7,⟨some 8,none,.q (.ext (.tmp 5) 0),[]⟩,⟨some 9,none,.q (.ext (.tmp 5) 1),[]⟩,V 3 8,V 4 9]
 (O [V 10 4,V 2 10]
 .ret))),[.tmp 2],11⟩
theorem c_lBehind_is:qDp Proofs.Try.prog Proofs.Try.f53=some (qCw qOt):=by kernel_rfl
theorem call_lBehind:qDv 53 qOt 11:=fun hl k=>qBq (by kernel_rfl) (by kernel_rfl) c_lBehind_is (by kernel_rfl) hl k
end Pm

/- Codes of the program's functions, as a program printed them, and that they are what the program's functions are compiled to.
   No condition: plain facts. -/
namespace Pm
set_option linter.unusedSimpArgs false
set_option linter.unusedVariables false
open Go Am
set_option maxRecDepth 100000
def qRc:AFn :=
⟨(O [⟨some 1,none,.e (.box 4 4 (.tmp 0)),[]⟩,⟨some 2,none,.q (.val (.const (.int .u64 0))),[]⟩]
 (O [LA 3 4 1,⟨some 4,none,.call 86 [(.tmp 3),(.const (.int .u8 3))],[]⟩,V 2 4]
 .ret)),[.tmp 2],5⟩
theorem c_irUses_is:qDp Proofs.Try.prog Proofs.Try.f73=some (qCw qRc):=by kernel_rfl
theorem call_irUses:qDv 73 qRc 5:=fun hl k=>qBq (by kernel_rfl) (by kernel_rfl) c_irUses_is (by kernel_rfl) hl k
def qOu:AFn :=
⟨(O [T 0 false]
 (O [⟨some 4,none,.q (.build [(.int .u8 0),(.int .i64 0),(.int .i64 0),(.int .i64 0)] [(0,1,(.const (.int .u8 1))),(2,1,(.const (.int .i64 1)))]),[]⟩,⟨some 5,none,.q (.build [(.int .u8 0),(.int .i64 0),(.int .i64 0),(.int .i64 0)] [(0,1,(.const (.int .u8 9)))]),[]⟩,⟨some 6,none,.e (.lit [(.int .u8 0),(.int .i64 0),(.int .i64 0),(.int .i64 0),(.int .u8 0),(.int .i64 0),(.int .i64 0),(.int .i64 0)] 4 2 [(0,4,(.tmp 4)),(4,4,(.tmp 5))]),[]⟩,V 1 6]
 (O [V 7 1,Z 4 7,⟨some 8,none,.call 19 [(.tmp 7)],[]⟩,V 2 8]
 (O [V 9 1,Z 4 9,⟨some 10,none,.call 53 [(.tmp 9)],[]⟩,V 3 10]
 (O [V 11 2,Ln 12 11,Bn 13 .eql 12 2,V 14 13,Gd 14 true (V 15 3),Gd 14 true (Ln 16 15),Gd 14 true (Bn 17 .eql 16 2),Pk 18 14 17 false,V 19 18,Gd 19 true (V 20 2),⟨some 21,some (19,true),.q (.idxA 1 (.tmp 20) (.const (.int .i64 0))),[]⟩,Gd 19 true (L 22 21),Gd 19 true (Bk 23 .eql 22 .u64 0),Pk 24 19 23 false,V 25 24,Gd 25 true (V 26 3),⟨some 27,some (25,true),.q (.idxA 1 (.tmp 26) (.const (.int .i64 0))),[]⟩,Gd 25 true (L 28 27),Gd 25 true (Bk 29 .eql 28 .u64 1),Pk 30 25 29 false,V 31 30,Gd 31 true (V 32 2),⟨some 33,some (31,true),.q (.idxA 1 (.tmp 32) (.const (.int .i64 1))),[]⟩,Gd 31 true (L 34 33),Gd 31 true (Bk 35 .eql 34 .u64 1),Pk 36 31 35 false,V 37 36,Gd 37 true (V 38 3),⟨some 39,some (37,true),.q (.idxA 1 (.tmp 38) (.const (.int .i64 1))),[]⟩,Gd 37 true (L 40 39),Gd 37 true (Bk 41 .eql 40 .u64 0),Pk 42 37 41 false,V 0 42]
 .ret))))),[.tmp 0],43⟩
theorem c_known15_is:qDp Proofs.Try.prog Proofs.Try.f21=some (qCw qOu):=by kernel_rfl
theorem call_known15:qDv 21 qOu 43:=fun hl k=>qBq (by kernel_rfl) (by kernel_rfl) c_known15_is (by kernel_rfl) hl k
end Pm

/- Codes of the program's functions, as a program printed them, and that they are what the program's functions are compiled to.
   No condition: plain facts. -/
namespace Pm
set_option linter.unusedSimpArgs false
set_option linter.unusedVariables false
open Go Am
set_option maxRecDepth 100000
def qSo:AFn :=
⟨(O [⟨some 1,none,.e (.box 7 7 (.tmp 0)),[]⟩,⟨some 2,none,.e (.new [(.int .i64 0),(.int .i64 0),(.int .i64 0),(.slice none 0 0),(.int .i64 0),(.int .i64 0),(.slice none 0 0),(.slice none 0 0),(.slice none 0 0),(.slice none 0 0),(.slice none 0 0),(.slice none 0 0),(.slice none 0 0),(.slice none 0 0),(.slice none 0 0),(.slice none 0 0),(.slice none 0 0),(.slice none 0 0),(.int .i64 0)] 19),[]⟩,T 3 false]
 (.seq (O [LA 7 7 1,⟨some 8,none,.call 26 [(.tmp 7)],[]⟩,Bn 9 .neq 8 0]
 (.cond (.tmp 9)
 (O [⟨some 10,none,.q (.build [(.int .i64 0),(.int .i64 0),(.int .i64 0),(.slice none 0 0),(.int .i64 0),(.int .i64 0),(.slice none 0 0),(.slice none 0 0),(.slice none 0 0),(.slice none 0 0),(.slice none 0 0),(.slice none 0 0),(.slice none 0 0),(.slice none 0 0),(.slice none 0 0),(.slice none 0 0),(.slice none 0 0),(.slice none 0 0),(.int .i64 0)] []),[]⟩,⟨none,none,.e (.store 19 (.tmp 2) (.tmp 10)),[]⟩,T 3 false]
 .ret)
 .skip))
 (O [FA 11 6 1,L 12 11,Ln 13 12,V 4 13]
 (O [LA 14 7 1,V 15 4,V 17 4,FA 19 0 1,L 20 19,FA 22 1 1,L 23 22,FA 25 2 1,L 26 25,FA 28 3 1,L 29 28,Ln 30 29,FA 32 3 1,L 33 32,Ln 34 33,FA 36 4 1,L 37 36,FA 39 5 1,L 40 39,⟨some 16,none,.e (.make [(.int .i64 0)] 1 (.tmp 15) (.tmp 15)),[]⟩,⟨some 18,none,.e (.make [(.int .i64 0)] 1 (.tmp 17) (.tmp 17)),[]⟩,⟨some 21,none,.e (.make [(.int .i64 0)] 1 (.tmp 20) (.tmp 20)),[]⟩,⟨some 24,none,.e (.make [(.int .i64 0)] 1 (.tmp 23) (.tmp 23)),[]⟩,⟨some 27,none,.e (.make [(.int .i64 0)] 1 (.tmp 26) (.tmp 26)),[]⟩,⟨some 31,none,.e (.make [(.slice none 0 0)] 1 (.tmp 30) (.tmp 30)),[]⟩,⟨some 35,none,.e (.make [(.int .i64 0)] 1 (.tmp 34) (.tmp 34)),[]⟩,⟨some 38,none,.e (.make [(.int .i64 0)] 1 (.tmp 37) (.tmp 37)),[]⟩,⟨some 41,none,.e (.make [(.int .i64 0)] 1 (.tmp 40) (.tmp 40)),[]⟩,⟨some 42,none,.q (.build [(.int .i64 0),(.int .i64 0),(.int .i64 0),(.slice none 0 0),(.int .i64 0),(.int .i64 0),(.slice none 0 0),(.slice none 0 0),(.slice none 0 0),(.slice none 0 0),(.slice none 0 0),(.slice none 0 0),(.slice none 0 0),(.slice none 0 0),(.slice none 0 0),(.slice none 0 0),(.slice none 0 0),(.slice none 0 0),(.int .i64 0)] [(0,7,(.tmp 14)),(7,1,(.tmp 16)),(8,1,(.tmp 18)),(10,1,(.tmp 21)),(11,1,(.tmp 24)),(12,1,(.tmp 27)),(13,1,(.tmp 31)),(14,1,(.tmp 35)),(15,1,(.tmp 38)),(16,1,(.tmp 41))]),[]⟩,⟨some 5,none,.e (.new [(.int .i64 0),(.int .i64 0),(.int .i64 0),(.slice none 0 0),(.int .i64 0),(.int .i64 0),(.slice none 0 0),(.slice none 0 0),(.slice none 0 0),(.slice none 0 0),(.slice none 0 0),(.slice none 0 0),(.slice none 0 0),(.slice none 0 0),(.slice none 0 0),(.slice none 0 0),(.slice none 0 0),(.slice none 0 0),(.int .i64 0)] 19),[]⟩,⟨none,none,.e (.store 19 (.tmp 5) (.tmp 42)),[]⟩]
 (.seq (O [N 6 0]
 (.block 0 (.loop (.seq (O [V 43 6,V 44 4,B 45 .lss 43 44]
 (.cond (.tmp 45)
 .skip
 (.exit 0)))
 (.seq (.block 1 (.ops [FA 48 9 5,L 49 48,⟨some 50,none,.e (.make [(.int .i64 0)] 1 (.const (.int .i64 4)) (.const (.int .i64 4))),[]⟩,Z 1 50,⟨some 51,none,.e (.lit [(.slice none 0 0)] 1 1 [(0,1,(.tmp 50))]),[.load (.tmp 48)]⟩,Ap 52 1 49 51,FA 53 9 5,S 53 52]))
 (.ops [V 46 6,Bn 47 .add 46 1,V 6 47]))))))
 (O [FA 54 8 5,L 55 54,⟨some 56,none,.q (.idxA 1 (.tmp 55) (.const (.int .i64 0))),[]⟩,⟨none,none,.e (.store 1 (.tmp 56) (.const (.int .i64 1))),[]⟩]
 (O [LA 57 19 5,⟨none,none,.e (.store 19 (.tmp 2) (.tmp 57)),[]⟩,T 3 true]
 .ret))))))),[.cells 2 19,.tmp 3],58⟩
theorem c_r4New_is:qDp Proofs.Try.prog Proofs.Try.f14=some (qCw qSo):=by kernel_rfl
theorem call_r4New:qDv 14 qSo 58:=fun hl k=>qBq (by kernel_rfl) (by kernel_rfl) c_r4New_is (by kernel_rfl) hl k
def qOs:AFn :=
⟨(O [E 2]
 (O [E 3]
 (O [V 4 3,V 5 0,Ap 6 1 4 5,V 3 6]
 (O [V 7 3,V 2 7]
 .ret)))),[.tmp 2],8⟩
theorem c_r4clone_is:qDp Proofs.Try.prog Proofs.Try.f54=some (qCw qOs):=by kernel_rfl
theorem call_r4clone:qDv 54 qOs 8:=fun hl k=>qBq (by kernel_rfl) (by kernel_rfl) c_r4clone_is (by kernel_rfl) hl k
def qRa:AFn :=
⟨(O [⟨some 1,none,.e (.box 19 19 (.tmp 0)),[]⟩,⟨some 2,none,.e (.new [(.int .i64 0),(.int .i64 0),(.int .i64 0),(.slice none 0 0),(.int .i64 0),(.int .i64 0),(.slice none 0 0),(.slice none 0 0),(.slice none 0 0),(.slice none 0 0),(.slice none 0 0),(.slice none 0 0),(.slice none 0 0),(.slice none 0 0),(.slice none 0 0),(.slice none 0 0),(.slice none 0 0),(.slice none 0 0),(.int .i64 0)] 19),[]⟩]
 (O [LA 6 19 1,⟨some 3,none,.e (.new [(.int .i64 0),(.int .i64 0),(.int .i64 0),(.slice none 0 0),(.int .i64 0),(.int .i64 0),(.slice none 0 0),(.slice none 0 0),(.slice none 0 0),(.slice none 0 0),(.slice none 0 0),(.slice none 0 0),(.slice none 0 0),(.slice none 0 0),(.slice none 0 0),(.slice none 0 0),(.slice none 0 0),(.slice none 0 0),(.int .i64 0)] 19),[]⟩,⟨none,none,.e (.store 19 (.tmp 3) (.tmp 6)),[]⟩]
 (O [FA 7 7 1,L 8 7,⟨some 9,none,.call 54 [(.tmp 8)],[]⟩,FA 10 7 3,S 10 9]
 (O [FA 11 8 1,L 12 11,⟨some 13,none,.call 54 [(.tmp 12)],[]⟩,FA 14 8 3,S 14 13]
 (O [FA 15 10 1,L 16 15,⟨some 17,none,.call 54 [(.tmp 16)],[]⟩,FA 18 10 3,S 18 17]
 (O [FA 19 11 1,L 20 19,⟨some 21,none,.call 54 [(.tmp 20)],[]⟩,FA 22 11 3,S 22 21]
 (O [FA 23 12 1,L 24 23,⟨some 25,none,.call 54 [(.tmp 24)],[]⟩,FA 26 12 3,S 26 25]
 (O [FA 27 14 1,L 28 27,⟨some 29,none,.call 54 [(.tmp 28)],[]⟩,FA 30 14 3,S 30 29]
 (O [FA 31 15 1,L 32 31,⟨some 33,none,.call 54 [(.tmp 32)],[]⟩,FA 34 15 3,S 34 33]
 (O [FA 35 16 1,L 36 35,⟨some 37,none,.call 54 [(.tmp 36)],[]⟩,FA 38 16 3,S 38 37]
 (O [FA 39 17 1,L 40 39,⟨some 41,none,.call 54 [(.tmp 40)],[]⟩,FA 42 17 3,S 42 41]
 (O [FA 43 9 3,⟨none,none,.e (.store 1 (.tmp 43) (.const (.slice none 0 0))),[]⟩]
 (.seq (O [N 4 0]
 (.block 0 (.loop (.seq (O [V 44 4,FA 45 9 1,L 46 45,Ln 47 46,B 48 .lss 44 47]
 (.cond (.tmp 48)
 .skip
 (.exit 0)))
 (.seq (.block 1 (.ops [FA 51 9 3,L 52 51,FA 53 9 1,L 54 53,V 55 4,X 56 1 54 55,L 57 56,⟨some 58,none,.call 54 [(.tmp 57)],[.load (.tmp 51)]⟩,⟨some 59,none,.e (.lit [(.slice none 0 0)] 1 1 [(0,1,(.tmp 58))]),[.load (.tmp 51)]⟩,Ap 60 1 52 59,FA 61 9 3,S 61 60]))
 (.ops [V 49 4,Bn 50 .add 49 1,V 4 50]))))))
 (O [FA 62 13 3,⟨none,none,.e (.store 1 (.tmp 62) (.const (.slice none 0 0))),[]⟩]
 (.seq (O [N 5 0]
 (.block 2 (.loop (.seq (O [V 63 5,FA 64 13 1,L 65 64,Ln 66 65,B 67 .lss 63 66]
 (.cond (.tmp 67)
 .skip
 (.exit 2)))
 (.seq (.block 3 (.ops [FA 70 13 3,L 71 70,FA 72 13 1,L 73 72,V 74 5,X 75 1 73 74,L 76 75,⟨some 77,none,.call 54 [(.tmp 76)],[.load (.tmp 70)]⟩,⟨some 78,none,.e (.lit [(.slice none 0 0)] 1 1 [(0,1,(.tmp 77))]),[.load (.tmp 70)]⟩,Ap 79 1 71 78,FA 80 13 3,S 80 79]))
 (.ops [V 68 5,Bn 69 .add 68 1,V 5 69]))))))
 (O [LA 81 19 3,⟨none,none,.e (.store 19 (.tmp 2) (.tmp 81)),[]⟩]
 .ret)))))))))))))))),[.cells 2 19],82⟩
theorem c_r4Copy_is:qDp Proofs.Try.prog Proofs.Try.f22=some (qCw qRa):=by kernel_rfl
theorem call_r4Copy:qDv 22 qRa 82:=fun hl k=>qBq (by kernel_rfl) (by kernel_rfl) c_r4Copy_is (by kernel_rfl) hl k
def qEf:AFn :=
⟨(O [⟨some 2,none,.e (.box 19 19 (.tmp 0)),[]⟩,⟨some 3,none,.e (.box 4 4 (.tmp 1)),[]⟩,T 4 false]
 (.seq (O [FA 5 0 3,L 6 5]
 (.block 0 (O [Bk 8 .eql 6 .u8 13,V 7 8]
 (.cond (.tmp 7)
 (O [FA 9 12 2,L 10 9,FA 11 1 3,L 12 11,X 13 1 10 12,L 14 13,Bn 15 .neq 14 0,V 4 15]
 .ret)
 (O [Bk 17 .eql 6 .u8 15,V 16 17]
 (.cond (.tmp 16)
 (O [FA 18 12 2,L 19 18,FA 20 1 3,L 21 20,X 22 1 19 21,L 23 22,Bn 24 .eql 23 (-1),V 4 24]
 .ret)
 (O [Bk 26 .eql 6 .u8 20,V 25 26]
 (.cond (.tmp 25)
 (O [FA 27 14 2,L 28 27,FA 29 1 3,L 30 29,X 31 1 28 30,L 32 31,Bn 33 .eql 32 0,V 34 33,Gd 34 true (FA 35 13 2),Gd 34 true (L 36 35),Gd 34 true (FA 37 1 3),Gd 34 true (L 38 37),Gd 34 true (X 39 1 36 38),Gd 34 true (L 40 39),Gd 34 true (Ln 41 40),Gd 34 true (FA 42 0 2),Gd 34 true (FA 43 3 42),Gd 34 true (L 44 43),Gd 34 true (FA 45 1 3),Gd 34 true (L 46 45),Gd 34 true (X 47 1 44 46),Gd 34 true (L 48 47),Gd 34 true (B 49 .eql 41 48),Pk 50 34 49 false,V 4 50]
 .ret)
 (O [Bk 52 .eql 6 .u8 21,V 51 52]
 (.cond (.tmp 51)
 (O [FA 53 14 2,L 54 53,FA 55 2 3,L 56 55,X 57 1 54 56,L 58 57,Bn 59 .eql 58 0,V 60 59,Gd 60 true (FA 61 13 2),Gd 60 true (L 62 61),Gd 60 true (FA 63 2 3),Gd 60 true (L 64 63),Gd 60 true (X 65 1 62 64),Gd 60 true (L 66 65),Gd 60 true (Ln 67 66),Gd 60 true (Bn 68 .eql 67 0),Pk 69 60 68 false,V 4 69]
 .ret)
 (O [Bk 71 .eql 6 .u8 25,V 70 71]
 (.cond (.tmp 70)
 (O [FA 72 15 2,L 73 72,FA 74 1 3,L 75 74,X 76 1 73 75,L 77 76,Bn 78 .gtr 77 0,V 4 78]
 .ret)
 (O [Bk 80 .eql 6 .u8 26,V 79 80]
 (.cond (.tmp 79)
 (O [FA 81 16 2,L 82 81,FA 83 2 3,L 84 83,X 85 1 82 84,L 86 85,Bn 87 .eql 86 1,V 4 87]
 .ret)
 .skip))))))))))))))
 (O [T 4 false]
 .ret))),[.tmp 4],88⟩
theorem c_r4blocked_is:qDp Proofs.Try.prog Proofs.Try.f66=some (qCw qEf):=by kernel_rfl
theorem call_r4blocked:qDv 66 qEf 88:=fun hl k=>qBq (by kernel_rfl) (by kernel_rfl) c_r4blocked_is (by kernel_rfl) hl k
def qKl:AFn :=
⟨(O [⟨some 2,none,.e (.box 19 19 (.tmp 0)),[]⟩,T 4 false]
 (.seq (O [V 5 1,Bn 6 .lss 5 0,V 7 6,Gd 7 false (V 8 1),Gd 7 false (FA 9 7 2),Gd 7 false (L 10 9),Gd 7 false (Ln 11 10),Gd 7 false (B 12 .geq 8 11),⟨some 13,none,.q (.pick (.tmp 7) (.const (.bool true)) (.tmp 12)),[]⟩,V 14 13,Gd 14 false (FA 15 8 2),Gd 14 false (L 16 15),Gd 14 false (V 17 1),Gd 14 false (X 18 1 16 17),Gd 14 false (L 19 18),Gd 14 false (Bn 20 .eql 19 0),⟨some 21,none,.q (.pick (.tmp 14) (.const (.bool true)) (.tmp 20)),[]⟩,V 22 21,Gd 22 false (FA 23 7 2),Gd 22 false (L 24 23),Gd 22 false (V 25 1),Gd 22 false (X 26 1 24 25),Gd 22 false (L 27 26),Gd 22 false (FA 28 0 2),Gd 22 false (FA 29 6 28),Gd 22 false (L 30 29),Gd 22 false (V 31 1),Gd 22 false (X 32 1 30 31),Gd 22 false (L 33 32),Gd 22 false (Ln 34 33),Gd 22 false (B 35 .geq 27 34),⟨some 36,none,.q (.pick (.tmp 22) (.const (.bool true)) (.tmp 35)),[]⟩,V 37 36,Gd 37 false (FA 38 18 2),Gd 37 false (L 39 38),Gd 37 false (Bn 40 .eql 39 1),⟨some 41,none,.q (.pick (.tmp 37) (.const (.bool true)) (.tmp 40)),[]⟩]
 (.cond (.tmp 41)
 (O [T 4 false]
 .ret)
 .skip))
 (O [LA 42 19 2,FA 43 0 2,FA 44 6 43,L 45 44,V 46 1,X 47 1 45 46,L 48 47,FA 49 7 2,L 50 49,V 51 1,X 52 1 50 51,L 53 52,X 54 4 48 53,LA 55 4 54,⟨some 56,none,.call 66 [(.tmp 42),(.tmp 55)],[]⟩,Nt 57 56,V 4 57]
 .ret))),[.tmp 4],58⟩
theorem c_r4Can_is:qDp Proofs.Try.prog Proofs.Try.f44=some (qCw qKl):=by kernel_rfl
theorem call_r4Can:qDv 44 qKl 58:=fun hl k=>qBq (by kernel_rfl) (by kernel_rfl) c_r4Can_is (by kernel_rfl) hl k
def qMz:AFn :=
⟨(O [N 2 0]
 (.seq (O [V 3 0]
 (.cond (.tmp 3)
 (O [N 2 1]
 .ret)
 .skip))
 (O [N 2 0]
 .ret))),[.tmp 2],4⟩
theorem c_r4number_is:qDp Proofs.Try.prog Proofs.Try.f45=some (qCw qMz):=by kernel_rfl
theorem call_r4number:qDv 45 qMz 4:=fun hl k=>qBq (by kernel_rfl) (by kernel_rfl) c_r4number_is (by kernel_rfl) hl k
def qQz:AFn :=
⟨(O [⟨some 2,none,.e (.box 19 19 (.tmp 0)),[]⟩,⟨some 4,none,.e (.new [(.int .i64 0),(.int .i64 0),(.int .i64 0),(.slice none 0 0),(.int .i64 0),(.int .i64 0),(.slice none 0 0),(.slice none 0 0),(.slice none 0 0),(.slice none 0 0),(.slice none 0 0),(.slice none 0 0),(.slice none 0 0),(.slice none 0 0),(.slice none 0 0),(.slice none 0 0),(.slice none 0 0),(.slice none 0 0),(.int .i64 0)] 19),[]⟩,⟨some 5,none,.e (.new [(.int .i64 0),(.int .i64 0),(.int .u8 0),(.int .i64 0),(.int .i64 0),(.int .i64 0)] 6),[]⟩,T 6 false]
 (.seq (O [LA 11 19 2,V 12 1,⟨some 13,none,.call 44 [(.tmp 11),(.tmp 12)],[]⟩,Nt 14 13]
 (.cond (.tmp 14)
 (O [LA 15 19 2,⟨some 16,none,.q (.build [(.int .i64 0),(.int .i64 0),(.int .u8 0),(.int .i64 0),(.int .i64 0),(.int .i64 0)] []),[]⟩,⟨none,none,.e (.store 19 (.tmp 4) (.tmp 15)),[]⟩,⟨none,none,.e (.store 6 (.tmp 5) (.tmp 16)),[]⟩,T 6 false]
 .ret)
 .skip))
 (O [LA 17 19 2,⟨some 18,none,.call 22 [(.tmp 17)],[]⟩,⟨some 7,none,.e (.new [(.int .i64 0),(.int .i64 0),(.int .i64 0),(.slice none 0 0),(.int .i64 0),(.int .i64 0),(.slice none 0 0),(.slice none 0 0),(.slice none 0 0),(.slice none 0 0),(.slice none 0 0),(.slice none 0 0),(.slice none 0 0),(.slice none 0 0),(.slice none 0 0),(.slice none 0 0),(.slice none 0 0),(.slice none 0 0),(.int .i64 0)] 19),[]⟩,⟨none,none,.e (.store 19 (.tmp 7) (.tmp 18)),[]⟩]
 (O [FA 19 0 7,FA 20 6 19,L 21 20,V 22 1,X 23 1 21 22,L 24 23,FA 25 7 7,L 26 25,V 27 1,X 28 1 26 27,L 29 28,X 30 4 24 29,LA 31 4 30,⟨some 8,none,.e (.new [(.int .u8 0),(.int .i64 0),(.int .i64 0),(.int .i64 0)] 4),[]⟩,⟨none,none,.e (.store 4 (.tmp 8) (.tmp 31)),[]⟩]
 (O [V 32 1,FA 33 7 7,L 34 33,V 35 1,X 36 1 34 35,L 37 36,FA 38 0 8,L 39 38,⟨some 40,none,.q (.build [(.int .i64 0),(.int .i64 0),(.int .u8 0),(.int .i64 0),(.int .i64 0),(.int .i64 0)] [(0,1,(.tmp 32)),(1,1,(.tmp 37)),(2,1,(.tmp 39))]),[]⟩,⟨some 9,none,.e (.new [(.int .i64 0),(.int .i64 0),(.int .u8 0),(.int .i64 0),(.int .i64 0),(.int .i64 0)] 6),[]⟩,⟨none,none,.e (.store 6 (.tmp 9) (.tmp 40)),[]⟩]
 (O [FA 41 7 7,L 42 41,V 43 1,X 44 1 42 43,L 45 44,Bn 46 .add 45 1,X 47 1 42 43,S 47 46]
 (O [FA 48 9 7,L 49 48,V 50 1,X 51 1 49 50,L 52 51,V 10 52]
 (.seq (O [FA 53 0 8,L 54 53]
 (.block 0 (O [Bk 64 .eql 54 .u8 1,V 63 64]
 (.cond (.tmp 63)
 (.ops [V 65 10,FA 66 1 8,L 67 66,FA 68 2 8,L 69 68,X 70 1 65 67,S 70 69])
 (O [Bk 72 .eql 54 .u8 2,V 71 72]
 (.cond (.tmp 71)
 (.ops [V 73 10,FA 74 1 8,L 75 74,V 76 10,FA 77 2 8,L 78 77,X 79 1 76 78,L 80 79,X 81 1 73 75,S 81 80])
 (O [Bk 83 .eql 54 .u8 3,V 82 83]
 (.cond (.tmp 82)
 (.ops [V 84 10,FA 85 1 8,L 86 85,V 87 10,FA 88 2 8,L 89 88,X 90 1 87 89,L 91 90,V 92 10,FA 93 3 8,L 94 93,X 95 1 92 94,L 96 95,B 97 .add 91 96,X 98 1 84 86,S 98 97])
 (O [Bk 100 .eql 54 .u8 4,V 99 100]
 (.cond (.tmp 99)
 (.ops [V 101 10,FA 102 1 8,L 103 102,V 104 10,FA 105 2 8,L 106 105,X 107 1 104 106,L 108 107,V 109 10,FA 110 3 8,L 111 110,X 112 1 109 111,L 113 112,B 114 .sub 108 113,X 115 1 101 103,S 115 114])
 (O [Bk 117 .eql 54 .u8 5,V 116 117]
 (.cond (.tmp 116)
 (.ops [V 118 10,FA 119 1 8,L 120 119,V 121 10,FA 122 2 8,L 123 122,X 124 1 121 123,L 125 124,V 126 10,FA 127 3 8,L 128 127,X 129 1 126 128,L 130 129,B 131 .mul 125 130,X 132 1 118 120,S 132 131])
 (O [Bk 134 .eql 54 .u8 6,V 133 134]
 (.cond (.tmp 133)
 (.ops [V 135 10,FA 136 1 8,L 137 136,V 138 10,FA 139 2 8,L 140 139,X 141 1 138 140,L 142 141,V 143 10,FA 144 3 8,L 145 144,X 146 1 143 145,L 147 146,B 148 .lss 142 147,⟨some 149,none,.call 45 [(.tmp 148)],[.load (.tmp 136)]⟩,X 150 1 135 137,S 150 149])
 (O [Bk 152 .eql 54 .u8 7,V 151 152]
 (.cond (.tmp 151)
 (O [V 153 10,FA 154 1 8,L 155 154,FA 156 10 7,L 157 156,FA 158 2 8,L 159 158,X 160 1 157 159,L 161 160,X 162 1 153 155,S 162 161]
 (O [FA 163 2 8,L 164 163,FA 165 3 9,S 165 164]
 (.ops [V 166 10,FA 167 1 8,L 168 167,X 169 1 166 168,L 170 169,FA 171 4 9,S 171 170])))
 (O [Bk 173 .eql 54 .u8 8,V 172 173]
 (.cond (.tmp 172)
 (O [FA 174 10 7,L 175 174,FA 176 1 8,L 177 176,V 178 10,FA 179 2 8,L 180 179,X 181 1 178 180,L 182 181,X 183 1 175 177,S 183 182]
 (O [FA 184 1 8,L 185 184,FA 186 3 9,S 186 185]
 (.ops [V 187 10,FA 188 2 8,L 189 188,X 190 1 187 189,L 191 190,FA 192 4 9,S 192 191])))
 (O [Bk 194 .eql 54 .u8 9,V 193 194]
 (.cond (.tmp 193)
 (O [FA 195 17 7,L 196 195,V 197 10,FA 198 1 8,L 199 198,X 200 1 197 199,L 201 200,⟨some 202,none,.e (.lit [(.int .i64 0)] 1 1 [(0,1,(.tmp 201))]),[]⟩,Ap 203 1 196 202,FA 204 17 7,S 204 203]
 (.ops [V 205 10,FA 206 1 8,L 207 206,X 208 1 205 207,L 209 208,FA 210 4 9,S 210 209]))
 (O [Bk 212 .eql 54 .u8 10,V 211 212]
 (.cond (.tmp 211)
 (.ops [FA 213 7 7,L 214 213,V 215 1,FA 216 1 8,L 217 216,X 218 1 214 215,S 218 217])
 (O [Bk 220 .eql 54 .u8 11,V 219 220]
 (.cond (.tmp 219)
 (O [V 221 10,FA 222 1 8,L 223 222,X 224 1 221 223,L 225 224,Bn 226 .eql 225 0]
 (.cond (.tmp 226)
 (.ops [FA 227 7 7,L 228 227,V 229 1,FA 230 2 8,L 231 230,X 232 1 228 229,S 232 231])
 .skip))
 (O [LA 55 19 7,V 56 1,LA 57 4 8,LA 58 6 9,⟨some 59,none,.call 46 [(.tmp 55),(.tmp 56),(.tmp 57),(.tmp 58)],[]⟩,⟨some 60,none,.q (.ext (.tmp 59) 0),[]⟩,⟨some 61,none,.q (.ext (.tmp 59) 1),[]⟩,⟨some 62,none,.q (.ext (.tmp 59) 2),[]⟩,⟨none,none,.e (.store 19 (.tmp 4) (.tmp 60)),[]⟩,⟨none,none,.e (.store 6 (.tmp 5) (.tmp 61)),[]⟩,V 6 62]
 .ret)))))))))))))))))))))))))
 (O [LA 233 19 7,LA 234 6 9,⟨none,none,.e (.store 19 (.tmp 4) (.tmp 233)),[.loadA 6 (.tmp 9)]⟩,⟨none,none,.e (.store 6 (.tmp 5) (.tmp 234)),[]⟩,T 6 true]
 .ret))))))))),[.cells 4 19,.cells 5 6,.tmp 6],235⟩
theorem c_r4Step_is:qDp Proofs.Try.prog Proofs.Try.f16=some (qCw qQz):=by kernel_rfl
theorem call_r4Step:qDv 16 qQz 235:=fun hl k=>qBq (by kernel_rfl) (by kernel_rfl) c_r4Step_is (by kernel_rfl) hl k
def qDw:AFn :=
⟨(O [⟨some 4,none,.e (.box 19 19 (.tmp 0)),[]⟩,⟨some 6,none,.e (.box 4 4 (.tmp 2)),[]⟩,⟨some 7,none,.e (.box 6 6 (.tmp 3)),[]⟩,⟨some 8,none,.e (.new [(.int .i64 0),(.int .i64 0),(.int .i64 0),(.slice none 0 0),(.int .i64 0),(.int .i64 0),(.slice none 0 0),(.slice none 0 0),(.slice none 0 0),(.slice none 0 0),(.slice none 0 0),(.slice none 0 0),(.slice none 0 0),(.slice none 0 0),(.slice none 0 0),(.slice none 0 0),(.slice none 0 0),(.slice none 0 0),(.int .i64 0)] 19),[]⟩,⟨some 9,none,.e (.new [(.int .i64 0),(.int .i64 0),(.int .u8 0),(.int .i64 0),(.int .i64 0),(.int .i64 0)] 6),[]⟩,T 10 false]
 (O [FA 12 9 4,L 13 12,V 14 1,X 15 1 13 14,L 16 15,V 11 16]
 (O [FA 17 1 6,L 18 17,FA 19 3 7,S 19 18]
 (.seq (O [FA 20 0 6,L 21 20]
 (.block 0 (O [Bk 31 .eql 21 .u8 0,V 30 31]
 (.cond (.tmp 30)
 (.ops [FA 32 3 7,⟨none,none,.e (.store 1 (.tmp 32) (.const (.int .i64 0))),[]⟩])
 (O [Bk 34 .eql 21 .u8 12,V 33 34]
 (.cond (.tmp 33)
 (O [FA 35 8 4,L 36 35,FA 37 1 6,L 38 37,X 39 1 36 38,L 40 39,FA 41 18 4,S 41 40]
 (.ops [FA 42 8 4,L 43 42,FA 44 1 6,L 45 44,X 46 1 43 45,⟨none,none,.e (.store 1 (.tmp 46) (.const (.int .i64 1))),[]⟩]))
 (O [Bk 48 .eql 21 .u8 13,V 47 48]
 (.cond (.tmp 47)
 (.ops [FA 49 12 4,L 50 49,FA 51 1 6,L 52 51,X 53 1 50 52,⟨none,none,.e (.store 1 (.tmp 53) (.const (.int .i64 (-1)))),[]⟩])
 (O [Bk 55 .eql 21 .u8 14,V 54 55]
 (.cond (.tmp 54)
 (O [FA 56 12 4,L 57 56,FA 58 1 6,L 59 58,X 60 1 57 59,L 61 60,Bn 62 .neq 61 (-1),⟨some 63,none,.call 45 [(.tmp 62)],[]⟩,FA 64 18 4,S 64 63]
 (O [FA 65 18 4,L 66 65,Bn 67 .eql 66 0]
 (.cond (.tmp 67)
 (.ops [FA 68 12 4,L 69 68,FA 70 1 6,L 71 70,X 72 1 69 71,⟨none,none,.e (.store 1 (.tmp 72) (.const (.int .i64 0))),[]⟩])
 .skip)))
 (O [Bk 74 .eql 21 .u8 15,V 73 74]
 (.cond (.tmp 73)
 (.ops [FA 75 12 4,L 76 75,FA 77 1 6,L 78 77,X 79 1 76 78,L 80 79,Bn 81 .add 80 1,X 82 1 76 78,S 82 81])
 (O [Bk 84 .eql 21 .u8 16,V 83 84]
 (.cond (.tmp 83)
 (O [FA 85 12 4,L 86 85,FA 87 1 6,L 88 87,X 89 1 86 88,L 90 89,Bn 91 .lss 90 1,⟨some 92,none,.call 45 [(.tmp 91)],[]⟩,FA 93 18 4,S 93 92]
 (O [FA 94 18 4,L 95 94,Bn 96 .eql 95 0]
 (.cond (.tmp 96)
 (.ops [FA 97 12 4,L 98 97,FA 99 1 6,L 100 99,X 101 1 98 100,L 102 101,Bn 103 .sub 102 1,X 104 1 98 100,S 104 103])
 .skip)))
 (O [Bk 106 .eql 21 .u8 18,V 105 106]
 (.cond (.tmp 105)
 (O [FA 107 11 4,L 108 107,FA 109 1 6,L 110 109,V 111 11,FA 112 2 6,L 113 112,X 114 1 111 113,L 115 114,X 116 1 108 110,S 116 115]
 (.ops [V 117 11,FA 118 2 6,L 119 118,X 120 1 117 119,L 121 120,FA 122 4 7,S 122 121]))
 (O [Bk 124 .eql 21 .u8 24,V 123 124]
 (.cond (.tmp 123)
 (O [FA 125 2 6,L 126 125,FA 127 4 7,S 127 126]
 (O [FA 128 15 4,L 129 128,FA 130 1 6,L 131 130,X 132 1 129 131,L 133 132,FA 134 2 6,L 135 134,B 136 .add 133 135,Bn 137 .lss 136 0,⟨some 138,none,.call 45 [(.tmp 137)],[]⟩,FA 139 18 4,S 139 138]
 (O [FA 140 18 4,L 141 140,Bn 142 .eql 141 0]
 (.cond (.tmp 142)
 (.ops [FA 143 15 4,L 144 143,FA 145 1 6,L 146 145,X 147 1 144 146,L 148 147,FA 149 2 6,L 150 149,B 151 .add 148 150,X 152 1 144 146,S 152 151])
 .skip))))
 (O [Bk 154 .eql 21 .u8 27,V 153 154]
 (.cond (.tmp 153)
 (O [FA 155 16 4,L 156 155,FA 157 1 6,L 158 157,X 159 1 156 158,L 160 159,Bn 161 .neq 160 1,⟨some 162,none,.call 45 [(.tmp 161)],[]⟩,FA 163 18 4,S 163 162]
 (O [FA 164 18 4,L 165 164,Bn 166 .eql 165 0]
 (.cond (.tmp 166)
 (.ops [FA 167 16 4,L 168 167,FA 169 1 6,L 170 169,X 171 1 168 170,⟨none,none,.e (.store 1 (.tmp 171) (.const (.int .i64 2))),[]⟩])
 .skip)))
 (O [Bk 173 .eql 21 .u8 20,V 172 173]
 (.cond (.tmp 172)
 (O [V 174 11,FA 175 2 6,L 176 175,X 177 1 174 176,L 178 177,FA 179 4 7,S 179 178]
 (O [FA 180 14 4,L 181 180,FA 182 1 6,L 183 182,X 184 1 181 183,L 185 184,FA 186 18 4,S 186 185]
 (O [FA 187 18 4,L 188 187,Bn 189 .eql 188 0]
 (.cond (.tmp 189)
 (.ops [FA 190 13 4,L 191 190,FA 192 1 6,L 193 192,FA 194 13 4,L 195 194,FA 196 1 6,L 197 196,X 198 1 195 197,L 199 198,V 200 11,FA 201 2 6,L 202 201,X 203 1 200 202,L 204 203,⟨some 205,none,.e (.lit [(.int .i64 0)] 1 1 [(0,1,(.tmp 204))]),[]⟩,⟨some 206,none,.e (.app 1 (.tmp 199) (.tmp 205)),[.load (.tmp 190),.load (.tmp 192)]⟩,X 207 1 191 193,S 207 206])
 .skip))))
 (O [Bk 209 .eql 21 .u8 23,V 208 209]
 (.cond (.tmp 208)
 (O [FA 210 14 4,L 211 210,FA 212 1 6,L 213 212,X 214 1 211 213,L 215 214,FA 216 18 4,S 216 215]
 (.ops [FA 217 14 4,L 218 217,FA 219 1 6,L 220 219,X 221 1 218 220,⟨none,none,.e (.store 1 (.tmp 221) (.const (.int .i64 1))),[]⟩]))
 (O [Bk 223 .eql 21 .u8 25,V 222 223]
 (.cond (.tmp 222)
 .skip
 (O [LA 22 19 4,V 23 1,LA 24 4 6,LA 25 6 7,⟨some 26,none,.call 67 [(.tmp 22),(.tmp 23),(.tmp 24),(.tmp 25)],[]⟩,⟨some 27,none,.q (.ext (.tmp 26) 0),[]⟩,⟨some 28,none,.q (.ext (.tmp 26) 1),[]⟩,⟨some 29,none,.q (.ext (.tmp 26) 2),[]⟩,⟨none,none,.e (.store 19 (.tmp 8) (.tmp 27)),[]⟩,⟨none,none,.e (.store 6 (.tmp 9) (.tmp 28)),[]⟩,V 10 29]
 .ret)))))))))))))))))))))))))))
 (O [LA 224 19 4,LA 225 6 7,⟨none,none,.e (.store 19 (.tmp 8) (.tmp 224)),[.loadA 6 (.tmp 7)]⟩,⟨none,none,.e (.store 6 (.tmp 9) (.tmp 225)),[]⟩,T 10 true]
 .ret))))),[.cells 8 19,.cells 9 6,.tmp 10],226⟩
theorem c_r4sync_is:qDp Proofs.Try.prog Proofs.Try.f46=some (qCw qDw):=by kernel_rfl
theorem call_r4sync:qDv 46 qDw 226:=fun hl k=>qBq (by kernel_rfl) (by kernel_rfl) c_r4sync_is (by kernel_rfl) hl k
def qEr:AFn :=
⟨(O [⟨some 4,none,.e (.box 19 19 (.tmp 0)),[]⟩,⟨some 6,none,.e (.box 4 4 (.tmp 2)),[]⟩,⟨some 7,none,.e (.box 6 6 (.tmp 3)),[]⟩,⟨some 8,none,.e (.new [(.int .i64 0),(.int .i64 0),(.int .i64 0),(.slice none 0 0),(.int .i64 0),(.int .i64 0),(.slice none 0 0),(.slice none 0 0),(.slice none 0 0),(.slice none 0 0),(.slice none 0 0),(.slice none 0 0),(.slice none 0 0),(.slice none 0 0),(.slice none 0 0),(.slice none 0 0),(.slice none 0 0),(.slice none 0 0),(.int .i64 0)] 19),[]⟩,⟨some 9,none,.e (.new [(.int .i64 0),(.int .i64 0),(.int .u8 0),(.int .i64 0),(.int .i64 0),(.int .i64 0)] 6),[]⟩,T 10 false]
 (O [FA 12 9 4,L 13 12,V 14 1,X 15 1 13 14,L 16 15,V 11 16]
 (O [FA 17 2 6,L 18 17,FA 19 3 7,S 19 18]
 (.seq (O [FA 20 0 6,L 21 20]
 (.block 0 (O [Bk 23 .eql 21 .u8 17,V 22 23]
 (.cond (.tmp 22)
 (O [V 24 11,FA 25 1 6,L 26 25,FA 27 11 4,L 28 27,FA 29 2 6,L 30 29,X 31 1 28 30,L 32 31,X 33 1 24 26,S 33 32]
 (.ops [V 34 11,FA 35 1 6,L 36 35,X 37 1 34 36,L 38 37,FA 39 4 7,S 39 38]))
 (O [Bk 41 .eql 21 .u8 19,V 40 41]
 (.cond (.tmp 40)
 (O [FA 42 11 4,L 43 42,FA 44 2 6,L 45 44,X 46 1 43 45,L 47 46,FA 48 4 7,S 48 47]
 (O [FA 49 11 4,L 50 49,FA 51 2 6,L 52 51,X 53 1 50 52,L 54 53,V 55 11,FA 56 3 6,L 57 56,X 58 1 55 57,L 59 58,B 60 .add 54 59,X 61 1 50 52,S 61 60]
 (.ops [V 62 11,FA 63 1 6,L 64 63,FA 65 4 7,L 66 65,X 67 1 62 64,S 67 66])))
 (O [Bk 69 .eql 21 .u8 26,V 68 69]
 (.cond (.tmp 68)
 (O [FA 70 16 4,L 71 70,FA 72 2 6,L 73 72,X 74 1 71 73,L 75 74,Bn 76 .eql 75 0,⟨some 77,none,.call 45 [(.tmp 76)],[]⟩,FA 78 5 7,S 78 77]
 (.seq (O [FA 79 5 7,L 80 79,Bn 81 .eql 80 1]
 (.cond (.tmp 81)
 (.ops [FA 82 16 4,L 83 82,FA 84 2 6,L 85 84,X 86 1 83 85,⟨none,none,.e (.store 1 (.tmp 86) (.const (.int .i64 1))),[]⟩])
 .skip))
 (.ops [V 87 11,FA 88 1 6,L 89 88,FA 90 5 7,L 91 90,X 92 1 87 89,S 92 91])))
 (.seq (O [Bk 94 .eql 21 .u8 21,V 93 94]
 (.cond (.tmp 93)
 .skip
 (.ops [Bk 95 .eql 21 .u8 22,V 93 95])))
 (.cond (.tmp 93)
 (.seq (O [FA 96 13 4,L 97 96,FA 98 2 6,L 99 98,X 100 1 97 99,L 101 100,Ln 102 101,Bn 103 .gtr 102 0]
 (.cond (.tmp 103)
 (O [FA 104 5 7,⟨none,none,.e (.store 1 (.tmp 104) (.const (.int .i64 1))),[]⟩]
 (O [FA 105 13 4,L 106 105,FA 107 2 6,L 108 107,X 109 1 106 108,L 110 109,⟨some 111,none,.q (.idxA 1 (.tmp 110) (.const (.int .i64 0))),[]⟩,L 112 111,FA 113 4 7,S 113 112]
 (.ops [FA 114 13 4,L 115 114,FA 116 2 6,L 117 116,FA 118 13 4,L 119 118,FA 120 2 6,L 121 120,X 122 1 119 121,L 123 122,⟨some 124,none,.q (.cut 1 (.tmp 123) (some (.const (.int .i64 1))) none),[]⟩,X 125 1 115 117,S 125 124])))
 (O [FA 126 14 4,L 127 126,FA 128 2 6,L 129 128,X 130 1 127 129,L 131 130,Bn 132 .eql 131 1]
 (.cond (.tmp 132)
 (.ops [FA 133 5 7,⟨none,none,.e (.store 1 (.tmp 133) (.const (.int .i64 2))),[]⟩])
 .skip))))
 (O [V 134 11,FA 135 1 6,L 136 135,FA 137 4 7,L 138 137,X 139 1 134 136,S 139 138]
 (O [FA 140 0 6,L 141 140,Bk 142 .eql 141 .u8 22]
 (.cond (.tmp 142)
 (.ops [V 143 11,FA 144 3 6,L 145 144,FA 146 5 7,L 147 146,Bn 148 .eql 147 1,⟨some 149,none,.call 45 [(.tmp 148)],[.load (.tmp 144)]⟩,X 150 1 143 145,S 150 149])
 .skip))))
 .skip))))))))))
 (O [LA 151 19 4,LA 152 6 7,⟨none,none,.e (.store 19 (.tmp 8) (.tmp 151)),[.loadA 6 (.tmp 7)]⟩,⟨none,none,.e (.store 6 (.tmp 9) (.tmp 152)),[]⟩,T 10 true]
 .ret))))),[.cells 8 19,.cells 9 6,.tmp 10],153⟩
theorem c_r4taken_is:qDp Proofs.Try.prog Proofs.Try.f67=some (qCw qEr):=by kernel_rfl
theorem call_r4taken:qDv 67 qEr 153:=fun hl k=>qBq (by kernel_rfl) (by kernel_rfl) c_r4taken_is (by kernel_rfl) hl k
def qNa:AFn :=
⟨(O [⟨some 1,none,.e (.box 19 19 (.tmp 0)),[]⟩,⟨some 2,none,.q (.val (.const (.int .u8 0))),[]⟩]
 (.seq (O [FA 5 18 1,L 6 5,Bn 7 .eql 6 1]
 (.cond (.tmp 7)
 (O [⟨some 2,none,.q (.val (.const (.int .u8 3))),[]⟩]
 .ret)
 .skip))
 (O [T 3 true]
 (.seq (O [N 4 0]
 (.block 0 (.loop (.seq (O [V 8 4,FA 9 7 1,L 10 9,Ln 11 10,B 12 .lss 8 11]
 (.cond (.tmp 12)
 .skip
 (.exit 0)))
 (.seq (.block 1 (.seq (O [LA 15 19 1,V 16 4,⟨some 17,none,.call 44 [(.tmp 15),(.tmp 16)],[]⟩]
 (.cond (.tmp 17)
 (O [⟨some 2,none,.q (.val (.const (.int .u8 0))),[]⟩]
 .ret)
 .skip))
 (O [FA 18 8 1,L 19 18,V 20 4,X 21 1 19 20,L 22 21,Bn 23 .eql 22 1,V 24 23,Gd 24 true (FA 25 7 1),Gd 24 true (L 26 25),Gd 24 true (V 27 4),Gd 24 true (X 28 1 26 27),Gd 24 true (L 29 28),Gd 24 true (FA 30 0 1),Gd 24 true (FA 31 6 30),Gd 24 true (L 32 31),Gd 24 true (V 33 4),Gd 24 true (X 34 1 32 33),Gd 24 true (L 35 34),Gd 24 true (Ln 36 35),Gd 24 true (B 37 .lss 29 36),Pk 38 24 37 false]
 (.cond (.tmp 38)
 (.ops [T 3 false])
 .skip))))
 (.ops [V 13 4,Bn 14 .add 13 1,V 4 14]))))))
 (.seq (O [V 39 3]
 (.cond (.tmp 39)
 (O [⟨some 2,none,.q (.val (.const (.int .u8 1))),[]⟩]
 .ret)
 .skip))
 (O [⟨some 2,none,.q (.val (.const (.int .u8 2))),[]⟩]
 .ret)))))),[.tmp 2],40⟩
theorem c_r4Status_is:qDp Proofs.Try.prog Proofs.Try.f24=some (qCw qNa):=by kernel_rfl
theorem call_r4Status:qDv 24 qNa 40:=fun hl k=>qBq (by kernel_rfl) (by kernel_rfl) c_r4Status_is (by kernel_rfl) hl k
def qSs:AFn :=
⟨(O [E 2]
 (O [E 3]
 (.seq (O [N 4 0]
 (.block 0 (.loop (.seq (O [V 5 4,V 6 0,Ln 7 6,B 8 .lss 5 7,V 9 8,Gd 9 true (V 10 4),Gd 9 true (Bn 11 .lss 10 60),Pk 12 9 11 false]
 (.cond (.tmp 12)
 .skip
 (.exit 0)))
 (.seq (.block 1 (.ops [V 15 3,V 16 0,V 17 4,X 18 1 16 17,L 19 18,Bk 20 .rem 19 .u8 13,Cv' 21 .i64 20,Bn 22 .quo 21 4,⟨some 23,none,.e (.lit [(.int .i64 0)] 1 1 [(0,1,(.tmp 22))]),[]⟩,Ap 24 1 15 23,V 3 24]))
 (.ops [V 13 4,Bn 14 .add 13 1,V 4 14]))))))
 (O [V 25 3,V 2 25]
 .ret)))),[.tmp 2],26⟩
theorem c_Picks_is:qDp Proofs.Try.prog Proofs.Try.f15=some (qCw qSs):=by kernel_rfl
theorem call_Picks:qDv 15 qSs 26:=fun hl k=>qBq (by kernel_rfl) (by kernel_rfl) c_Picks_is (by kernel_rfl) hl k
end Pm

/- Codes of the program's functions, as a program printed them, and that they are what the program's functions are compiled to.
   No condition: plain facts. -/
namespace Pm
set_option linter.unusedSimpArgs false
set_option linter.unusedVariables false
open Go Am
set_option maxRecDepth 100000
def qFi:AFn :=
⟨(O [⟨some 3,none,.e (.box 7 7 (.tmp 0)),[]⟩,N 6 0]
 (.seq (O [V 7 1]
 (.block 0 (.seq (O [Bn 9 .eql 7 2,V 8 9]
 (.cond (.tmp 8)
 .skip
 (.ops [Bn 10 .eql 7 3,V 8 10])))
 (.cond (.tmp 8)
 (O [N 6 4]
 .ret)
 (O [Bn 12 .eql 7 4,V 11 12]
 (.cond (.tmp 11)
 (O [FA 13 0 3,L 14 13,V 6 14]
 .ret)
 (O [Bn 16 .eql 7 5,V 15 16]
 (.cond (.tmp 15)
 (O [V 17 2,Bn 18 .add 17 1,V 6 18]
 .ret)
 (O [Bn 20 .eql 7 6,V 19 20]
 (.cond (.tmp 19)
 (O [FA 21 6 3,L 22 21,Ln 23 22,V 6 23]
 .ret)
 (O [Bn 25 .eql 7 7,V 24 25]
 (.cond (.tmp 24)
 (O [FA 26 2 3,L 27 26,V 6 27]
 .ret)
 (O [Bn 29 .eql 7 8,V 28 29]
 (.cond (.tmp 28)
 (O [FA 30 1 3,L 31 30,V 6 31]
 .ret)
 (O [Bn 33 .eql 7 9,V 32 33]
 (.cond (.tmp 32)
 (O [FA 34 3 3,L 35 34,Ln 36 35,V 6 36]
 .ret)
 (O [Bn 38 .eql 7 10,V 37 38]
 (.cond (.tmp 37)
 (O [FA 39 4 3,L 40 39,V 6 40]
 .ret)
 .skip))))))))))))))))))
 (O [FA 41 5 3,L 42 41,V 6 42]
 .ret))),[.tmp 6],43⟩
theorem c_R2many_is:qDp Proofs.Try.prog Proofs.Try.f78=some (qCw qFi):=by kernel_rfl
theorem call_R2many:qDv 78 qFi 43:=fun hl k=>qBq (by kernel_rfl) (by kernel_rfl) c_R2many_is (by kernel_rfl) hl k
def qSr:AFn :=
⟨(O [⟨some 3,none,.e (.box 7 7 (.tmp 0)),[]⟩,⟨some 4,none,.e (.box 4 4 (.tmp 1)),[]⟩,N 6 0]
 (O [FA 11 0 4,L 12 11,⟨some 13,none,.call 76 [(.tmp 12)],[]⟩,V 7 13]
 (O [LA 14 4 4,⟨some 15,none,.call 77 [(.tmp 14)],[]⟩,V 8 15]
 (.seq (O [N 9 0]
 (.block 0 (.loop (.seq (O [V 16 9,Bn 17 .lss 16 3]
 (.cond (.tmp 17)
 .skip
 (.exit 0)))
 (.seq (.block 1 (O [FA 20 0 4,L 21 20,Bk 22 .gtr 21 .u8 27,V 23 22,Gd 23 false (V 24 7),Gd 23 false (V 25 9),Gd 23 false (X 26 1 24 25),Gd 23 false (L 27 26),Gd 23 false (Bn 28 .eql 27 0),Gd 23 false (V 29 28),Gd 29 true (V 30 8),Gd 29 true (V 31 9),Gd 29 true (X 32 1 30 31),Gd 29 true (L 33 32),Gd 29 true (Bn 34 .neq 33 0),Gd 23 false (Pk 35 29 34 false),⟨some 36,none,.q (.pick (.tmp 23) (.const (.bool true)) (.tmp 35)),[]⟩]
 (.cond (.tmp 36)
 (O [N 6 20]
 .ret)
 .skip)))
 (.ops [V 18 9,Bn 19 .add 18 1,V 9 19]))))))
 (.seq (O [N 10 0]
 (.block 2 (.loop (.seq (O [V 37 10,Bn 38 .lss 37 3]
 (.cond (.tmp 38)
 .skip
 (.exit 2)))
 (.seq (.block 3 (.seq (O [V 41 7,V 42 10,X 43 1 41 42,L 44 43,Bn 45 .eql 44 0,V 46 45,Gd 46 false (V 47 7),Gd 46 false (V 48 10),Gd 46 false (X 49 1 47 48),Gd 46 false (L 50 49),Gd 46 false (Bn 51 .eql 50 1),⟨some 52,none,.q (.pick (.tmp 46) (.const (.bool true)) (.tmp 51)),[]⟩]
 (.cond (.tmp 52)
 (.exit 3)
 .skip))
 (O [V 53 8,V 54 10,X 55 1 53 54,L 56 55,Bn 57 .lss 56 0,V 58 57,Gd 58 false (V 59 8),Gd 58 false (V 60 10),Gd 58 false (X 61 1 59 60),Gd 58 false (L 62 61),Gd 58 false (LA 63 7 3),Gd 58 false (V 64 7),Gd 58 false (V 65 10),Gd 58 false (X 66 1 64 65),Gd 58 false (L 67 66),Gd 58 false (V 68 2),⟨some 69,some (58,false),.st (.call 78 [(.tmp 63),(.tmp 67),(.tmp 68)]),[.load (.tmp 61)]⟩,Gd 58 false (B 70 .geq 62 69),⟨some 71,none,.q (.pick (.tmp 58) (.const (.bool true)) (.tmp 70)),[]⟩,V 72 71,Gd 72 false (V 73 7),Gd 72 false (V 74 10),Gd 72 false (X 75 1 73 74),Gd 72 false (L 76 75),Gd 72 false (Bn 77 .eql 76 6),Gd 72 false (V 78 77),Gd 78 true (V 79 8),Gd 78 true (V 80 10),Gd 78 true (X 81 1 79 80),Gd 78 true (L 82 81),Gd 78 true (Bn 83 .eql 82 0),Gd 72 false (Pk 84 78 83 false),⟨some 85,none,.q (.pick (.tmp 72) (.const (.bool true)) (.tmp 84)),[]⟩]
 (.cond (.tmp 85)
 (O [N 6 21]
 .ret)
 .skip))))
 (.ops [V 39 10,Bn 40 .add 39 1,V 10 40]))))))
 (O [N 6 0]
 .ret)))))),[.tmp 6],86⟩
theorem c_R2ins_is:qDp Proofs.Try.prog Proofs.Try.f56=some (qCw qSr):=by kernel_rfl
theorem call_R2ins:qDv 56 qSr 86:=fun hl k=>qBq (by kernel_rfl) (by kernel_rfl) c_R2ins_is (by kernel_rfl) hl k
def qOw:AFn :=
⟨(O [⟨some 1,none,.e (.box 7 7 (.tmp 0)),[]⟩,N 2 0]
 (O [FA 11 0 1,L 12 11,Bn 13 .lss 12 0,V 14 13,Gd 14 false (FA 15 0 1),Gd 14 false (L 16 15),Gd 14 false (Bn 17 .gtr 16 8),⟨some 18,none,.q (.pick (.tmp 14) (.const (.bool true)) (.tmp 17)),[]⟩,V 19 18,Gd 19 false (FA 20 3 1),Gd 19 false (L 21 20),Gd 19 false (Ln 22 21),Gd 19 false (Bn 23 .gtr 22 4),⟨some 24,none,.q (.pick (.tmp 19) (.const (.bool true)) (.tmp 23)),[]⟩,V 25 24,Gd 25 false (FA 26 6 1),Gd 25 false (L 27 26),Gd 25 false (Ln 28 27),Gd 25 false (Bn 29 .lss 28 1),⟨some 30,none,.q (.pick (.tmp 25) (.const (.bool true)) (.tmp 29)),[]⟩,V 31 30,Gd 31 false (FA 32 6 1),Gd 31 false (L 33 32),Gd 31 false (Ln 34 33),Gd 31 false (Bn 35 .gtr 34 6),⟨some 36,none,.q (.pick (.tmp 31) (.const (.bool true)) (.tmp 35)),[]⟩,V 3 36]
 (O [FA 37 1 1,L 38 37,FA 39 2 1,L 40 39,FA 41 4 1,L 42 41,FA 43 5 1,L 44 43,⟨some 45,none,.e (.lit [(.int .i64 0),(.int .i64 0),(.int .i64 0),(.int .i64 0)] 1 4 [(0,1,(.tmp 38)),(1,1,(.tmp 40)),(2,1,(.tmp 42)),(3,1,(.tmp 44))]),[]⟩,V 4 45]
 (.seq (O [N 5 0]
 (.block 0 (.loop (.seq (O [V 46 5,Bn 47 .lss 46 4]
 (.cond (.tmp 47)
 .skip
 (.exit 0)))
 (.seq (.block 1 (.ops [V 50 3,V 51 50,Gd 51 false (V 52 4),Gd 51 false (V 53 5),Gd 51 false (X 54 1 52 53),Gd 51 false (L 55 54),Gd 51 false (Bn 56 .lss 55 0),⟨some 57,none,.q (.pick (.tmp 51) (.const (.bool true)) (.tmp 56)),[]⟩,V 58 57,Gd 58 false (V 59 4),Gd 58 false (V 60 5),Gd 58 false (X 61 1 59 60),Gd 58 false (L 62 61),Gd 58 false (Bn 63 .gtr 62 4),⟨some 64,none,.q (.pick (.tmp 58) (.const (.bool true)) (.tmp 63)),[]⟩,V 3 64]))
 (.ops [V 48 5,Bn 49 .add 48 1,V 5 49]))))))
 (.seq (O [N 6 0]
 (.block 2 (.loop (.seq (O [V 65 6,FA 66 6 1,L 67 66,Ln 68 67,B 69 .lss 65 68]
 (.cond (.tmp 69)
 .skip
 (.exit 2)))
 (.seq (.block 3 (.ops [V 72 3,V 73 72,Gd 73 false (FA 74 6 1),Gd 73 false (L 75 74),Gd 73 false (V 76 6),Gd 73 false (X 77 1 75 76),Gd 73 false (L 78 77),Gd 73 false (Ln 79 78),Gd 73 false (Bn 80 .gtr 79 60),⟨some 81,none,.q (.pick (.tmp 73) (.const (.bool true)) (.tmp 80)),[]⟩,V 3 81]))
 (.ops [V 70 6,Bn 71 .add 70 1,V 6 71]))))))
 (.seq (O [V 82 3]
 (.cond (.tmp 82)
 (O [N 2 3]
 .ret)
 .skip))
 (.seq (O [N 7 0]
 (.block 4 (.loop (.seq (O [V 83 7,FA 84 3 1,L 85 84,Ln 86 85,B 87 .lss 83 86]
 (.cond (.tmp 87)
 .skip
 (.exit 4)))
 (.seq (.block 5 (O [FA 90 3 1,L 91 90,V 92 7,X 93 1 91 92,L 94 93,Bn 95 .lss 94 1,V 96 95,Gd 96 false (FA 97 3 1),Gd 96 false (L 98 97),Gd 96 false (V 99 7),Gd 96 false (X 100 1 98 99),Gd 96 false (L 101 100),Gd 96 false (Bn 102 .gtr 101 3),⟨some 103,none,.q (.pick (.tmp 96) (.const (.bool true)) (.tmp 102)),[]⟩]
 (.cond (.tmp 103)
 (O [N 2 21]
 .ret)
 .skip)))
 (.ops [V 88 7,Bn 89 .add 88 1,V 7 89]))))))
 (.seq (O [N 8 0]
 (.block 6 (.loop (.seq (O [V 104 8,FA 105 6 1,L 106 105,Ln 107 106,B 108 .lss 104 107]
 (.cond (.tmp 108)
 .skip
 (.exit 6)))
 (.seq (.block 7 (O [N 9 0]
 (.block 8 (.loop (.seq (O [V 111 9,FA 112 6 1,L 113 112,V 114 8,X 115 1 113 114,L 116 115,Ln 117 116,B 118 .lss 111 117]
 (.cond (.tmp 118)
 .skip
 (.exit 8)))
 (.seq (.block 9 (O [LA 121 7 1,FA 122 6 1,L 123 122,V 124 8,X 125 1 123 124,L 126 125,V 127 9,X 128 4 126 127,LA 129 4 128,FA 130 6 1,L 131 130,V 132 8,X 133 1 131 132,L 134 133,Ln 135 134,⟨some 136,none,.call 56 [(.tmp 121),(.tmp 129),(.tmp 135)],[]⟩,V 10 136]
 (O [V 137 10,Bn 138 .neq 137 0]
 (.cond (.tmp 138)
 (O [V 139 10,V 2 139]
 .ret)
 .skip))))
 (.ops [V 119 9,Bn 120 .add 119 1,V 9 120])))))))
 (.ops [V 109 8,Bn 110 .add 109 1,V 8 110]))))))
 (O [N 2 0]
 .ret))))))))),[.tmp 2],140⟩
theorem c_R2Sound_is:qDp Proofs.Try.prog Proofs.Try.f26=some (qCw qOw):=by kernel_rfl
theorem call_R2Sound:qDv 26 qOw 140:=fun hl k=>qBq (by kernel_rfl) (by kernel_rfl) c_R2Sound_is (by kernel_rfl) hl k
end Pm

/- Codes of the program's functions, as a program printed them, and that they are what the program's functions are compiled to.
   No condition: plain facts. -/
namespace Pm
set_option linter.unusedSimpArgs false
set_option linter.unusedVariables false
open Go Am
set_option maxRecDepth 100000
def qNb:AFn :=
⟨(O [T 12 false]
 (O [V 24 0,⟨some 25,none,.call 13 [(.tmp 24)],[]⟩,⟨some 13,none,.e (.new [(.int .i64 0),(.int .i64 0),(.int .i64 0),(.slice none 0 0),(.int .i64 0),(.int .i64 0),(.slice none 0 0)] 7),[]⟩,⟨none,none,.e (.store 7 (.tmp 13) (.tmp 25)),[]⟩]
 (O [LA 27 7 13,⟨some 28,none,.call 14 [(.tmp 27)],[]⟩,V 26 28,⟨some 29,none,.q (.ext (.tmp 26) 0),[]⟩,⟨some 30,none,.q (.ext (.tmp 26) 1),[]⟩,⟨some 14,none,.e (.new [(.int .i64 0),(.int .i64 0),(.int .i64 0),(.slice none 0 0),(.int .i64 0),(.int .i64 0),(.slice none 0 0),(.slice none 0 0),(.slice none 0 0),(.slice none 0 0),(.slice none 0 0),(.slice none 0 0),(.slice none 0 0),(.slice none 0 0),(.slice none 0 0),(.slice none 0 0),(.slice none 0 0),(.slice none 0 0),(.int .i64 0)] 19),[]⟩,⟨none,none,.e (.store 19 (.tmp 14) (.tmp 29)),[]⟩,V 15 30]
 (O [V 31 1,⟨some 32,none,.call 15 [(.tmp 31)],[]⟩,V 16 32]
 (.seq (O [N 17 0]
 (.block 0 (.loop (.seq (O [V 33 17,V 34 16,Ln 35 34,B 36 .lss 33 35]
 (.cond (.tmp 36)
 .skip
 (.exit 0)))
 (.seq (.block 1 (.ops [LA 40 19 14,V 41 16,V 42 17,X 43 1 41 42,L 44 43,⟨some 45,none,.call 16 [(.tmp 40),(.tmp 44)],[]⟩,V 39 45,⟨some 46,none,.q (.ext (.tmp 39) 0),[]⟩,⟨some 47,none,.q (.ext (.tmp 39) 1),[]⟩,⟨some 48,none,.q (.ext (.tmp 39) 2),[]⟩,⟨none,none,.e (.store 19 (.tmp 14) (.tmp 46)),[]⟩]))
 (.ops [V 37 17,Bn 38 .add 37 1,V 17 38]))))))
 (O [V 49 3,Cv' 50 .i64 49,FA 51 6 13,L 52 51,Ln 53 52,B 54 .rem 50 53,V 18 54]
 (O [V 55 4,Bk 56 .rem 55 .u8 4,Cv' 57 .i64 56,V 19 57]
 (O [FA 58 6 13,L 59 58,V 60 18,X 61 1 59 60,L 62 61,Z 4 62,⟨some 63,none,.call 19 [(.tmp 62)],[]⟩,V 20 63]
 (.seq (O [V 64 20,Ln 65 64,FA 66 6 13,L 67 66,V 68 18,X 69 1 67 68,L 70 69,Ln 71 70,B 72 .neq 65 71]
 (.cond (.tmp 72)
 (O [T 12 false]
 .ret)
 .skip))
 (.seq (O [FA 73 7 14,L 74 73,V 75 18,X 76 1 74 75,L 77 76,V 78 20,Ln 79 78,B 80 .lss 77 79,V 81 80,Gd 81 true (V 82 20),Gd 81 true (FA 83 7 14),Gd 81 true (L 84 83),Gd 81 true (V 85 18),Gd 81 true (X 86 1 84 85),Gd 81 true (L 87 86),Gd 81 true (X 88 1 82 87),Gd 81 true (L 89 88),Gd 81 true (V 90 19),⟨some 91,some (81,true),.call 20 [(.tmp 89),(.tmp 90)],[]⟩,Pk 92 81 91 false]
 (.cond (.tmp 92)
 (O [⟨some 93,none,.call 21 [],[]⟩,V 12 93]
 .ret)
 .skip))
 (O [LA 94 19 14,⟨some 95,none,.call 22 [(.tmp 94)],[]⟩,⟨some 21,none,.e (.new [(.int .i64 0),(.int .i64 0),(.int .i64 0),(.slice none 0 0),(.int .i64 0),(.int .i64 0),(.slice none 0 0),(.slice none 0 0),(.slice none 0 0),(.slice none 0 0),(.slice none 0 0),(.slice none 0 0),(.slice none 0 0),(.slice none 0 0),(.slice none 0 0),(.slice none 0 0),(.slice none 0 0),(.slice none 0 0),(.int .i64 0)] 19),[]⟩,⟨none,none,.e (.store 19 (.tmp 21) (.tmp 95)),[]⟩]
 (O [FA 96 9 21,L 97 96,V 98 18,X 99 1 97 98,L 100 99,V 101 19,V 102 5,X 103 1 100 101,S 103 102,ZZ]
 (O [V 104 2,⟨some 105,none,.call 15 [(.tmp 104)],[]⟩,V 22 105]
 (.seq (O [N 23 0]
 (.block 2 (.loop (.seq (O [V 106 23,V 107 22,Ln 108 107,B 109 .lss 106 108]
 (.cond (.tmp 109)
 .skip
 (.exit 2)))
 (.seq (.block 3 (O [LA 113 19 14,V 114 22,V 115 23,X 116 1 114 115,L 117 116,⟨some 118,none,.call 16 [(.tmp 113),(.tmp 117)],[]⟩,V 112 118,⟨some 119,none,.q (.ext (.tmp 112) 0),[]⟩,⟨some 120,none,.q (.ext (.tmp 112) 1),[]⟩,⟨some 121,none,.q (.ext (.tmp 112) 2),[]⟩,⟨none,none,.e (.store 19 (.tmp 14) (.tmp 119)),[]⟩]
 (.ops [LA 123 19 21,V 124 22,V 125 23,X 126 1 124 125,L 127 126,⟨some 128,none,.call 16 [(.tmp 123),(.tmp 127)],[]⟩,V 122 128,⟨some 129,none,.q (.ext (.tmp 122) 0),[]⟩,⟨some 130,none,.q (.ext (.tmp 122) 1),[]⟩,⟨some 131,none,.q (.ext (.tmp 122) 2),[]⟩,⟨none,none,.e (.store 19 (.tmp 21) (.tmp 129)),[]⟩])))
 (.ops [V 110 23,Bn 111 .add 110 1,V 23 111]))))))
 (O [⟨some 132,none,.call 21 [],[]⟩,V 133 132,Gd 133 true (FA 134 17 14),Gd 133 true (L 135 134),Gd 133 true (FA 136 17 21),Gd 133 true (L 137 136),⟨some 138,some (133,true),.call 23 [(.tmp 135),(.tmp 137)],[]⟩,Pk 139 133 138 false,V 140 139,Gd 140 true (LA 141 19 14),Gd 140 true (LA 143 19 21),⟨some 142,some (140,true),.st (.call 24 [(.tmp 141)]),[.loadA 19 (.tmp 21)]⟩,⟨some 144,some (140,true),.call 24 [(.tmp 143)],[]⟩,Gd 140 true (B 145 .eql 142 144),Pk 146 140 145 false,V 147 146,Gd 147 true (FA 148 7 14),Gd 147 true (L 149 148),Gd 147 true (FA 150 7 21),Gd 147 true (L 151 150),⟨some 152,some (147,true),.call 23 [(.tmp 149),(.tmp 151)],[]⟩,Pk 153 147 152 false,V 12 153]
 .ret))))))))))))))),[.tmp 12],154⟩
theorem c_LiveRuns_is:qDp Proofs.Try.prog Proofs.Try.f5=some (qCw qNb):=by kernel_rfl
theorem call_LiveRuns:qDv 5 qNb 154:=fun hl k=>qBq (by kernel_rfl) (by kernel_rfl) c_LiveRuns_is (by kernel_rfl) hl k
end Pm
