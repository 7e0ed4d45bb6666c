/- Codes of the program's functions, as a program printed them, and that they are what the program's functions are compiled to.
   No condition: plain facts. -/

import Derived.KernelRfl
import Derived.Test.YtdiggaadgjkgkaaDoorZLPm5
import Derived.Test.YtdiggaadgjkgkaaDoorProg
namespace Pm
set_option linter.unusedSimpArgs false
set_option linter.unusedVariables false
open Go Am
set_option maxRecDepth 100000
end Pm
/- Codes of the program's functions, as a program printed them, and that they are what the program's functions are compiled to.
   No condition: plain facts. -/
namespace Pm
set_option linter.unusedSimpArgs false
set_option linter.unusedVariables false
open Go Am
set_option maxRecDepth 100000
@[irreducible] def qNf:ByteArray:=⟨#[0,1,2,2,3,3,3,3,4,4,4,4,4,4,4,4,5,5,5,5,5,5,5,5,5,5,5,5,5,5,5,5,6,6,6,6,6,6,6,6,6,6,6,6,6,6,6,6,6,6,6,6,6,6,6,6,6,6,6,6,6,6,6,6,7,7,7,7,7,7,7,7,7,7,7,7,7,7,7,7,7,7,7,7,7,7,7,7,7,7,7,7,7,7,7,7,7,7,7,7,7,7,7,7,7,7,7,7,7,7,7,7,7,7,7,7,7,7,7,7,7,7,7,7,7,7,7,7,8,8,8,8,8,8,8,8,8,8,8,8,8,8,8,8,8,8,8,8,8,8,8,8,8,8,8,8,8,8,8,8,8,8,8,8,8,8,8,8,8,8,8,8,8,8,8,8,8,8,8,8,8,8,8,8,8,8,8,8,8,8,8,8,8,8,8,8,8,8,8,8,8,8,8,8,8,8,8,8,8,8,8,8,8,8,8,8,8,8,8,8,8,8,8,8,8,8,8,8,8,8,8,8,8,8,8,8,8,8,8,8,8,8,8,8,8,8,8,8,8,8,8,8,8,8,8,8]⟩
abbrev qCs (f:FuncId) (c:AFn) (n:Nat):Prop:=∀ {args:List Value} {h:Heap} {K:Value→Heap→Prop},args.length≤n→pwp Proofs.Tryd.prog c.body (qAs c.results K) (qBw args) h→qBj Proofs.Tryd.prog f args h K
def c_SortI:AFn :=
⟨(O [V 3 0,Ln 4 3,V 2 4]
 (.ops [V 5 0,V 6 2,V 7 2,Cv' 8 .u64 7,⟨some 9,none,.call 47 [(.tmp 8)],[]⟩,⟨some 10,none,.call 46 [(.tmp 5),(.const (.int .i64 0)),(.tmp 6),(.tmp 9)],[]⟩])),[],11⟩
theorem call_SortI:qCs 23 c_SortI 11:=fun hl k=>qBh (fn:=Proofs.Tryd.f23) (by kernel_rfl) (by kernel_rfl) (by kernel_rfl) (by kernel_rfl) hl k
def c_pdqI:AFn :=
⟨(O [T 8 true]
 (O [T 9 true]
 (.block 0 (.loop (.block 1 (O [V 19 2,V 20 1,B 21 .sub 19 20,V 10 21]
 (.seq (O [V 22 10,Bn 23 .leq 22 12]
 (.cond (.tmp 23)
 (O [V 24 0,V 25 1,V 26 2,⟨some 27,none,.call 65 [(.tmp 24),(.tmp 25),(.tmp 26)],[]⟩]
 .ret)
 .skip))
 (.seq (O [V 28 3,Bn 29 .eql 28 0]
 (.cond (.tmp 29)
 (O [V 30 0,V 31 1,V 32 2,⟨some 33,none,.call 66 [(.tmp 30),(.tmp 31),(.tmp 32)],[]⟩]
 .ret)
 .skip))
 (.seq (O [V 34 8,Nt 35 34]
 (.cond (.tmp 35)
 (O [V 36 0,V 37 1,V 38 2,⟨some 39,none,.call 67 [(.tmp 36),(.tmp 37),(.tmp 38)],[]⟩]
 (.ops [V 40 3,Bn 41 .sub 40 1,V 3 41]))
 .skip))
 (O [V 43 0,V 44 1,V 45 2,⟨some 46,none,.call 68 [(.tmp 43),(.tmp 44),(.tmp 45)],[]⟩,V 42 46,⟨some 47,none,.q (.ext (.tmp 42) 0),[]⟩,⟨some 48,none,.q (.ext (.tmp 42) 1),[]⟩,V 11 47,V 12 48]
 (.seq (O [V 49 12,Bn 50 .eql 49 2]
 (.cond (.tmp 50)
 (O [V 51 0,V 52 1,V 53 2,⟨some 54,none,.call 69 [(.tmp 51),(.tmp 52),(.tmp 53)],[]⟩]
 (O [V 55 2,Bn 56 .sub 55 1,V 57 11,V 58 1,B 59 .sub 57 58,B 60 .sub 56 59,V 11 60]
 (.ops [N 12 1])))
 .skip))
 (.seq (O [V 61 8,V 62 61,Gd 62 true (V 63 9),Pk 64 62 63 false,V 65 64,Gd 65 true (V 66 12),Gd 65 true (Bn 67 .eql 66 1),Pk 68 65 67 false]
 (.cond (.tmp 68)
 (O [V 69 0,V 70 1,V 71 2,⟨some 72,none,.call 70 [(.tmp 69),(.tmp 70),(.tmp 71)],[]⟩]
 (.cond (.tmp 72)
 .ret
 .skip))
 .skip))
 (.seq (O [V 73 1,Bn 74 .gtr 73 0,V 75 74,Gd 75 true (V 76 0),Gd 75 true (V 77 1),Gd 75 true (Bn 78 .sub 77 1),Gd 75 true (X 79 1 76 78),Gd 75 true (L 80 79),Gd 75 true (V 81 0),Gd 75 true (V 82 11),Gd 75 true (X 83 1 81 82),Gd 75 true (L 84 83),⟨some 85,some (75,true),.call 71 [(.tmp 80),(.tmp 84)],[]⟩,Gd 75 true (Nt 86 85),Pk 87 75 86 false]
 (.cond (.tmp 87)
 (O [V 88 0,V 89 1,V 90 2,V 91 11,⟨some 92,none,.call 72 [(.tmp 88),(.tmp 89),(.tmp 90),(.tmp 91)],[]⟩,V 13 92]
 (O [V 93 13,V 1 93]
 (.exit 1)))
 .skip))
 (O [V 95 0,V 96 1,V 97 2,V 98 11,⟨some 99,none,.call 73 [(.tmp 95),(.tmp 96),(.tmp 97),(.tmp 98)],[]⟩,V 94 99,⟨some 100,none,.q (.ext (.tmp 94) 0),[]⟩,⟨some 101,none,.q (.ext (.tmp 94) 1),[]⟩,V 14 100,V 15 101]
 (O [V 102 15,V 9 102]
 (O [V 103 14,V 104 1,B 105 .sub 103 104,V 106 2,V 107 14,B 108 .sub 106 107,V 16 105,V 17 108]
 (O [V 109 10,Bn 110 .quo 109 8,V 18 110]
 (O [V 111 16,V 112 17,B 113 .lss 111 112]
 (.cond (.tmp 113)
 (O [V 114 16,V 115 18,B 116 .geq 114 115,V 8 116]
 (O [V 117 0,V 118 1,V 119 14,V 120 3,⟨some 121,none,.call 46 [(.tmp 117),(.tmp 118),(.tmp 119),(.tmp 120)],[]⟩]
 (.ops [V 122 14,Bn 123 .add 122 1,V 1 123])))
 (O [V 124 17,V 125 18,B 126 .geq 124 125,V 8 126]
 (O [V 127 0,V 128 14,Bn 129 .add 128 1,V 130 2,V 131 3,⟨some 132,none,.call 46 [(.tmp 127),(.tmp 129),(.tmp 130),(.tmp 131)],[]⟩]
 (.ops [V 133 14,V 2 133])))))))))))))))))))))),[],134⟩
theorem call_pdqI:qCs 46 c_pdqI 134:=fun hl k=>qBh (fn:=Proofs.Tryd.f46) (by kernel_rfl) (by kernel_rfl) (by kernel_rfl) (by kernel_rfl) hl k
def qPy:AFn :=
⟨(O [V 8 1,Bn 9 .add 8 1,V 6 9]
 (.block 0 (.loop (.seq (O [V 10 6,V 11 2,B 12 .lss 10 11]
 (.cond (.tmp 12)
 .skip
 (.exit 0)))
 (.seq (.block 1 (O [V 15 6,V 7 15]
 (.block 2 (.loop (.seq (O [V 16 7,V 17 1,B 18 .gtr 16 17,V 19 18,Gd 19 true (V 20 0),Gd 19 true (V 21 7),Gd 19 true (X 22 1 20 21),Gd 19 true (L 23 22),Gd 19 true (V 24 0),Gd 19 true (V 25 7),Gd 19 true (Bn 26 .sub 25 1),Gd 19 true (X 27 1 24 26),Gd 19 true (L 28 27),⟨some 29,some (19,true),.call 71 [(.tmp 23),(.tmp 28)],[]⟩,Pk 30 19 29 false]
 (.cond (.tmp 30)
 .skip
 (.exit 2)))
 (.seq (.block 3 (.ops [V 33 0,V 34 7,V 35 0,V 36 7,Bn 37 .sub 36 1,V 38 0,V 39 7,Bn 40 .sub 39 1,X 41 1 38 40,L 42 41,V 43 0,V 44 7,X 45 1 43 44,L 46 45,X 47 1 33 34,S 47 42,X 48 1 35 37,S 48 46]))
 (.ops [V 31 7,Bn 32 .sub 31 1,V 7 32])))))))
 (.ops [V 13 6,Bn 14 .add 13 1,V 6 14])))))),[],49⟩
theorem call_insI:qCs 65 qPy 49:=fun hl k=>qBh (fn:=Proofs.Tryd.f65) (by kernel_rfl) (by kernel_rfl) (by kernel_rfl) (by kernel_rfl) hl k
def c_LessI:AFn :=
⟨(O [T 4 false]
 (O [V 5 0,⟨some 6,none,.call 85 [(.tmp 5)],[]⟩,V 7 6,Gd 7 true (V 8 1),⟨some 9,some (7,true),.call 85 [(.tmp 8)],[]⟩,Gd 7 true (Nt 10 9),Pk 11 7 10 false,V 12 11,Gd 12 false (V 13 0),Gd 12 false (V 14 1),Gd 12 false (B 15 .lss 13 14),⟨some 16,none,.q (.pick (.tmp 12) (.const (.bool true)) (.tmp 15)),[]⟩,V 4 16]
 .ret)),[.tmp 4],17⟩
theorem call_LessI:qCs 71 c_LessI 17:=fun hl k=>qBh (fn:=Proofs.Tryd.f71) (by kernel_rfl) (by kernel_rfl) (by kernel_rfl) (by kernel_rfl) hl k
def c_isNaNI:AFn :=
⟨(O [T 2 false]
 (O [V 3 0,V 4 0,B 5 .neq 3 4,V 2 5]
 .ret)),[.tmp 2],6⟩
theorem call_isNaNI:qCs 85 c_isNaNI 6:=fun hl k=>qBh (fn:=Proofs.Tryd.f85) (by kernel_rfl) (by kernel_rfl) (by kernel_rfl) (by kernel_rfl) hl k
def c_LenU:AFn :=
⟨(O [N 2 0]
 (.seq (.cond (.const (.bool false))
 (O [V 3 0,Cv' 4 .u32 3,⟨some 5,none,.call 74 [(.tmp 4)],[]⟩,V 2 5]
 .ret)
 .skip)
 (O [V 6 0,⟨some 7,none,.call 75 [(.tmp 6)],[]⟩,V 2 7]
 .ret))),[.tmp 2],8⟩
theorem call_LenU:qCs 47 c_LenU 8:=fun hl k=>qBh (fn:=Proofs.Tryd.f47) (by kernel_rfl) (by kernel_rfl) (by kernel_rfl) (by kernel_rfl) hl k
def c_Len64:AFn :=
⟨(O [N 2 0]
 (.seq (O [V 3 0,Bk 4 .geq 3 .u64 4294967296]
 (.cond (.tmp 4)
 (O [V 5 0,Bk 6 .shr 5 .u64 32,V 0 6]
 (.ops [N 2 32]))
 .skip))
 (.seq (O [V 7 0,Bk 8 .geq 7 .u64 65536]
 (.cond (.tmp 8)
 (O [V 9 0,Bk 10 .shr 9 .u64 16,V 0 10]
 (.ops [V 11 2,Bn 12 .add 11 16,V 2 12]))
 .skip))
 (.seq (O [V 13 0,Bk 14 .geq 13 .u64 256]
 (.cond (.tmp 14)
 (O [V 15 0,Bk 16 .shr 15 .u64 8,V 0 16]
 (.ops [V 17 2,Bn 18 .add 17 8,V 2 18]))
 .skip))
 (O [V 19 2,V 20 0,Cv' 21 .u8 20,⟨some 22,none,.q (.idxS (.const (.string qNf)) (.tmp 21)),[]⟩,Cv' 23 .i64 22,B 24 .add 19 23,V 2 24]
 .ret))))),[.tmp 2],25⟩
theorem call_Len64:qCs 75 c_Len64 25:=fun hl k=>qBh (fn:=Proofs.Tryd.f75) (by kernel_rfl) (by kernel_rfl) (by kernel_rfl) (by kernel_rfl) hl k
def qKc:AFn :=
⟨(O [E 2]
 (.seq (O [V 6 0,Ln 7 6,Bn 8 .lss 7 2]
 (.cond (.tmp 8)
 (O [V 9 0,V 2 9]
 .ret)
 .skip))
 (.seq (O [N 3 1]
 (.block 0 (.loop (.seq (O [V 10 3,V 11 0,Ln 12 11,B 13 .lss 10 12]
 (.cond (.tmp 13)
 .skip
 (.exit 0)))
 (.seq (.block 1 (O [V 16 0,V 17 3,X 18 1 16 17,L 19 18,V 20 0,V 21 3,Bn 22 .sub 21 1,X 23 1 20 22,L 24 23,B 25 .eql 19 24]
 (.cond (.tmp 25)
 (O [V 26 0,V 27 3,⟨some 28,none,.q (.cut 1 (.tmp 26) (some (.tmp 27)) none),[]⟩,V 4 28]
 (.seq (O [N 5 1]
 (.block 2 (.loop (.seq (O [V 29 5,V 30 4,Ln 31 30,B 32 .lss 29 31]
 (.cond (.tmp 32)
 .skip
 (.exit 2)))
 (.seq (.block 3 (O [V 35 4,V 36 5,X 37 1 35 36,L 38 37,V 39 4,V 40 5,Bn 41 .sub 40 1,X 42 1 39 41,L 43 42,B 44 .neq 38 43]
 (.cond (.tmp 44)
 (O [V 45 0,V 46 3,V 47 4,V 48 5,X 49 1 47 48,L 50 49,X 51 1 45 46,S 51 50]
 (.ops [V 52 3,Bn 53 .add 52 1,V 3 53]))
 .skip)))
 (.ops [V 33 5,Bn 34 .add 33 1,V 5 34]))))))
 (O [V 54 0,V 55 3,⟨some 56,none,.q (.cut 1 (.tmp 54) (some (.tmp 55)) none),[]⟩,⟨none,none,.e (.clear [(.int .i64 0)] (.tmp 56)),[]⟩]
 (O [V 57 0,V 58 3,⟨some 59,none,.q (.cut 1 (.tmp 57) none (some (.tmp 58))),[]⟩,V 2 59]
 .ret))))
 .skip)))
 (.ops [V 14 3,Bn 15 .add 14 1,V 3 15]))))))
 (O [V 60 0,V 2 60]
 .ret)))),[.tmp 2],61⟩
theorem call_CompactI:qCs 24 qKc 61:=fun hl k=>qBh (fn:=Proofs.Tryd.f24) (by kernel_rfl) (by kernel_rfl) (by kernel_rfl) (by kernel_rfl) hl k
def c_Succs:AFn :=
⟨(O [E 2]
 (O [V 7 0,Ln 8 7,⟨some 9,none,.e (.make [(.slice none 0 0)] 1 (.tmp 8) (.tmp 8)),[]⟩,V 3 9]
 (.seq (O [V 10 0,Ln 11 10,N 12 0]
 (.block 0 (.loop (O [B 13 .lss 12 11]
 (.seq (.cond (.tmp 13)
 .skip
 (.exit 0))
 (.seq (.block 1 (O [V 14 12,X 15 4 10 12,LA 16 4 15,⟨some 5,none,.e (.new [(.int .u8 0),(.int .i64 0),(.int .i64 0),(.int .i64 0)] 4),[]⟩,V 4 14,⟨none,none,.e (.store 4 (.tmp 5) (.tmp 16)),[]⟩]
 (O [V 17 4,Bn 18 .add 17 1,⟨some 19,none,.e (.lit [(.int .i64 0)] 1 1 [(0,1,(.tmp 18))]),[]⟩,V 6 19]
 (.seq (O [FA 20 0 5,L 21 20]
 (.block 2 (O [Bk 23 .eql 21 .u8 10,V 22 23]
 (.cond (.tmp 22)
 (.ops [V 24 6,FA 25 1 5,L 26 25,⟨some 27,none,.q (.idxA 1 (.tmp 24) (.const (.int .i64 0))),[]⟩,S 27 26])
 (O [Bk 29 .eql 21 .u8 11,V 28 29]
 (.cond (.tmp 28)
 (.ops [V 30 6,FA 31 2 5,L 32 31,⟨some 33,none,.e (.lit [(.int .i64 0)] 1 1 [(0,1,(.tmp 32))]),[]⟩,Ap 34 1 30 33,V 6 34])
 .skip))))))
 (O [V 35 6,⟨some 36,none,.call 23 [(.tmp 35)],[]⟩]
 (.ops [V 37 3,V 38 4,V 39 6,⟨some 40,none,.call 24 [(.tmp 39)],[]⟩,Z 1 40,X 41 1 37 38,S 41 40]))))))
 (.ops [Bn 42 .add 12 1,V 12 42])))))))
 (O [V 43 3,V 2 43]
 .ret)))),[.tmp 2],44⟩
theorem call_Succs:qCs 11 c_Succs 44:=fun hl k=>qBh (fn:=Proofs.Tryd.f11) (by kernel_rfl) (by kernel_rfl) (by kernel_rfl) (by kernel_rfl) hl k
end Pm
/- Codes of the program's functions, as a program printed them, and that they are what the program's functions are compiled to.
   No condition: plain facts. -/
namespace Pm
set_option linter.unusedSimpArgs false
set_option linter.unusedVariables false
open Go Am
set_option maxRecDepth 100000
end Pm

/- Codes of the program's functions, as a program printed them, and that they are what the program's functions are compiled to.
   No condition: plain facts. -/
namespace Pm
set_option linter.unusedSimpArgs false
set_option linter.unusedVariables false
open Go Am
set_option maxRecDepth 100000
@[irreducible] def z196:List Value:=[(.string ⟨#[]⟩),(.int .u8 0),(.int .u8 0),(.int .u8 0),(.bool false),(.bool false),(.bool false),(.string ⟨#[]⟩),(.int .u8 0),(.int .u8 0),(.int .u8 0),(.bool false),(.bool false),(.bool false),(.string ⟨#[]⟩),(.int .u8 0),(.int .u8 0),(.int .u8 0),(.bool false),(.bool false),(.bool false),(.string ⟨#[]⟩),(.int .u8 0),(.int .u8 0),(.int .u8 0),(.bool false),(.bool false),(.bool false),(.string ⟨#[]⟩),(.int .u8 0),(.int .u8 0),(.int .u8 0),(.bool false),(.bool false),(.bool false),(.string ⟨#[]⟩),(.int .u8 0),(.int .u8 0),(.int .u8 0),(.bool false),(.bool false),(.bool false),(.string ⟨#[]⟩),(.int .u8 0),(.int .u8 0),(.int .u8 0),(.bool false),(.bool false),(.bool false),(.string ⟨#[]⟩),(.int .u8 0),(.int .u8 0),(.int .u8 0),(.bool false),(.bool false),(.bool false),(.string ⟨#[]⟩),(.int .u8 0),(.int .u8 0),(.int .u8 0),(.bool false),(.bool false),(.bool false),(.string ⟨#[]⟩),(.int .u8 0),(.int .u8 0),(.int .u8 0),(.bool false),(.bool false),(.bool false),(.string ⟨#[]⟩),(.int .u8 0),(.int .u8 0),(.int .u8 0),(.bool false),(.bool false),(.bool false),(.string ⟨#[]⟩),(.int .u8 0),(.int .u8 0),(.int .u8 0),(.bool false),(.bool false),(.bool false),(.string ⟨#[]⟩),(.int .u8 0),(.int .u8 0),(.int .u8 0),(.bool false),(.bool false),(.bool false),(.string ⟨#[]⟩),(.int .u8 0),(.int .u8 0),(.int .u8 0),(.bool false),(.bool false),(.bool false),(.string ⟨#[]⟩),(.int .u8 0),(.int .u8 0),(.int .u8 0),(.bool false),(.bool false),(.bool false),(.string ⟨#[]⟩),(.int .u8 0),(.int .u8 0),(.int .u8 0),(.bool false),(.bool false),(.bool false),(.string ⟨#[]⟩),(.int .u8 0),(.int .u8 0),(.int .u8 0),(.bool false),(.bool false),(.bool false),(.string ⟨#[]⟩),(.int .u8 0),(.int .u8 0),(.int .u8 0),(.bool false),(.bool false),(.bool false),(.string ⟨#[]⟩),(.int .u8 0),(.int .u8 0),(.int .u8 0),(.bool false),(.bool false),(.bool false),(.string ⟨#[]⟩),(.int .u8 0),(.int .u8 0),(.int .u8 0),(.bool false),(.bool false),(.bool false),(.string ⟨#[]⟩),(.int .u8 0),(.int .u8 0),(.int .u8 0),(.bool false),(.bool false),(.bool false),(.string ⟨#[]⟩),(.int .u8 0),(.int .u8 0),(.int .u8 0),(.bool false),(.bool false),(.bool false),(.string ⟨#[]⟩),(.int .u8 0),(.int .u8 0),(.int .u8 0),(.bool false),(.bool false),(.bool false),(.string ⟨#[]⟩),(.int .u8 0),(.int .u8 0),(.int .u8 0),(.bool false),(.bool false),(.bool false),(.string ⟨#[]⟩),(.int .u8 0),(.int .u8 0),(.int .u8 0),(.bool false),(.bool false),(.bool false),(.string ⟨#[]⟩),(.int .u8 0),(.int .u8 0),(.int .u8 0),(.bool false),(.bool false),(.bool false),(.string ⟨#[]⟩),(.int .u8 0),(.int .u8 0),(.int .u8 0),(.bool false),(.bool false),(.bool false),(.string ⟨#[]⟩),(.int .u8 0),(.int .u8 0),(.int .u8 0),(.bool false),(.bool false),(.bool false)]
def c_shapes:AFn :=
⟨(O [⟨some 0,none,.e (.new [(.string ⟨#[]⟩),(.int .u8 0),(.int .u8 0),(.int .u8 0),(.bool false),(.bool false),(.bool false),(.string ⟨#[]⟩),(.int .u8 0),(.int .u8 0),(.int .u8 0),(.bool false),(.bool false),(.bool false),(.string ⟨#[]⟩),(.int .u8 0),(.int .u8 0),(.int .u8 0),(.bool false),(.bool false),(.bool false),(.string ⟨#[]⟩),(.int .u8 0),(.int .u8 0),(.int .u8 0),(.bool false),(.bool false),(.bool false),(.string ⟨#[]⟩),(.int .u8 0),(.int .u8 0),(.int .u8 0),(.bool false),(.bool false),(.bool false),(.string ⟨#[]⟩),(.int .u8 0),(.int .u8 0),(.int .u8 0),(.bool false),(.bool false),(.bool false),(.string ⟨#[]⟩),(.int .u8 0),(.int .u8 0),(.int .u8 0),(.bool false),(.bool false),(.bool false),(.string ⟨#[]⟩),(.int .u8 0),(.int .u8 0),(.int .u8 0),(.bool false),(.bool false),(.bool false),(.string ⟨#[]⟩),(.int .u8 0),(.int .u8 0),(.int .u8 0),(.bool false),(.bool false),(.bool false),(.string ⟨#[]⟩),(.int .u8 0),(.int .u8 0),(.int .u8 0),(.bool false),(.bool false),(.bool false),(.string ⟨#[]⟩),(.int .u8 0),(.int .u8 0),(.int .u8 0),(.bool false),(.bool false),(.bool false),(.string ⟨#[]⟩),(.int .u8 0),(.int .u8 0),(.int .u8 0),(.bool false),(.bool false),(.bool false),(.string ⟨#[]⟩),(.int .u8 0),(.int .u8 0),(.int .u8 0),(.bool false),(.bool false),(.bool false),(.string ⟨#[]⟩),(.int .u8 0),(.int .u8 0),(.int .u8 0),(.bool false),(.bool false),(.bool false),(.string ⟨#[]⟩),(.int .u8 0),(.int .u8 0),(.int .u8 0),(.bool false),(.bool false),(.bool false),(.string ⟨#[]⟩),(.int .u8 0),(.int .u8 0),(.int .u8 0),(.bool false),(.bool false),(.bool false),(.string ⟨#[]⟩),(.int .u8 0),(.int .u8 0),(.int .u8 0),(.bool false),(.bool false),(.bool false),(.string ⟨#[]⟩),(.int .u8 0),(.int .u8 0),(.int .u8 0),(.bool false),(.bool false),(.bool false),(.string ⟨#[]⟩),(.int .u8 0),(.int .u8 0),(.int .u8 0),(.bool false),(.bool false),(.bool false),(.string ⟨#[]⟩),(.int .u8 0),(.int .u8 0),(.int .u8 0),(.bool false),(.bool false),(.bool false),(.string ⟨#[]⟩),(.int .u8 0),(.int .u8 0),(.int .u8 0),(.bool false),(.bool false),(.bool false),(.string ⟨#[]⟩),(.int .u8 0),(.int .u8 0),(.int .u8 0),(.bool false),(.bool false),(.bool false),(.string ⟨#[]⟩),(.int .u8 0),(.int .u8 0),(.int .u8 0),(.bool false),(.bool false),(.bool false),(.string ⟨#[]⟩),(.int .u8 0),(.int .u8 0),(.int .u8 0),(.bool false),(.bool false),(.bool false),(.string ⟨#[]⟩),(.int .u8 0),(.int .u8 0),(.int .u8 0),(.bool false),(.bool false),(.bool false),(.string ⟨#[]⟩),(.int .u8 0),(.int .u8 0),(.int .u8 0),(.bool false),(.bool false),(.bool false),(.string ⟨#[]⟩),(.int .u8 0),(.int .u8 0),(.int .u8 0),(.bool false),(.bool false),(.bool false),(.string ⟨#[]⟩),(.int .u8 0),(.int .u8 0),(.int .u8 0),(.bool false),(.bool false),(.bool false)] 7),[]⟩]
 (O [⟨some 1,none,.q (.val (.func 90)),[]⟩]
 (O [⟨some 2,none,.q (.val (.func 91)),[]⟩]
 (O [⟨some 3,none,.q (.build [(.string ⟨#[]⟩),(.int .u8 0),(.int .u8 0),(.int .u8 0),(.bool false),(.bool false),(.bool false)] [(0,1,(.const (.string ⟨#[110,111,112]⟩))),(4,1,(.const (.bool true)))]),[]⟩,⟨some 4,none,.q (.build [(.int .u8 0),(.int .u8 0),(.int .u8 0)] [(0,1,(.const (.int .u8 2))),(1,1,(.const (.int .u8 1)))]),[]⟩,⟨some 5,none,.q (.build [(.string ⟨#[]⟩),(.int .u8 0),(.int .u8 0),(.int .u8 0),(.bool false),(.bool false),(.bool false)] [(0,1,(.const (.string ⟨#[99,111,110,115,116]⟩))),(1,3,(.tmp 4)),(4,1,(.const (.bool true)))]),[]⟩,⟨some 6,none,.q (.build [(.int .u8 0),(.int .u8 0),(.int .u8 0)] [(0,1,(.const (.int .u8 2))),(1,1,(.const (.int .u8 3)))]),[]⟩,⟨some 7,none,.q (.build [(.string ⟨#[]⟩),(.int .u8 0),(.int .u8 0),(.int .u8 0),(.bool false),(.bool false),(.bool false)] [(0,1,(.const (.string ⟨#[109,111,118,101]⟩))),(1,3,(.tmp 6)),(4,1,(.const (.bool true)))]),[]⟩,V 8 1,⟨some 9,none,.callv (.tmp 8) [(.const (.string ⟨#[97,100,100]⟩))],[]⟩,V 10 1,⟨some 11,none,.callv (.tmp 10) [(.const (.string ⟨#[115,117,98]⟩))],[]⟩,V 12 1,⟨some 13,none,.callv (.tmp 12) [(.const (.string ⟨#[109,117,108]⟩))],[]⟩,V 14 1,⟨some 15,none,.callv (.tmp 14) [(.const (.string ⟨#[108,101,115,115]⟩))],[]⟩,⟨some 16,none,.q (.build [(.int .u8 0),(.int .u8 0),(.int .u8 0)] [(0,1,(.const (.int .u8 2))),(1,1,(.const (.int .u8 4)))]),[]⟩,⟨some 17,none,.q (.build [(.string ⟨#[]⟩),(.int .u8 0),(.int .u8 0),(.int .u8 0),(.bool false),(.bool false),(.bool false)] [(0,1,(.const (.string ⟨#[108,111,97,100]⟩))),(1,3,(.tmp 16)),(4,1,(.const (.bool true)))]),[]⟩,⟨some 18,none,.q (.build [(.int .u8 0),(.int .u8 0),(.int .u8 0)] [(0,1,(.const (.int .u8 4))),(1,1,(.const (.int .u8 3)))]),[]⟩,⟨some 19,none,.q (.build [(.string ⟨#[]⟩),(.int .u8 0),(.int .u8 0),(.int .u8 0),(.bool false),(.bool false),(.bool false)] [(0,1,(.const (.string ⟨#[115,116,111,114,101]⟩))),(1,3,(.tmp 18)),(4,1,(.const (.bool true)))]),[]⟩,V 20 2,⟨some 21,none,.callv (.tmp 20) [(.const (.string ⟨#[112,114,105,110,116]⟩)),(.const (.int .u8 3)),(.const (.bool false)),(.const (.bool false))],[]⟩,V 22 2,⟨some 23,none,.callv (.tmp 22) [(.const (.string ⟨#[106,117,109,112]⟩)),(.const (.int .u8 5)),(.const (.bool false)),(.const (.bool false))],[]⟩,⟨some 24,none,.q (.build [(.int .u8 0),(.int .u8 0),(.int .u8 0)] [(0,1,(.const (.int .u8 3))),(1,1,(.const (.int .u8 5)))]),[]⟩,⟨some 25,none,.q (.build [(.string ⟨#[]⟩),(.int .u8 0),(.int .u8 0),(.int .u8 0),(.bool false),(.bool false),(.bool false)] [(0,1,(.const (.string ⟨#[122,101,114,111]⟩))),(1,3,(.tmp 24))]),[]⟩,V 26 2,⟨some 27,none,.callv (.tmp 26) [(.const (.string ⟨#[103,111]⟩)),(.const (.int .u8 6)),(.const (.bool false)),(.const (.bool true))],[]⟩,V 28 2,⟨some 29,none,.callv (.tmp 28) [(.const (.string ⟨#[108,111,99,107]⟩)),(.const (.int .u8 7)),(.const (.bool true)),(.const (.bool false))],[]⟩,V 30 2,⟨some 31,none,.callv (.tmp 30) [(.const (.string ⟨#[117,110,108,111,99,107]⟩)),(.const (.int .u8 7)),(.const (.bool false)),(.const (.bool true))],[]⟩,V 32 2,⟨some 33,none,.callv (.tmp 32) [(.const (.string ⟨#[114,108,111,99,107]⟩)),(.const (.int .u8 7)),(.const (.bool true)),(.const (.bool false))],[]⟩,V 34 2,⟨some 35,none,.callv (.tmp 34) [(.const (.string ⟨#[114,117,110,108,111,99,107]⟩)),(.const (.int .u8 7)),(.const (.bool false)),(.const (.bool true))],[]⟩,⟨some 36,none,.q (.build [(.int .u8 0),(.int .u8 0),(.int .u8 0)] [(0,1,(.const (.int .u8 2))),(1,1,(.const (.int .u8 8)))]),[]⟩,⟨some 37,none,.q (.build [(.string ⟨#[]⟩),(.int .u8 0),(.int .u8 0),(.int .u8 0),(.bool false),(.bool false),(.bool false)] [(0,1,(.const (.string ⟨#[114,101,97,100]⟩))),(1,3,(.tmp 36)),(5,1,(.const (.bool true)))]),[]⟩,⟨some 38,none,.q (.build [(.int .u8 0),(.int .u8 0),(.int .u8 0)] [(0,1,(.const (.int .u8 8))),(1,1,(.const (.int .u8 3)))]),[]⟩,⟨some 39,none,.q (.build [(.string ⟨#[]⟩),(.int .u8 0),(.int .u8 0),(.int .u8 0),(.bool false),(.bool false),(.bool false)] [(0,1,(.const (.string ⟨#[119,114,105,116,101]⟩))),(1,3,(.tmp 38)),(6,1,(.const (.bool true)))]),[]⟩,⟨some 40,none,.q (.build [(.int .u8 0),(.int .u8 0),(.int .u8 0)] [(0,1,(.const (.int .u8 2))),(1,1,(.const (.int .u8 8))),(2,1,(.const (.int .u8 3)))]),[]⟩,⟨some 41,none,.q (.build [(.string ⟨#[]⟩),(.int .u8 0),(.int .u8 0),(.int .u8 0),(.bool false),(.bool false),(.bool false)] [(0,1,(.const (.string ⟨#[98,117,109,112]⟩))),(1,3,(.tmp 40)),(5,1,(.const (.bool true))),(6,1,(.const (.bool true)))]),[]⟩,⟨some 42,none,.q (.build [(.int .u8 0),(.int .u8 0),(.int .u8 0)] [(0,1,(.const (.int .u8 9))),(1,1,(.const (.int .u8 3)))]),[]⟩,⟨some 43,none,.q (.build [(.string ⟨#[]⟩),(.int .u8 0),(.int .u8 0),(.int .u8 0),(.bool false),(.bool false),(.bool false)] [(0,1,(.const (.string ⟨#[115,101,110,100]⟩))),(1,3,(.tmp 42)),(5,1,(.const (.bool true))),(6,1,(.const (.bool true)))]),[]⟩,⟨some 44,none,.q (.build [(.int .u8 0),(.int .u8 0),(.int .u8 0)] [(0,1,(.const (.int .u8 2))),(1,1,(.const (.int .u8 9)))]),[]⟩,⟨some 45,none,.q (.build [(.string ⟨#[]⟩),(.int .u8 0),(.int .u8 0),(.int .u8 0),(.bool false),(.bool false),(.bool false)] [(0,1,(.const (.string ⟨#[114,101,99,118]⟩))),(1,3,(.tmp 44)),(5,1,(.const (.bool true))),(6,1,(.const (.bool true)))]),[]⟩,⟨some 46,none,.q (.build [(.int .u8 0),(.int .u8 0),(.int .u8 0)] [(0,1,(.const (.int .u8 2))),(1,1,(.const (.int .u8 9))),(2,1,(.const (.int .u8 2)))]),[]⟩,⟨some 47,none,.q (.build [(.string ⟨#[]⟩),(.int .u8 0),(.int .u8 0),(.int .u8 0),(.bool false),(.bool false),(.bool false)] [(0,1,(.const (.string ⟨#[112,111,108,108]⟩))),(1,3,(.tmp 46)),(5,1,(.const (.bool true))),(6,1,(.const (.bool true)))]),[]⟩,V 48 2,⟨some 49,none,.callv (.tmp 48) [(.const (.string ⟨#[99,108,111,115,101]⟩)),(.const (.int .u8 9)),(.const (.bool false)),(.const (.bool true))],[]⟩,⟨some 50,none,.q (.build [(.int .u8 0),(.int .u8 0),(.int .u8 0)] [(0,1,(.const (.int .u8 10))),(1,1,(.const (.int .u8 1)))]),[]⟩,⟨some 51,none,.q (.build [(.string ⟨#[]⟩),(.int .u8 0),(.int .u8 0),(.int .u8 0),(.bool false),(.bool false),(.bool false)] [(0,1,(.const (.string ⟨#[103,114,111,119]⟩))),(1,3,(.tmp 50)),(6,1,(.const (.bool true)))]),[]⟩,V 52 2,⟨some 53,none,.callv (.tmp 52) [(.const (.string ⟨#[119,97,105,116]⟩)),(.const (.int .u8 10)),(.const (.bool true)),(.const (.bool false))],[]⟩,⟨some 54,none,.q (.build [(.int .u8 0),(.int .u8 0),(.int .u8 0)] [(0,1,(.const (.int .u8 2))),(1,1,(.const (.int .u8 11)))]),[]⟩,⟨some 55,none,.q (.build [(.string ⟨#[]⟩),(.int .u8 0),(.int .u8 0),(.int .u8 0),(.bool false),(.bool false),(.bool false)] [(0,1,(.const (.string ⟨#[98,101,103,105,110]⟩))),(1,3,(.tmp 54)),(5,1,(.const (.bool true)))]),[]⟩,V 56 2,⟨some 57,none,.callv (.tmp 56) [(.const (.string ⟨#[101,110,100]⟩)),(.const (.int .u8 11)),(.const (.bool false)),(.const (.bool true))],[]⟩,⟨some 58,none,.q (.build [(.string ⟨#[]⟩),(.int .u8 0),(.int .u8 0),(.int .u8 0),(.bool false),(.bool false),(.bool false),(.string ⟨#[]⟩),(.int .u8 0),(.int .u8 0),(.int .u8 0),(.bool false),(.bool false),(.bool false),(.string ⟨#[]⟩),(.int .u8 0),(.int .u8 0),(.int .u8 0),(.bool false),(.bool false),(.bool false),(.string ⟨#[]⟩),(.int .u8 0),(.int .u8 0),(.int .u8 0),(.bool false),(.bool false),(.bool false),(.string ⟨#[]⟩),(.int .u8 0),(.int .u8 0),(.int .u8 0),(.bool false),(.bool false),(.bool false),(.string ⟨#[]⟩),(.int .u8 0),(.int .u8 0),(.int .u8 0),(.bool false),(.bool false),(.bool false),(.string ⟨#[]⟩),(.int .u8 0),(.int .u8 0),(.int .u8 0),(.bool false),(.bool false),(.bool false),(.string ⟨#[]⟩),(.int .u8 0),(.int .u8 0),(.int .u8 0),(.bool false),(.bool false),(.bool false),(.string ⟨#[]⟩),(.int .u8 0),(.int .u8 0),(.int .u8 0),(.bool false),(.bool false),(.bool false),(.string ⟨#[]⟩),(.int .u8 0),(.int .u8 0),(.int .u8 0),(.bool false),(.bool false),(.bool false),(.string ⟨#[]⟩),(.int .u8 0),(.int .u8 0),(.int .u8 0),(.bool false),(.bool false),(.bool false),(.string ⟨#[]⟩),(.int .u8 0),(.int .u8 0),(.int .u8 0),(.bool false),(.bool false),(.bool false),(.string ⟨#[]⟩),(.int .u8 0),(.int .u8 0),(.int .u8 0),(.bool false),(.bool false),(.bool false),(.string ⟨#[]⟩),(.int .u8 0),(.int .u8 0),(.int .u8 0),(.bool false),(.bool false),(.bool false),(.string ⟨#[]⟩),(.int .u8 0),(.int .u8 0),(.int .u8 0),(.bool false),(.bool false),(.bool false),(.string ⟨#[]⟩),(.int .u8 0),(.int .u8 0),(.int .u8 0),(.bool false),(.bool false),(.bool false),(.string ⟨#[]⟩),(.int .u8 0),(.int .u8 0),(.int .u8 0),(.bool false),(.bool false),(.bool false),(.string ⟨#[]⟩),(.int .u8 0),(.int .u8 0),(.int .u8 0),(.bool false),(.bool false),(.bool false),(.string ⟨#[]⟩),(.int .u8 0),(.int .u8 0),(.int .u8 0),(.bool false),(.bool false),(.bool false),(.string ⟨#[]⟩),(.int .u8 0),(.int .u8 0),(.int .u8 0),(.bool false),(.bool false),(.bool false),(.string ⟨#[]⟩),(.int .u8 0),(.int .u8 0),(.int .u8 0),(.bool false),(.bool false),(.bool false),(.string ⟨#[]⟩),(.int .u8 0),(.int .u8 0),(.int .u8 0),(.bool false),(.bool false),(.bool false),(.string ⟨#[]⟩),(.int .u8 0),(.int .u8 0),(.int .u8 0),(.bool false),(.bool false),(.bool false),(.string ⟨#[]⟩),(.int .u8 0),(.int .u8 0),(.int .u8 0),(.bool false),(.bool false),(.bool false),(.string ⟨#[]⟩),(.int .u8 0),(.int .u8 0),(.int .u8 0),(.bool false),(.bool false),(.bool false),(.string ⟨#[]⟩),(.int .u8 0),(.int .u8 0),(.int .u8 0),(.bool false),(.bool false),(.bool false),(.string ⟨#[]⟩),(.int .u8 0),(.int .u8 0),(.int .u8 0),(.bool false),(.bool false),(.bool false),(.string ⟨#[]⟩),(.int .u8 0),(.int .u8 0),(.int .u8 0),(.bool false),(.bool false),(.bool false)] [(0,7,(.tmp 3)),(7,7,(.tmp 5)),(14,7,(.tmp 7)),(21,7,(.tmp 9)),(28,7,(.tmp 11)),(35,7,(.tmp 13)),(42,7,(.tmp 15)),(49,7,(.tmp 17)),(56,7,(.tmp 19)),(63,7,(.tmp 21)),(70,7,(.tmp 23)),(77,7,(.tmp 25)),(84,7,(.tmp 27)),(91,7,(.tmp 29)),(98,7,(.tmp 31)),(105,7,(.tmp 33)),(112,7,(.tmp 35)),(119,7,(.tmp 37)),(126,7,(.tmp 39)),(133,7,(.tmp 41)),(140,7,(.tmp 43)),(147,7,(.tmp 45)),(154,7,(.tmp 47)),(161,7,(.tmp 49)),(168,7,(.tmp 51)),(175,7,(.tmp 53)),(182,7,(.tmp 55)),(189,7,(.tmp 57))]),[]⟩,⟨none,none,.e (.store 196 (.tmp 0) (.tmp 58)),[]⟩]
 .ret)))),[.cells 0 196],59⟩
theorem c_shapes_is:qCj Proofs.Tryd.prog Proofs.Tryd.f86=some (qCc c_shapes):=by kernel_rfl
def c_shapes1:AFn :=
⟨(O [⟨some 2,none,.e (.new [(.string ⟨#[]⟩),(.int .u8 0),(.int .u8 0),(.int .u8 0),(.bool false),(.bool false),(.bool false)] 7),[]⟩]
 (O [V 3 0,⟨some 4,none,.q (.build [(.int .u8 0),(.int .u8 0),(.int .u8 0)] [(0,1,(.const (.int .u8 2))),(1,1,(.const (.int .u8 3))),(2,1,(.const (.int .u8 3)))]),[]⟩,⟨some 5,none,.q (.build [(.string ⟨#[]⟩),(.int .u8 0),(.int .u8 0),(.int .u8 0),(.bool false),(.bool false),(.bool false)] [(0,1,(.tmp 3)),(1,3,(.tmp 4)),(4,1,(.const (.bool true))),(5,1,(.const (.bool false))),(6,1,(.const (.bool false)))]),[]⟩,⟨none,none,.e (.store 7 (.tmp 2) (.tmp 5)),[]⟩]
 .ret)),[.cells 2 7],6⟩
theorem c_shapes1_is:qCj Proofs.Tryd.prog Proofs.Tryd.f90=some (qCc c_shapes1):=by kernel_rfl
def c_shapes2:AFn :=
⟨(O [⟨some 8,none,.e (.new [(.string ⟨#[]⟩),(.int .u8 0),(.int .u8 0),(.int .u8 0),(.bool false),(.bool false),(.bool false)] 7),[]⟩]
 (O [V 9 0,V 10 1,⟨some 11,none,.q (.build [(.int .u8 0),(.int .u8 0),(.int .u8 0)] [(0,1,(.tmp 10))]),[]⟩,V 12 2,V 13 3,⟨some 14,none,.q (.build [(.string ⟨#[]⟩),(.int .u8 0),(.int .u8 0),(.int .u8 0),(.bool false),(.bool false),(.bool false)] [(0,1,(.tmp 9)),(1,3,(.tmp 11)),(4,1,(.const (.bool false))),(5,1,(.tmp 12)),(6,1,(.tmp 13))]),[]⟩,⟨none,none,.e (.store 7 (.tmp 8) (.tmp 14)),[]⟩]
 .ret)),[.cells 8 7],15⟩
theorem c_shapes2_is:qCj Proofs.Tryd.prog Proofs.Tryd.f91=some (qCc c_shapes2):=by kernel_rfl
def qRd:AFn :=
⟨(O [⟨some 2,none,.e (.new [(.string ⟨#[]⟩),(.int .u8 0),(.int .u8 0),(.int .u8 0),(.bool false),(.bool false),(.bool false)] 7),[]⟩,T 3 false]
 (O [⟨some 5,none,.call 86 [],[]⟩,⟨some 4,none,.e (.new z196 7),[]⟩,⟨none,none,.e (.store 196 (.tmp 4) (.tmp 5)),[]⟩]
 (.seq (O [V 6 0,Cv' 7 .i64 6,Bn 8 .geq 7 28]
 (.cond (.tmp 8)
 (O [⟨some 9,none,.q (.build [(.string ⟨#[]⟩),(.int .u8 0),(.int .u8 0),(.int .u8 0),(.bool false),(.bool false),(.bool false)] []),[]⟩,⟨none,none,.e (.store 7 (.tmp 2) (.tmp 9)),[]⟩,T 3 false]
 .ret)
 .skip))
 (O [V 10 0,⟨some 11,none,.q (.idxP 28 7 (.tmp 4) (.tmp 10)),[]⟩,LA 12 7 11,⟨none,none,.e (.store 7 (.tmp 2) (.tmp 12)),[]⟩,T 3 true]
 .ret)))),[.cells 2 7,.tmp 3],13⟩
theorem c_irOf_is:qCj Proofs.Tryd.prog Proofs.Tryd.f77=some (qCc qRd):=by kernel_rfl
theorem call_irOf:qCs 77 qRd 13:=fun hl k=>qBh (by kernel_rfl) (by kernel_rfl) c_irOf_is (by kernel_rfl) hl k
def qIo:AFn :=
⟨(O [⟨some 2,none,.e (.box 4 4 (.tmp 0)),[]⟩,⟨some 4,none,.q (.val (.const (.int .u64 0))),[]⟩]
 (O [FA 11 0 2,L 12 11,⟨some 13,none,.call 77 [(.tmp 12)],[]⟩,V 10 13,⟨some 14,none,.q (.ext (.tmp 10) 0),[]⟩,⟨some 15,none,.q (.ext (.tmp 10) 1),[]⟩,⟨some 5,none,.e (.new [(.string ⟨#[]⟩),(.int .u8 0),(.int .u8 0),(.int .u8 0),(.bool false),(.bool false),(.bool false)] 7),[]⟩,⟨none,none,.e (.store 7 (.tmp 5) (.tmp 14)),[]⟩,V 6 15]
 (O [⟨some 7,none,.q (.val (.const (.int .u64 0))),[]⟩]
 (.seq (O [FA 16 1 2,L 17 16,FA 18 2 2,L 19 18,FA 20 3 2,L 21 20,⟨some 22,none,.q (.build [(.int .i64 0),(.int .i64 0),(.int .i64 0)] [(0,1,(.tmp 17)),(1,1,(.tmp 19)),(2,1,(.tmp 21))]),[]⟩,N 23 0]
 (.block 0 (.loop (O [Bn 24 .lss 23 3]
 (.seq (.cond (.tmp 24)
 .skip
 (.exit 0))
 (.seq (.block 1 (O [V 25 23,⟨some 26,none,.q (.idx none 3 1 (.tmp 22) (.tmp 23)),[]⟩,V 8 25,V 9 26]
 (O [V 27 8,FA 28 1 5,⟨some 29,none,.q (.idxP 3 1 (.tmp 28) (.tmp 27)),[]⟩,L 30 29,V 31 1,B 32 .eql 30 31]
 (.cond (.tmp 32)
 (.ops [V 33 7,V 34 9,⟨some 35,none,.e (.lit [(.int .i64 0)] 1 1 [(0,1,(.tmp 34))]),[]⟩,Z 1 35,⟨some 36,none,.call 12 [(.tmp 33),(.tmp 35)],[]⟩,V 7 36])
 .skip))))
 (.ops [Bn 37 .add 23 1,V 23 37])))))))
 (O [V 38 7,V 4 38]
 .ret))))),[.tmp 4],39⟩
theorem c_registers_is:qCj Proofs.Tryd.prog Proofs.Tryd.f55=some (qCc qIo):=by kernel_rfl
theorem call_registers:qCs 55 qIo 39:=fun hl k=>qBh (by kernel_rfl) (by kernel_rfl) c_registers_is (by kernel_rfl) hl k
def qNz:AFn :=
⟨(O [⟨some 1,none,.e (.box 4 4 (.tmp 0)),[]⟩,⟨some 2,none,.q (.val (.const (.int .u64 0))),[]⟩]
 (O [LA 3 4 1,⟨some 4,none,.call 55 [(.tmp 3),(.const (.int .u8 2))],[]⟩,V 2 4]
 .ret)),[.tmp 2],5⟩
theorem c_irSets_is:qCj Proofs.Tryd.prog Proofs.Tryd.f32=some (qCc qNz):=by kernel_rfl
theorem call_irSets:qCs 32 qNz 5:=fun hl k=>qBh (by kernel_rfl) (by kernel_rfl) c_irSets_is (by kernel_rfl) hl k
def qRe:AFn :=
⟨(O [T 4 false]
 (O [V 5 0,V 6 1,⟨some 7,none,.call 25 [(.tmp 6)],[]⟩,B 8 .and 5 7,Bk 9 .neq 8 .u64 0,V 4 9]
 .ret)),[.tmp 4],10⟩
theorem c_bHas_is:qCj Proofs.Tryd.prog Proofs.Tryd.f31=some (qCc qRe):=by kernel_rfl
theorem call_bHas:qCs 31 qRe 10:=fun hl k=>qBh (by kernel_rfl) (by kernel_rfl) c_bHas_is (by kernel_rfl) hl k
end Pm

/- Codes of the program's functions, as a program printed them, and that they are what the program's functions are compiled to.
   No condition: plain facts. -/
namespace Pm
set_option linter.unusedSimpArgs false
set_option linter.unusedVariables false
open Go Am
set_option maxRecDepth 100000
def qOi:AFn :=
⟨(O [E 2]
 (.seq (O [V 3 0,⟨some 4,none,.nilT false (.tmp 3),[]⟩]
 (.cond (.tmp 4)
 (O [E 2]
 .ret)
 .skip))
 (O [⟨some 5,none,.e (.lit [] 1 0 []),[]⟩,V 6 0,Ap 7 1 5 6,V 2 7]
 .ret))),[.tmp 2],8⟩
theorem c_Clone1_is:qCj Proofs.Tryd.prog Proofs.Tryd.f42=some (qCc qOi):=by kernel_rfl
theorem call_Clone1:qCs 42 qOi 8:=fun hl k=>qBh (by kernel_rfl) (by kernel_rfl) c_Clone1_is (by kernel_rfl) hl k
def qOh:AFn :=
⟨(O [E 2]
 (.seq (O [V 3 0,⟨some 4,none,.nilT false (.tmp 3),[]⟩]
 (.cond (.tmp 4)
 (O [E 2]
 .ret)
 .skip))
 (O [⟨some 5,none,.e (.lit [] 4 0 []),[]⟩,V 6 0,Ap 7 4 5 6,V 2 7]
 .ret))),[.tmp 2],8⟩
theorem c_Clone4_is:qCj Proofs.Tryd.prog Proofs.Tryd.f39=some (qCc qOh):=by kernel_rfl
theorem call_Clone4:qCs 39 qOh 8:=fun hl k=>qBh (by kernel_rfl) (by kernel_rfl) c_Clone4_is (by kernel_rfl) hl k
def qOe:AFn :=
⟨(O [E 4]
 (O [V 8 0,V 9 1,⟨some 10,none,.call 13 [(.tmp 8),(.tmp 9)],[]⟩,V 5 10]
 (.seq (O [V 11 5,Bn 12 .eql 11 (-1)]
 (.cond (.tmp 12)
 (O [V 13 0,V 4 13]
 .ret)
 .skip))
 (.seq (O [V 14 5,Bn 15 .add 14 1,V 6 15]
 (.block 0 (.loop (.seq (O [V 16 6,V 17 0,Ln 18 17,B 19 .lss 16 18]
 (.cond (.tmp 19)
 .skip
 (.exit 0)))
 (.seq (.block 1 (O [V 22 0,V 23 6,X 24 1 22 23,L 25 24,V 7 25]
 (O [V 26 1,V 27 7,⟨some 28,none,.callv (.tmp 26) [(.tmp 27)],[]⟩,Nt 29 28]
 (.cond (.tmp 29)
 (O [V 30 0,V 31 5,V 32 7,X 33 1 30 31,S 33 32]
 (.ops [V 34 5,Bn 35 .add 34 1,V 5 35]))
 .skip))))
 (.ops [V 20 6,Bn 21 .add 20 1,V 6 21]))))))
 (O [V 36 0,V 37 5,⟨some 38,none,.q (.cut 1 (.tmp 36) (some (.tmp 37)) none),[]⟩,⟨none,none,.e (.clear [(.int .i64 0)] (.tmp 38)),[]⟩]
 (O [V 39 0,V 40 5,⟨some 41,none,.q (.cut 1 (.tmp 39) none (some (.tmp 40))),[]⟩,V 4 41]
 .ret)))))),[.tmp 4],42⟩
theorem c_DelF1_is:qCj Proofs.Tryd.prog Proofs.Tryd.f41=some (qCc qOe):=by kernel_rfl
theorem call_DelF1:qCs 41 qOe 42:=fun hl k=>qBh (by kernel_rfl) (by kernel_rfl) c_DelF1_is (by kernel_rfl) hl k
def qOd:AFn :=
⟨(O [N 4 0]
 (.seq (O [V 6 0,Ln 7 6,N 8 0]
 (.block 0 (.loop (O [B 9 .lss 8 7]
 (.seq (.cond (.tmp 9)
 .skip
 (.exit 0))
 (.seq (.block 1 (O [V 10 8,V 5 10]
 (O [V 11 1,V 12 0,V 13 5,X 14 1 12 13,L 15 14,⟨some 16,none,.callv (.tmp 11) [(.tmp 15)],[]⟩]
 (.cond (.tmp 16)
 (O [V 17 5,V 4 17]
 .ret)
 .skip))))
 (.ops [Bn 18 .add 8 1,V 8 18])))))))
 (O [N 4 (-1)]
 .ret))),[.tmp 4],19⟩
theorem c_IdxF1_is:qCj Proofs.Tryd.prog Proofs.Tryd.f13=some (qCc qOd):=by kernel_rfl
theorem call_IdxF1:qCs 13 qOd 19:=fun hl k=>qBh (by kernel_rfl) (by kernel_rfl) c_IdxF1_is (by kernel_rfl) hl k
end Pm

/- Codes of the program's functions, as a program printed them, and that they are what the program's functions are compiled to.
   No condition: plain facts. -/
namespace Pm
set_option linter.unusedSimpArgs false
set_option linter.unusedVariables false
open Go Am
set_option maxRecDepth 100000
def qLu:AFn :=
⟨(O [E 2]
 (O [V 7 0,Ln 8 7,⟨some 9,none,.e (.make [(.bool false)] 1 (.tmp 8) (.tmp 8)),[]⟩,⟨some 3,none,.e (.new [(.slice none 0 0)] 1),[]⟩,S 3 9]
 (O [⟨some 10,none,.q (.fn (.func 76) [(.tmp 3)]),[]⟩,V 4 10]
 (O [V 11 4,⟨some 12,none,.callv (.tmp 11) [(.const (.int .i64 0))],[]⟩]
 (.seq (O [V 13 0,Ln 14 13,N 15 0]
 (.block 0 (.loop (O [B 16 .lss 15 14]
 (.seq (.cond (.tmp 16)
 .skip
 (.exit 0))
 (.seq (.block 1 (O [V 17 15,X 18 4 13 15,LA 19 4 18,⟨some 6,none,.e (.new [(.int .u8 0),(.int .i64 0),(.int .i64 0),(.int .i64 0)] 4),[]⟩,V 5 17,⟨none,none,.e (.store 4 (.tmp 6) (.tmp 19)),[]⟩]
 (.seq (O [FA 20 0 6,L 21 20]
 (.block 2 (O [Bk 23 .eql 21 .u8 10,V 22 23]
 (.cond (.tmp 22)
 (.ops [V 24 4,FA 25 1 6,L 26 25,⟨some 27,none,.callv (.tmp 24) [(.tmp 26)],[]⟩])
 (O [Bk 29 .eql 21 .u8 11,V 28 29]
 (.cond (.tmp 28)
 (.ops [V 30 4,FA 31 2 6,L 32 31,⟨some 33,none,.callv (.tmp 30) [(.tmp 32)],[]⟩])
 .skip))))))
 (O [FA 34 0 6,L 35 34,⟨some 36,none,.call 54 [(.tmp 35)],[]⟩,Nt 37 36]
 (.cond (.tmp 37)
 (O [V 38 4,V 39 5,⟨some 40,none,.callv (.tmp 38) [(.tmp 39)],[]⟩]
 (.ops [V 41 4,V 42 5,Bn 43 .add 42 1,⟨some 44,none,.callv (.tmp 41) [(.tmp 43)],[]⟩]))
 .skip)))))
 (.ops [Bn 45 .add 15 1,V 15 45])))))))
 (O [L 46 3,V 2 46]
 .ret)))))),[.tmp 2],47⟩
theorem c_sgHeads_is:qCj Proofs.Tryd.prog Proofs.Tryd.f49=some (qCc qLu):=by kernel_rfl
theorem call_sgHeads:qCs 49 qLu 47:=fun hl k=>qBh (by kernel_rfl) (by kernel_rfl) c_sgHeads_is (by kernel_rfl) hl k
def qJc:AFn :=
⟨(O [V 3 0,Bn 4 .geq 3 0,V 5 4,Gd 5 true (V 6 0),Gd 5 true (L 7 1),Gd 5 true (Ln 8 7),Gd 5 true (B 9 .lss 6 8),Pk 10 5 9 false]
 (.cond (.tmp 10)
 (.ops [L 11 1,V 12 0,X 13 1 11 12,⟨none,none,.e (.store 1 (.tmp 13) (.const (.bool true))),[]⟩])
 .skip)),[],14⟩
theorem c_sgMark_is:qCj Proofs.Tryd.prog Proofs.Tryd.f76=some (qCc qJc):=by kernel_rfl
theorem call_sgMark:qCs 76 qJc 14:=fun hl k=>qBh (by kernel_rfl) (by kernel_rfl) c_sgMark_is (by kernel_rfl) hl k
def qHg:AFn :=
⟨(O [T 4 false]
 (O [V 5 1,Bn 6 .geq 5 0,V 7 6,Gd 7 true (V 8 1),Gd 7 true (V 9 0),Gd 7 true (Ln 10 9),Gd 7 true (B 11 .lss 8 10),Pk 12 7 11 false,V 4 12]
 .ret)),[.tmp 4],13⟩
theorem c_sgThere_is:qCj Proofs.Tryd.prog Proofs.Tryd.f48=some (qCc qHg):=by kernel_rfl
theorem call_sgThere:qCs 48 qHg 13:=fun hl k=>qBh (by kernel_rfl) (by kernel_rfl) c_sgThere_is (by kernel_rfl) hl k
def qRf:AFn :=
⟨(O [V 4 0,Ln 5 4,Bn 6 .sub 5 1,N 2 0,V 3 6]
 (.block 0 (.loop (.seq (O [V 7 2,V 8 3,B 9 .lss 7 8]
 (.cond (.tmp 9)
 .skip
 (.exit 0)))
 (.seq (.block 1 (.ops [V 14 0,V 15 2,V 16 0,V 17 3,V 18 0,V 19 3,X 20 1 18 19,L 21 20,V 22 0,V 23 2,X 24 1 22 23,L 25 24,X 26 1 14 15,S 26 21,X 27 1 16 17,S 27 25]))
 (.ops [V 10 2,Bn 11 .add 10 1,V 12 3,Bn 13 .sub 12 1,V 2 11,V 3 13])))))),[],28⟩
theorem c_RevB_is:qCj Proofs.Tryd.prog Proofs.Tryd.f50=some (qCc qRf):=by kernel_rfl
theorem call_RevB:qCs 50 qRf 28:=fun hl k=>qBh (by kernel_rfl) (by kernel_rfl) c_RevB_is (by kernel_rfl) hl k
def qRg:AFn :=
⟨(O [N 4 0]
 (.seq (O [V 6 0,Ln 7 6,N 8 0]
 (.block 0 (.loop (O [B 9 .lss 8 7]
 (.seq (.cond (.tmp 9)
 .skip
 (.exit 0))
 (.seq (.block 1 (O [V 10 8,V 5 10]
 (O [V 11 1,V 12 0,V 13 5,X 14 1 12 13,L 15 14,⟨some 16,none,.q (.eqB false (.tmp 11) (.tmp 15)),[]⟩]
 (.cond (.tmp 16)
 (O [V 17 5,V 4 17]
 .ret)
 .skip))))
 (.ops [Bn 18 .add 8 1,V 8 18])))))))
 (O [N 4 (-1)]
 .ret))),[.tmp 4],19⟩
theorem c_IdxB_is:qCj Proofs.Tryd.prog Proofs.Tryd.f51=some (qCc qRg):=by kernel_rfl
theorem call_IdxB:qCs 51 qRg 19:=fun hl k=>qBh (by kernel_rfl) (by kernel_rfl) c_IdxB_is (by kernel_rfl) hl k
def qNq:AFn :=
⟨(O [N 4 0]
 (.seq (O [V 6 0,V 7 1,⟨some 8,none,.call 48 [(.tmp 6),(.tmp 7)],[]⟩,Nt 9 8]
 (.cond (.tmp 9)
 (O [V 10 1,V 4 10]
 .ret)
 .skip))
 (O [V 11 0,⟨some 12,none,.call 49 [(.tmp 11)],[]⟩,V 13 1,Bn 14 .add 13 1,⟨some 15,none,.q (.cut 1 (.tmp 12) none (some (.tmp 14))),[]⟩,V 5 15]
 (O [V 16 5,⟨some 17,none,.call 50 [(.tmp 16)],[]⟩]
 (O [V 18 1,V 19 5,⟨some 20,none,.call 51 [(.tmp 19),(.const (.bool true))],[]⟩,B 21 .sub 18 20,V 4 21]
 .ret))))),[.tmp 4],22⟩
theorem c_sgHead_is:qCj Proofs.Tryd.prog Proofs.Tryd.f26=some (qCc qNq):=by kernel_rfl
theorem call_sgHead:qCs 26 qNq 22:=fun hl k=>qBh (by kernel_rfl) (by kernel_rfl) c_sgHead_is (by kernel_rfl) hl k
def qLv:AFn :=
⟨(O [⟨some 2,none,.e (.box 1 1 (.tmp 0)),[]⟩,⟨some 3,none,.e (.box 1 1 (.tmp 1)),[]⟩,E 4]
 (O [L 5 2,⟨some 6,none,.q (.ptrCk (.tmp 5)),[]⟩,FA 7 1 6,L 8 7,L 9 3,X 10 1 8 9,L 11 10,⟨some 13,none,.q (.fn (.func 43) [(.tmp 2),(.tmp 3)]),[]⟩,⟨some 12,none,.call 42 [(.tmp 11)],[]⟩,⟨some 14,none,.call 41 [(.tmp 12),(.tmp 13)],[]⟩,V 4 14]
 .ret)),[.tmp 4],15⟩
theorem c_lpBacks_is:qCj Proofs.Tryd.prog Proofs.Tryd.f20=some (qCc qLv):=by kernel_rfl
theorem call_lpBacks:qCs 20 qLv 15:=fun hl k=>qBh (by kernel_rfl) (by kernel_rfl) c_lpBacks_is (by kernel_rfl) hl k
def qNs:AFn :=
⟨(O [T 4 false]
 (O [L 5 1,⟨some 6,none,.q (.ptrCk (.tmp 5)),[]⟩,FA 7 3 6,L 8 7,V 9 0,X 10 1 8 9,L 11 10,Nt 12 11,V 13 12,Gd 13 false (L 14 1),⟨some 15,some (13,false),.q (.ptrCk (.tmp 14)),[]⟩,Gd 13 false (FA 16 2 15),Gd 13 false (L 17 16),Gd 13 false (V 18 0),Gd 13 false (X 19 1 17 18),Gd 13 false (L 20 19),Gd 13 false (L 21 2),⟨some 22,some (13,false),.call 31 [(.tmp 20),(.tmp 21)],[]⟩,Gd 13 false (Nt 23 22),⟨some 24,none,.q (.pick (.tmp 13) (.const (.bool true)) (.tmp 23)),[]⟩,V 4 24]
 .ret)),[.tmp 4],25⟩
theorem c_lpBk1_is:qCj Proofs.Tryd.prog Proofs.Tryd.f43=some (qCc qNs):=by kernel_rfl
theorem call_lpBk1:qCs 43 qNs 25:=fun hl k=>qBh (by kernel_rfl) (by kernel_rfl) c_lpBk1_is (by kernel_rfl) hl k
def qNr:AFn :=
⟨(O [⟨some 6,none,.q (.val (.const (.int .u64 0))),[]⟩]
 (O [V 9 1,⟨some 10,none,.e (.lit [(.int .i64 0)] 1 1 [(0,1,(.tmp 9))]),[]⟩,Z 1 10,⟨some 11,none,.call 12 [(.const (.int .u64 0)),(.tmp 10)],[]⟩,V 7 11]
 (.seq (.block 0 (.loop (.seq (O [V 12 2,Ln 13 12,Bn 14 .gtr 13 0]
 (.cond (.tmp 14)
 .skip
 (.exit 0)))
 (.block 1 (O [V 15 2,V 16 2,Ln 17 16,Bn 18 .sub 17 1,X 19 1 15 18,L 20 19,V 8 20]
 (O [V 21 2,V 22 2,Ln 23 22,Bn 24 .sub 23 1,⟨some 25,none,.q (.cut 1 (.tmp 21) none (some (.tmp 24))),[]⟩,V 2 25]
 (.seq (O [V 26 7,V 27 8,⟨some 28,none,.call 31 [(.tmp 26),(.tmp 27)],[]⟩,V 29 28,Gd 29 false (V 30 0),⟨some 31,some (29,false),.q (.ptrCk (.tmp 30)),[]⟩,Gd 29 false (FA 32 3 31),Gd 29 false (L 33 32),Gd 29 false (V 34 8),Gd 29 false (X 35 1 33 34),Gd 29 false (L 36 35),Gd 29 false (Nt 37 36),⟨some 38,none,.q (.pick (.tmp 29) (.const (.bool true)) (.tmp 37)),[]⟩]
 (.cond (.tmp 38)
 (.exit 1)
 .skip))
 (O [V 39 7,V 40 8,⟨some 41,none,.e (.lit [(.int .i64 0)] 1 1 [(0,1,(.tmp 40))]),[]⟩,Z 1 41,⟨some 42,none,.call 12 [(.tmp 39),(.tmp 41)],[]⟩,V 7 42]
 (.ops [V 43 2,V 44 0,⟨some 45,none,.q (.ptrCk (.tmp 44)),[]⟩,FA 46 1 45,L 47 46,V 48 8,X 49 1 47 48,L 50 49,Ap 51 1 43 50,V 2 51])))))))))
 (O [V 52 7,V 6 52]
 .ret)))),[.tmp 6],53⟩
theorem c_lpBody_is:qCj Proofs.Tryd.prog Proofs.Tryd.f22=some (qCc qNr):=by kernel_rfl
theorem call_lpBody:qCs 22 qNr 53:=fun hl k=>qBh (by kernel_rfl) (by kernel_rfl) c_lpBody_is (by kernel_rfl) hl k
def qRc:AFn :=
⟨(O [E 2]
 (.seq (O [V 7 0,Ln 8 7,Bn 9 .gtr 8 64]
 (.cond (.tmp 9)
 (O [E 2]
 .ret)
 .skip))
 (O [V 10 0,V 11 0,⟨some 12,none,.call 17 [(.tmp 11)],[]⟩,V 13 0,⟨some 14,none,.call 18 [(.tmp 13)],[]⟩,V 15 0,⟨some 16,none,.call 19 [(.tmp 15)],[]⟩,⟨some 17,none,.q (.build [(.slice none 0 0),(.slice none 0 0),(.slice none 0 0),(.slice none 0 0)] [(0,1,(.tmp 10)),(1,1,(.tmp 12)),(2,1,(.tmp 14)),(3,1,(.tmp 16))]),[]⟩,⟨some 18,none,.e (.box 4 4 (.tmp 17)),[]⟩,V 3 18]
 (O [E 4]
 (.seq (O [V 19 0,Ln 20 19,N 21 0]
 (.block 0 (.loop (O [B 22 .lss 21 20]
 (.seq (.cond (.tmp 22)
 .skip
 (.exit 0))
 (.seq (.block 1 (O [V 23 21,V 5 23]
 (O [V 24 3,V 25 5,⟨some 26,none,.call 20 [(.tmp 24),(.tmp 25)],[]⟩,V 6 26]
 (O [V 27 6,Ln 28 27,Bn 29 .gtr 28 0]
 (.cond (.tmp 29)
 (.ops [V 30 4,V 31 5,V 32 3,V 33 5,V 34 6,⟨some 35,none,.call 22 [(.tmp 32),(.tmp 33),(.tmp 34)],[]⟩,⟨some 36,none,.call 21 [(.tmp 35)],[]⟩,⟨some 37,none,.q (.build [(.int .i64 0),(.slice none 0 0)] [(0,1,(.tmp 31)),(1,1,(.tmp 36))]),[]⟩,⟨some 38,none,.e (.lit [(.int .i64 0),(.slice none 0 0)] 2 1 [(0,2,(.tmp 37))]),[]⟩,Ap 39 2 30 38,V 4 39])
 .skip)))))
 (.ops [Bn 40 .add 21 1,V 21 40])))))))
 (O [V 41 4,V 2 41]
 .ret)))))),[.tmp 2],42⟩
theorem c_lpOf_is:qCj Proofs.Tryd.prog Proofs.Tryd.f10=some (qCc qRc):=by kernel_rfl
theorem call_lpOf:qCs 10 qRc 42:=fun hl k=>qBh (by kernel_rfl) (by kernel_rfl) c_lpOf_is (by kernel_rfl) hl k
def qOg:AFn :=
⟨(O [T 4 false]
 (O [V 5 0,V 6 1,⟨some 7,none,.call 13 [(.tmp 5),(.tmp 6)],[]⟩,Bn 8 .geq 7 0,V 4 8]
 .ret)),[.tmp 4],9⟩
theorem c_ContF1_is:qCj Proofs.Tryd.prog Proofs.Tryd.f52=some (qCc qOg):=by kernel_rfl
theorem call_ContF1:qCs 52 qOg 9:=fun hl k=>qBh (by kernel_rfl) (by kernel_rfl) c_ContF1_is (by kernel_rfl) hl k
def qOf:AFn :=
⟨(O [T 4 false]
 (O [V 5 0,V 6 1,⟨some 7,none,.call 56 [(.tmp 5),(.tmp 6)],[]⟩,Bn 8 .geq 7 0,V 4 8]
 .ret)),[.tmp 4],9⟩
theorem c_ContF4_is:qCj Proofs.Tryd.prog Proofs.Tryd.f33=some (qCc qOf):=by kernel_rfl
theorem call_ContF4:qCs 33 qOf 9:=fun hl k=>qBh (by kernel_rfl) (by kernel_rfl) c_ContF4_is (by kernel_rfl) hl k
def qPm:AFn :=
⟨(O [N 4 0]
 (.seq (O [V 6 0,Ln 7 6,N 8 0]
 (.block 0 (.loop (O [B 9 .lss 8 7]
 (.seq (.cond (.tmp 9)
 .skip
 (.exit 0))
 (.seq (.block 1 (O [V 10 8,V 5 10]
 (O [V 11 1,V 12 0,V 13 5,X 14 4 12 13,LA 15 4 14,⟨some 16,none,.callv (.tmp 11) [(.tmp 15)],[]⟩]
 (.cond (.tmp 16)
 (O [V 17 5,V 4 17]
 .ret)
 .skip))))
 (.ops [Bn 18 .add 8 1,V 8 18])))))))
 (O [N 4 (-1)]
 .ret))),[.tmp 4],19⟩
theorem c_IdxF4_is:qCj Proofs.Tryd.prog Proofs.Tryd.f56=some (qCc qPm):=by kernel_rfl
theorem call_IdxF4:qCs 56 qPm 19:=fun hl k=>qBh (by kernel_rfl) (by kernel_rfl) c_IdxF4_is (by kernel_rfl) hl k
def qPl:AFn :=
⟨(O [⟨some 2,none,.e (.box 1 1 (.tmp 0)),[]⟩,⟨some 3,none,.e (.box 1 1 (.tmp 1)),[]⟩,T 4 false]
 (O [L 5 2,⟨some 6,none,.q (.ptrCk (.tmp 5)),[]⟩,FA 7 2 6,L 8 7,⟨some 9,none,.call 21 [(.tmp 8)],[]⟩,⟨some 10,none,.q (.fn (.func 53) [(.tmp 3),(.tmp 2)]),[]⟩,Z 1 9,⟨some 11,none,.call 52 [(.tmp 9),(.tmp 10)],[]⟩,V 4 11]
 .ret)),[.tmp 4],12⟩
theorem c_lfAny_is:qCj Proofs.Tryd.prog Proofs.Tryd.f28=some (qCc qPl):=by kernel_rfl
theorem call_lfAny:qCs 28 qPl 12:=fun hl k=>qBh (by kernel_rfl) (by kernel_rfl) c_lfAny_is (by kernel_rfl) hl k
def qNx:AFn :=
⟨(O [T 4 false]
 (O [L 5 1,V 6 0,L 7 2,⟨some 8,none,.q (.ptrCk (.tmp 7)),[]⟩,FA 9 0 8,L 10 9,V 11 0,X 12 4 10 11,LA 13 4 12,⟨some 14,none,.callv (.tmp 5) [(.tmp 6),(.tmp 13)],[]⟩,V 4 14]
 .ret)),[.tmp 4],15⟩
theorem c_lfAny1_is:qCj Proofs.Tryd.prog Proofs.Tryd.f53=some (qCc qNx):=by kernel_rfl
theorem call_lfAny1:qCs 53 qNx 15:=fun hl k=>qBh (by kernel_rfl) (by kernel_rfl) c_lfAny1_is (by kernel_rfl) hl k
def qLw:AFn :=
⟨(O [T 2 false]
 (O [V 3 0,⟨some 4,none,.call 54 [(.tmp 3)],[]⟩,V 5 4,Gd 5 false (V 6 0),Gd 5 false (Bk 7 .eql 6 .u8 10),⟨some 8,none,.q (.pick (.tmp 5) (.const (.bool true)) (.tmp 7)),[]⟩,V 9 8,Gd 9 false (V 10 0),Gd 9 false (Bk 11 .eql 10 .u8 11),⟨some 12,none,.q (.pick (.tmp 9) (.const (.bool true)) (.tmp 11)),[]⟩,V 13 12,Gd 13 false (V 14 0),Gd 13 false (Bk 15 .eql 14 .u8 9),⟨some 16,none,.q (.pick (.tmp 13) (.const (.bool true)) (.tmp 15)),[]⟩,V 2 16]
 .ret)),[.tmp 2],17⟩
theorem c_lfQuiet_is:qCj Proofs.Tryd.prog Proofs.Tryd.f30=some (qCc qLw):=by kernel_rfl
theorem call_lfQuiet:qCs 30 qLw 17:=fun hl k=>qBh (by kernel_rfl) (by kernel_rfl) c_lfQuiet_is (by kernel_rfl) hl k
def qKa:AFn :=
⟨(O [T 2 false]
 (O [V 3 0,⟨some 4,none,.q (.ptrCk (.tmp 3)),[]⟩,FA 5 2 4,L 6 5,V 7 0,⟨some 8,none,.q (.ptrCk (.tmp 7)),[]⟩,FA 9 1 8,L 10 9,Bn 11 .sub 10 1,⟨some 12,none,.call 31 [(.tmp 6),(.tmp 11)],[]⟩,V 13 12,Gd 13 true (V 14 0),⟨some 15,some (13,true),.q (.ptrCk (.tmp 14)),[]⟩,Gd 13 true (FA 16 0 15),Gd 13 true (L 17 16),Gd 13 true (V 18 0),⟨some 19,some (13,true),.q (.ptrCk (.tmp 18)),[]⟩,Gd 13 true (FA 20 1 19),Gd 13 true (L 21 20),Gd 13 true (Bn 22 .sub 21 1),Gd 13 true (X 23 4 17 22),Gd 13 true (FA 24 0 23),Gd 13 true (L 25 24),Gd 13 true (Bk 26 .neq 25 .u8 10),Pk 27 13 26 false,V 2 27]
 .ret)),[.tmp 2],28⟩
theorem c_lfClosed_is:qCj Proofs.Tryd.prog Proofs.Tryd.f27=some (qCc qKa):=by kernel_rfl
theorem call_lfClosed:qCs 27 qKa 28:=fun hl k=>qBh (by kernel_rfl) (by kernel_rfl) c_lfClosed_is (by kernel_rfl) hl k
def qLx:AFn :=
⟨(O [⟨some 3,none,.e (.box 1 1 (.tmp 1)),[]⟩,T 4 false]
 (O [V 6 0,⟨some 7,none,.q (.ptrCk (.tmp 6)),[]⟩,FA 8 0 7,L 9 8,L 10 3,X 11 4 9 10,LA 12 4 11,⟨some 5,none,.e (.new [(.int .u8 0),(.int .i64 0),(.int .i64 0),(.int .i64 0)] 4),[]⟩,⟨none,none,.e (.store 4 (.tmp 5) (.tmp 12)),[]⟩]
 (.seq (O [FA 13 0 5,L 14 13,Bk 15 .neq 14 .u8 7,V 16 15,Gd 16 false (V 17 0),⟨some 18,some (16,false),.q (.ptrCk (.tmp 17)),[]⟩,Gd 16 false (FA 19 1 18),Gd 16 false (L 20 19),Gd 16 false (L 21 3),Gd 16 false (B 22 .gtr 20 21),⟨some 23,none,.q (.pick (.tmp 16) (.const (.bool true)) (.tmp 22)),[]⟩,V 24 23,Gd 24 false (V 25 0),⟨some 26,some (24,false),.q (.ptrCk (.tmp 25)),[]⟩,Gd 24 false (FA 27 0 26),Gd 24 false (L 28 27),Gd 24 false (L 29 3),Gd 24 false (V 31 0),⟨some 32,some (24,false),.q (.ptrCk (.tmp 31)),[]⟩,Gd 24 false (FA 33 1 32),Gd 24 false (L 34 33),⟨some 30,some (24,false),.call 26 [(.tmp 28),(.tmp 29)],[.load (.tmp 33)]⟩,Gd 24 false (B 35 .neq 30 34),⟨some 36,none,.q (.pick (.tmp 24) (.const (.bool true)) (.tmp 35)),[]⟩,V 37 36,Gd 37 false (V 38 0),⟨some 39,some (37,false),.call 27 [(.tmp 38)],[]⟩,⟨some 40,none,.q (.pick (.tmp 37) (.const (.bool true)) (.tmp 39)),[]⟩]
 (.cond (.tmp 40)
 (O [T 4 false]
 .ret)
 .skip))
 (.seq (O [V 41 0,⟨some 42,none,.q (.fn (.func 29) [(.tmp 5),(.tmp 3)]),[]⟩,⟨some 43,none,.call 28 [(.tmp 41),(.tmp 42)],[]⟩]
 (.cond (.tmp 43)
 (O [T 4 false]
 .ret)
 .skip))
 (O [V 44 0,⟨some 45,none,.q (.ptrCk (.tmp 44)),[]⟩,FA 46 0 45,L 47 46,V 48 0,⟨some 49,none,.q (.ptrCk (.tmp 48)),[]⟩,FA 50 1 49,L 51 50,L 52 3,⟨some 53,none,.q (.cut 4 (.tmp 47) (some (.tmp 51)) (some (.tmp 52))),[]⟩,⟨some 54,none,.q (.fn (.func 34) [(.tmp 5)]),[]⟩,Z 4 53,⟨some 55,none,.call 33 [(.tmp 53),(.tmp 54)],[]⟩,Nt 56 55,V 4 56]
 .ret))))),[.tmp 4],57⟩
theorem c_lfMay_is:qCj Proofs.Tryd.prog Proofs.Tryd.f14=some (qCc qLx):=by kernel_rfl
theorem call_lfMay:qCs 14 qLx 57:=fun hl k=>qBh (by kernel_rfl) (by kernel_rfl) c_lfMay_is (by kernel_rfl) hl k
def qNv:AFn :=
⟨(O [⟨some 5,none,.e (.box 4 4 (.tmp 1)),[]⟩,T 6 false]
 (O [FA 7 0 5,L 8 7,⟨some 9,none,.call 30 [(.tmp 8)],[]⟩,Nt 10 9,V 11 10,Gd 11 false (FA 12 0 5),Gd 11 false (L 13 12),Gd 11 false (Bk 14 .eql 13 .u8 8),Gd 11 false (V 15 14),Gd 15 true (FA 16 1 5),Gd 15 true (L 17 16),Gd 15 true (FA 18 2 2),Gd 15 true (L 19 18),Gd 15 true (B 20 .eql 17 19),Gd 11 false (Pk 21 15 20 false),⟨some 22,none,.q (.pick (.tmp 11) (.const (.bool true)) (.tmp 21)),[]⟩,V 23 22,Gd 23 false (V 24 0),Gd 23 false (L 25 3),Gd 23 false (B 26 .neq 24 25),Gd 23 false (V 27 26),Gd 27 true (LA 28 4 5),Gd 27 true (FA 30 1 2),Gd 27 true (L 31 30),⟨some 29,some (27,true),.call 32 [(.tmp 28)],[.load (.tmp 30)]⟩,⟨some 32,some (27,true),.call 31 [(.tmp 29),(.tmp 31)],[]⟩,Gd 23 false (Pk 33 27 32 false),⟨some 34,none,.q (.pick (.tmp 23) (.const (.bool true)) (.tmp 33)),[]⟩,V 6 34]
 .ret)),[.tmp 6],35⟩
theorem c_lfMay1_is:qCj Proofs.Tryd.prog Proofs.Tryd.f29=some (qCc qNv):=by kernel_rfl
theorem call_lfMay1:qCs 29 qNv 35:=fun hl k=>qBh (by kernel_rfl) (by kernel_rfl) c_lfMay1_is (by kernel_rfl) hl k
def qNu:AFn :=
⟨(O [⟨some 2,none,.e (.box 4 4 (.tmp 0)),[]⟩,T 3 false]
 (O [LA 4 4 2,FA 6 1 1,L 7 6,⟨some 5,none,.call 35 [(.tmp 4)],[.load (.tmp 6)]⟩,⟨some 8,none,.call 31 [(.tmp 5),(.tmp 7)],[]⟩,V 3 8]
 .ret)),[.tmp 3],9⟩
theorem c_lfMay2_is:qCj Proofs.Tryd.prog Proofs.Tryd.f34=some (qCc qNu):=by kernel_rfl
theorem call_lfMay2:qCs 34 qNu 9:=fun hl k=>qBh (by kernel_rfl) (by kernel_rfl) c_lfMay2_is (by kernel_rfl) hl k
def qHh:AFn :=
⟨(O [⟨some 3,none,.e (.box 1 1 (.tmp 0)),[]⟩,⟨some 4,none,.e (.box 1 1 (.tmp 1)),[]⟩,⟨some 5,none,.e (.box 4 4 (.tmp 2)),[]⟩,⟨some 6,none,.e (.new [(.int .u8 0),(.int .i64 0),(.int .i64 0),(.int .i64 0)] 4),[]⟩]
 (O [⟨some 8,none,.q (.fn (.func 57) [(.tmp 3),(.tmp 4)]),[]⟩,V 7 8]
 (.seq (O [FA 9 0 5,L 10 9]
 (.block 0 (O [Bk 12 .eql 10 .u8 10,V 11 12]
 (.cond (.tmp 11)
 (.ops [V 13 7,FA 14 1 5,L 15 14,⟨some 16,none,.callv (.tmp 13) [(.tmp 15)],[]⟩,FA 17 1 5,S 17 16])
 (O [Bk 19 .eql 10 .u8 11,V 18 19]
 (.cond (.tmp 18)
 (.ops [V 20 7,FA 21 2 5,L 22 21,⟨some 23,none,.callv (.tmp 20) [(.tmp 22)],[]⟩,FA 24 2 5,S 24 23])
 .skip))))))
 (O [LA 25 4 5,⟨none,none,.e (.store 4 (.tmp 6) (.tmp 25)),[]⟩]
 .ret)))),[.cells 6 4],26⟩
theorem c_lfMoved_is:qCj Proofs.Tryd.prog Proofs.Tryd.f36=some (qCc qHh):=by kernel_rfl
theorem call_lfMoved:qCs 36 qHh 26:=fun hl k=>qBh (by kernel_rfl) (by kernel_rfl) c_lfMoved_is (by kernel_rfl) hl k
def qFb:AFn :=
⟨(O [N 4 0]
 (.seq (O [V 5 0,L 6 1,⟨some 7,none,.q (.ptrCk (.tmp 6)),[]⟩,FA 8 1 7,L 9 8,B 10 .gtr 5 9,V 11 10,Gd 11 false (V 12 0),Gd 11 false (L 13 1),⟨some 14,some (11,false),.q (.ptrCk (.tmp 13)),[]⟩,Gd 11 false (FA 15 1 14),Gd 11 false (L 16 15),Gd 11 false (B 17 .eql 12 16),Gd 11 false (V 18 17),Gd 18 true (L 19 1),⟨some 20,some (18,true),.q (.ptrCk (.tmp 19)),[]⟩,Gd 18 true (FA 21 2 20),Gd 18 true (L 22 21),Gd 18 true (L 23 2),⟨some 24,some (18,true),.call 31 [(.tmp 22),(.tmp 23)],[]⟩,Gd 11 false (Pk 25 18 24 false),⟨some 26,none,.q (.pick (.tmp 11) (.const (.bool true)) (.tmp 25)),[]⟩]
 (.cond (.tmp 26)
 (O [V 27 0,Bn 28 .add 27 1,V 4 28]
 .ret)
 .skip))
 (O [V 29 0,V 4 29]
 .ret))),[.tmp 4],30⟩
theorem c_lfMoved1_is:qCj Proofs.Tryd.prog Proofs.Tryd.f57=some (qCc qFb):=by kernel_rfl
theorem call_lfMoved1:qCs 57 qFb 30:=fun hl k=>qBh (by kernel_rfl) (by kernel_rfl) c_lfMoved1_is (by kernel_rfl) hl k
def qNw:AFn :=
⟨(O [⟨some 4,none,.e (.new [(.slice none 0 0),(.slice none 0 0)] 2),[]⟩]
 (O [V 8 0,⟨some 9,none,.q (.ptrCk (.tmp 8)),[]⟩,FA 10 0 9,L 11 10,⟨some 12,none,.call 16 [(.tmp 11)],[]⟩,⟨some 5,none,.e (.new [(.slice none 0 0),(.slice none 0 0)] 2),[]⟩,⟨none,none,.e (.store 2 (.tmp 5) (.tmp 12)),[]⟩]
 (.seq (O [FA 13 0 5,L 14 13,Ln 15 14,N 16 0]
 (.block 0 (.loop (O [B 17 .lss 16 15]
 (.seq (.cond (.tmp 17)
 .skip
 (.exit 0))
 (.seq (.block 1 (O [V 18 16,X 19 4 14 16,LA 20 4 19,⟨some 7,none,.e (.new [(.int .u8 0),(.int .i64 0),(.int .i64 0),(.int .i64 0)] 4),[]⟩,V 6 18,⟨none,none,.e (.store 4 (.tmp 7) (.tmp 20)),[]⟩]
 (.ops [FA 21 0 5,L 22 21,V 23 6,V 24 0,V 25 6,LA 26 4 7,⟨some 27,none,.call 36 [(.tmp 24),(.tmp 25),(.tmp 26)],[.load (.tmp 21)]⟩,X 28 4 22 23,⟨none,none,.e (.store 4 (.tmp 28) (.tmp 27)),[]⟩])))
 (.ops [Bn 29 .add 16 1,V 16 29])))))))
 (O [FA 30 0 5,L 31 30,V 32 1,⟨some 33,none,.q (.build [(.int .u8 0),(.int .i64 0),(.int .i64 0),(.int .i64 0)] []),[]⟩,X 34 4 31 32,⟨none,none,.e (.store 4 (.tmp 34) (.tmp 33)),[]⟩]
 (O [FA 35 0 5,L 36 35,V 37 0,⟨some 38,none,.q (.ptrCk (.tmp 37)),[]⟩,FA 39 1 38,L 40 39,V 41 0,⟨some 42,none,.q (.ptrCk (.tmp 41)),[]⟩,FA 43 0 42,L 44 43,V 45 1,X 46 4 44 45,LA 47 4 46,⟨some 48,none,.e (.lit [(.int .u8 0),(.int .i64 0),(.int .i64 0),(.int .i64 0)] 4 1 [(0,4,(.tmp 47))]),[]⟩,⟨some 49,none,.call 37 [(.tmp 36),(.tmp 40),(.tmp 48)],[]⟩,FA 50 0 5,S 50 49]
 (O [FA 51 1 5,L 52 51,V 53 0,⟨some 54,none,.q (.ptrCk (.tmp 53)),[]⟩,FA 55 1 54,L 56 55,V 57 1,⟨some 58,none,.e (.lit [(.int .i64 0)] 1 1 [(0,1,(.tmp 57))]),[]⟩,⟨some 59,none,.call 38 [(.tmp 52),(.tmp 56),(.tmp 58)],[]⟩,FA 60 1 5,S 60 59]
 (O [LA 61 2 5,⟨none,none,.e (.store 2 (.tmp 4) (.tmp 61)),[]⟩]
 .ret))))))),[.cells 4 2],62⟩
theorem c_lfLift_is:qCj Proofs.Tryd.prog Proofs.Tryd.f15=some (qCc qNw):=by kernel_rfl
theorem call_lfLift:qCs 15 qNw 62:=fun hl k=>qBh (by kernel_rfl) (by kernel_rfl) c_lfLift_is (by kernel_rfl) hl k
def qNt:AFn :=
⟨(O [⟨some 2,none,.e (.new [(.slice none 0 0),(.slice none 0 0)] 2),[]⟩]
 (O [V 5 0,⟨some 6,none,.call 39 [(.tmp 5)],[]⟩,⟨some 7,none,.q (.build [(.slice none 0 0),(.slice none 0 0)] [(0,1,(.tmp 6))]),[]⟩,⟨some 3,none,.e (.new [(.slice none 0 0),(.slice none 0 0)] 2),[]⟩,⟨none,none,.e (.store 2 (.tmp 3) (.tmp 7)),[]⟩]
 (.seq (O [V 8 0,Ln 9 8,N 10 0]
 (.block 0 (.loop (O [B 11 .lss 10 9]
 (.seq (.cond (.tmp 11)
 .skip
 (.exit 0))
 (.seq (.block 1 (O [V 12 10,V 4 12]
 (.ops [FA 13 1 3,L 14 13,V 15 4,⟨some 16,none,.e (.lit [(.int .i64 0)] 1 1 [(0,1,(.tmp 15))]),[]⟩,Ap 17 1 14 16,FA 18 1 3,S 18 17])))
 (.ops [Bn 19 .add 10 1,V 10 19])))))))
 (O [LA 20 2 3,⟨none,none,.e (.store 2 (.tmp 2) (.tmp 20)),[]⟩]
 .ret)))),[.cells 2 2],21⟩
theorem c_lfOwn_is:qCj Proofs.Tryd.prog Proofs.Tryd.f16=some (qCc qNt):=by kernel_rfl
theorem call_lfOwn:qCs 16 qNt 21:=fun hl k=>qBh (by kernel_rfl) (by kernel_rfl) c_lfOwn_is (by kernel_rfl) hl k
def qLz:AFn :=
⟨(O [T 2 false]
 (O [V 6 0,⟨some 7,none,.call 77 [(.tmp 6)],[]⟩,V 5 7,⟨some 8,none,.q (.ext (.tmp 5) 0),[]⟩,⟨some 9,none,.q (.ext (.tmp 5) 1),[]⟩,⟨some 3,none,.e (.new [(.string ⟨#[]⟩),(.int .u8 0),(.int .u8 0),(.int .u8 0),(.bool false),(.bool false),(.bool false)] 7),[]⟩,⟨none,none,.e (.store 7 (.tmp 3) (.tmp 8)),[]⟩,V 4 9]
 (O [FA 10 4 3,L 11 10,V 2 11]
 .ret))),[.tmp 2],12⟩
theorem c_irPlain_is:qCj Proofs.Tryd.prog Proofs.Tryd.f54=some (qCc qLz):=by kernel_rfl
theorem call_irPlain:qCs 54 qLz 12:=fun hl k=>qBh (by kernel_rfl) (by kernel_rfl) c_irPlain_is (by kernel_rfl) hl k
def qKy:AFn :=
⟨(O [⟨some 2,none,.e (.new [(.slice none 0 0),(.slice none 0 0)] 2),[]⟩]
 (.seq (O [V 7 0,Ln 8 7,Bn 9 .gtr 8 60]
 (.cond (.tmp 9)
 (O [⟨some 10,none,.q (.build [(.slice none 0 0),(.slice none 0 0)] []),[]⟩,⟨none,none,.e (.store 2 (.tmp 2) (.tmp 10)),[]⟩]
 .ret)
 .skip))
 (.seq (O [V 11 0,Ln 12 11,Bn 13 .lss 12 60]
 (.cond (.tmp 13)
 (O [V 14 0,⟨some 15,none,.call 11 [(.tmp 14)],[]⟩,Z 1 15,⟨some 16,none,.call 10 [(.tmp 15)],[]⟩,Ln 17 16,N 18 0]
 (.block 0 (.loop (O [B 19 .lss 18 17]
 (.seq (.cond (.tmp 19)
 .skip
 (.exit 0))
 (.seq (.block 1 (O [X 20 2 16 18,LA 21 2 20,⟨some 4,none,.e (.new [(.int .i64 0),(.slice none 0 0)] 2),[]⟩,⟨none,none,.e (.store 2 (.tmp 4) (.tmp 21)),[]⟩]
 (O [V 22 0,FA 23 0 4,L 24 23,FA 25 1 4,L 26 25,Z 1 26,⟨some 27,none,.call 12 [(.const (.int .u64 0)),(.tmp 26)],[.load (.tmp 23)]⟩,⟨some 28,none,.q (.build [(.slice none 0 0),(.int .i64 0),(.int .u64 0)] [(0,1,(.tmp 22)),(1,1,(.tmp 24)),(2,1,(.tmp 27))]),[]⟩,⟨some 29,none,.e (.box 3 3 (.tmp 28)),[]⟩,V 5 29]
 (O [FA 30 1 4,L 31 30,V 32 5,⟨some 33,none,.q (.mfn (.func 14) [(.tmp 32)]),[]⟩,Z 1 31,⟨some 34,none,.call 13 [(.tmp 31),(.tmp 33)],[]⟩,V 6 34]
 (O [V 35 6,Bn 36 .geq 35 0]
 (.cond (.tmp 36)
 (O [V 37 5,FA 38 1 4,L 39 38,V 40 6,X 41 1 39 40,L 42 41,⟨some 43,none,.call 15 [(.tmp 37),(.tmp 42)],[]⟩,⟨none,none,.e (.store 2 (.tmp 2) (.tmp 43)),[]⟩]
 .ret)
 .skip))))))
 (.ops [Bn 44 .add 18 1,V 18 44])))))))
 .skip))
 (O [V 45 0,⟨some 46,none,.call 16 [(.tmp 45)],[]⟩,⟨none,none,.e (.store 2 (.tmp 2) (.tmp 46)),[]⟩]
 .ret)))),[.cells 2 2],47⟩
theorem c_lfCode_is:qCj Proofs.Tryd.prog Proofs.Tryd.f8=some (qCc qKy):=by kernel_rfl
theorem call_lfCode:qCs 8 qKy 47:=fun hl k=>qBh (by kernel_rfl) (by kernel_rfl) c_lfCode_is (by kernel_rfl) hl k
end Pm

/- Codes of the program's functions, as a program printed them, and that they are what the program's functions are compiled to.
   No condition: plain facts. -/
namespace Pm
set_option linter.unusedSimpArgs false
set_option linter.unusedVariables false
open Go Am
set_option maxRecDepth 100000
def qNy:AFn :=
⟨(O [⟨some 1,none,.e (.box 4 4 (.tmp 0)),[]⟩,⟨some 2,none,.q (.val (.const (.int .u64 0))),[]⟩]
 (O [LA 3 4 1,⟨some 4,none,.call 55 [(.tmp 3),(.const (.int .u8 3))],[]⟩,V 2 4]
 .ret)),[.tmp 2],5⟩
theorem c_irUses_is:qCj Proofs.Tryd.prog Proofs.Tryd.f35=some (qCc qNy):=by kernel_rfl
theorem call_irUses:qCs 35 qNy 5:=fun hl k=>qBh (by kernel_rfl) (by kernel_rfl) c_irUses_is (by kernel_rfl) hl k
end Pm

/- Codes of the program's functions, as a program printed them, and that they are what the program's functions are compiled to.
   No condition: plain facts. -/
namespace Pm
set_option linter.unusedSimpArgs false
set_option linter.unusedVariables false
open Go Am
set_option maxRecDepth 100000
def qLy:AFn :=
⟨(O [T 0 false]
 (O [⟨some 2,none,.q (.build [(.int .u8 0),(.int .i64 0),(.int .i64 0),(.int .i64 0)] [(0,1,(.const (.int .u8 7))),(2,1,(.const (.int .i64 1)))]),[]⟩,⟨some 3,none,.q (.build [(.int .u8 0),(.int .i64 0),(.int .i64 0),(.int .i64 0)] [(0,1,(.const (.int .u8 11)))]),[]⟩,⟨some 4,none,.e (.lit [(.int .u8 0),(.int .i64 0),(.int .i64 0),(.int .i64 0),(.int .u8 0),(.int .i64 0),(.int .i64 0),(.int .i64 0)] 4 2 [(0,4,(.tmp 2)),(4,4,(.tmp 3))]),[]⟩,Z 4 4,⟨some 5,none,.call 8 [(.tmp 4)],[]⟩,⟨some 1,none,.e (.new [(.slice none 0 0),(.slice none 0 0)] 2),[]⟩,⟨none,none,.e (.store 2 (.tmp 1) (.tmp 5)),[]⟩]
 (O [FA 6 0 1,L 7 6,Ln 8 7,Bn 9 .eql 8 3,V 10 9,Gd 10 true (FA 11 1 1),Gd 10 true (L 12 11),Gd 10 true (Ln 13 12),Gd 10 true (Bn 14 .eql 13 3),Pk 15 10 14 false,V 16 15,Gd 16 true (FA 17 0 1),Gd 16 true (L 18 17),⟨some 19,some (16,true),.q (.idxA 4 (.tmp 18) (.const (.int .i64 0))),[]⟩,Gd 16 true (LA 20 4 19),⟨some 21,some (16,true),.q (.build [(.int .u8 0),(.int .i64 0),(.int .i64 0),(.int .i64 0)] [(0,1,(.const (.int .u8 7))),(2,1,(.const (.int .i64 1)))]),[]⟩,⟨some 22,some (16,true),.q (.eqA [0,0,0,0] false (.tmp 20) (.tmp 21)),[]⟩,Pk 23 16 22 false,V 24 23,Gd 24 true (FA 25 0 1),Gd 24 true (L 26 25),⟨some 27,some (24,true),.q (.idxA 4 (.tmp 26) (.const (.int .i64 1))),[]⟩,Gd 24 true (LA 28 4 27),⟨some 29,some (24,true),.q (.build [(.int .u8 0),(.int .i64 0),(.int .i64 0),(.int .i64 0)] []),[]⟩,⟨some 30,some (24,true),.q (.eqA [0,0,0,0] false (.tmp 28) (.tmp 29)),[]⟩,Pk 31 24 30 false,V 32 31,Gd 32 true (FA 33 0 1),Gd 32 true (L 34 33),⟨some 35,some (32,true),.q (.idxA 4 (.tmp 34) (.const (.int .i64 2))),[]⟩,Gd 32 true (LA 36 4 35),⟨some 37,some (32,true),.q (.build [(.int .u8 0),(.int .i64 0),(.int .i64 0),(.int .i64 0)] [(0,1,(.const (.int .u8 11))),(2,1,(.const (.int .i64 1)))]),[]⟩,⟨some 38,some (32,true),.q (.eqA [0,0,0,0] false (.tmp 36) (.tmp 37)),[]⟩,Pk 39 32 38 false,V 40 39,Gd 40 true (FA 41 1 1),Gd 40 true (L 42 41),⟨some 43,some (40,true),.q (.idxA 1 (.tmp 42) (.const (.int .i64 0))),[]⟩,Gd 40 true (L 44 43),Gd 40 true (Bn 45 .eql 44 0),Pk 46 40 45 false,V 47 46,Gd 47 true (FA 48 1 1),Gd 47 true (L 49 48),⟨some 50,some (47,true),.q (.idxA 1 (.tmp 49) (.const (.int .i64 1))),[]⟩,Gd 47 true (L 51 50),Gd 47 true (Bn 52 .eql 51 0),Pk 53 47 52 false,V 54 53,Gd 54 true (FA 55 1 1),Gd 54 true (L 56 55),⟨some 57,some (54,true),.q (.idxA 1 (.tmp 56) (.const (.int .i64 2))),[]⟩,Gd 54 true (L 58 57),Gd 54 true (Bn 59 .eql 58 1),Pk 60 54 59 false,V 0 60]
 .ret))),[.tmp 0],61⟩
theorem c_known20_is:qCj Proofs.Tryd.prog Proofs.Tryd.f7=some (qCc qLy):=by kernel_rfl
theorem call_known20:qCs 7 qLy 61:=fun hl k=>qBh (by kernel_rfl) (by kernel_rfl) c_known20_is (by kernel_rfl) hl k
def qKb:AFn :=
⟨(O [T 8 false]
 (O [V 13 1,Bk 14 .rem 13 .u8 3,Cv' 15 .i64 14,V 16 0,Bk 17 .rem 16 .u8 8,Cv' 18 .i64 17,⟨some 19,none,.q (.build [(.int .u8 0),(.int .i64 0),(.int .i64 0),(.int .i64 0)] [(0,1,(.const (.int .u8 7))),(1,1,(.tmp 15)),(2,1,(.tmp 18))]),[]⟩,⟨some 20,none,.e (.lit [(.int .u8 0),(.int .i64 0),(.int .i64 0),(.int .i64 0)] 4 1 [(0,4,(.tmp 19))]),[]⟩,V 9 20]
 (.seq (O [N 10 0]
 (.block 0 (.loop (.seq (O [V 21 10,V 22 2,Bk 23 .rem 22 .u8 40,Cv' 24 .i64 23,B 25 .lss 21 24]
 (.cond (.tmp 25)
 .skip
 (.exit 0)))
 (.seq (.block 1 (.ops [V 28 9,⟨some 29,none,.q (.build [(.int .u8 0),(.int .i64 0),(.int .i64 0),(.int .i64 0)] []),[]⟩,V 30 3,⟨some 31,none,.q (.build [(.int .u8 0),(.int .i64 0),(.int .i64 0),(.int .i64 0)] [(0,1,(.const (.int .u8 1))),(1,1,(.const (.int .i64 3))),(2,1,(.tmp 30))]),[]⟩,⟨some 32,none,.q (.build [(.int .u8 0),(.int .i64 0),(.int .i64 0),(.int .i64 0)] [(0,1,(.const (.int .u8 9))),(1,1,(.const (.int .i64 3)))]),[]⟩,⟨some 33,none,.e (.lit [(.int .u8 0),(.int .i64 0),(.int .i64 0),(.int .i64 0),(.int .u8 0),(.int .i64 0),(.int .i64 0),(.int .i64 0),(.int .u8 0),(.int .i64 0),(.int .i64 0),(.int .i64 0)] 4 3 [(0,4,(.tmp 29)),(4,4,(.tmp 31)),(8,4,(.tmp 32))]),[]⟩,V 34 10,Bn 35 .rem 34 3,X 36 4 33 35,LA 37 4 36,⟨some 38,none,.e (.lit [(.int .u8 0),(.int .i64 0),(.int .i64 0),(.int .i64 0)] 4 1 [(0,4,(.tmp 37))]),[]⟩,Ap 39 4 28 38,V 9 39]))
 (.ops [V 26 10,Bn 27 .add 26 1,V 10 27]))))))
 (O [V 40 9,⟨some 41,none,.q (.build [(.int .u8 0),(.int .i64 0),(.int .i64 0),(.int .i64 0)] [(0,1,(.const (.int .u8 11))),(1,1,(.const (.int .i64 3)))]),[]⟩,⟨some 42,none,.e (.lit [(.int .u8 0),(.int .i64 0),(.int .i64 0),(.int .i64 0)] 4 1 [(0,4,(.tmp 41))]),[]⟩,Ap 43 4 40 42,V 9 43]
 (O [V 44 9,Z 4 44,⟨some 45,none,.call 8 [(.tmp 44)],[]⟩,⟨some 11,none,.e (.new [(.slice none 0 0),(.slice none 0 0)] 2),[]⟩,⟨none,none,.e (.store 2 (.tmp 11) (.tmp 45)),[]⟩]
 (.seq (O [FA 46 0 11,L 47 46,Ln 48 47,V 49 9,Ln 50 49,Bn 51 .add 50 1,B 52 .neq 48 51,V 53 52,Gd 53 false (FA 54 0 11),Gd 53 false (L 55 54),⟨some 56,some (53,false),.q (.idxA 4 (.tmp 55) (.const (.int .i64 0))),[]⟩,Gd 53 false (LA 57 4 56),Gd 53 false (V 58 9),⟨some 59,some (53,false),.q (.idxA 4 (.tmp 58) (.const (.int .i64 0))),[]⟩,Gd 53 false (LA 60 4 59),⟨some 61,some (53,false),.q (.eqA [0,0,0,0] true (.tmp 57) (.tmp 60)),[]⟩,⟨some 62,none,.q (.pick (.tmp 53) (.const (.bool true)) (.tmp 61)),[]⟩,V 63 62,Gd 63 false (FA 64 0 11),Gd 63 false (L 65 64),⟨some 66,some (63,false),.q (.idxA 4 (.tmp 65) (.const (.int .i64 1))),[]⟩,Gd 63 false (LA 67 4 66),⟨some 68,some (63,false),.q (.build [(.int .u8 0),(.int .i64 0),(.int .i64 0),(.int .i64 0)] []),[]⟩,⟨some 69,some (63,false),.q (.eqA [0,0,0,0] true (.tmp 67) (.tmp 68)),[]⟩,⟨some 70,none,.q (.pick (.tmp 63) (.const (.bool true)) (.tmp 69)),[]⟩]
 (.cond (.tmp 70)
 (O [T 8 false]
 .ret)
 .skip))
 (.seq (O [N 12 1]
 (.block 2 (.loop (.seq (O [V 71 12,Bn 72 .add 71 1,V 73 9,Ln 74 73,B 75 .lss 72 74]
 (.cond (.tmp 75)
 .skip
 (.exit 2)))
 (.seq (.block 3 (O [FA 78 0 11,L 79 78,V 80 12,Bn 81 .add 80 1,X 82 4 79 81,LA 83 4 82,V 84 9,V 85 12,X 86 4 84 85,LA 87 4 86,⟨some 88,none,.q (.eqA [0,0,0,0] true (.tmp 83) (.tmp 87)),[]⟩]
 (.cond (.tmp 88)
 (O [T 8 false]
 .ret)
 .skip)))
 (.ops [V 76 12,Bn 77 .add 76 1,V 12 77]))))))
 (O [⟨some 89,none,.call 7 [],[]⟩,V 90 89,Gd 90 true (FA 91 0 11),Gd 90 true (L 92 91),Gd 90 true (V 93 9),Gd 90 true (Ln 94 93),Gd 90 true (X 95 4 92 94),Gd 90 true (LA 96 4 95),⟨some 97,some (90,true),.q (.build [(.int .u8 0),(.int .i64 0),(.int .i64 0),(.int .i64 0)] [(0,1,(.const (.int .u8 11))),(1,1,(.const (.int .i64 3))),(2,1,(.const (.int .i64 1)))]),[]⟩,⟨some 98,some (90,true),.q (.eqA [0,0,0,0] false (.tmp 96) (.tmp 97)),[]⟩,Pk 99 90 98 false,V 8 99]
 .ret)))))))),[.tmp 8],100⟩
theorem c_LiftGoes_is:qCj Proofs.Tryd.prog Proofs.Tryd.f5=some (qCc qKb):=by kernel_rfl
theorem call_LiftGoes:qCs 5 qKb 100:=fun hl k=>qBh (by kernel_rfl) (by kernel_rfl) c_LiftGoes_is (by kernel_rfl) hl k
end Pm
