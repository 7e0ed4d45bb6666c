/- Codes of the program's functions, as a program printed them, and that they are what the program's functions are compiled to.
   No condition: plain facts. -/

import Derived.KernelRfl
import Derived.Test.YtdiggaadgjkgkaaDoorZMPm5
import Derived.Test.YtdiggaadgjkgkaaDoorProg
namespace Pm
set_option linter.unusedSimpArgs false
set_option linter.unusedVariables false
open Go Am
set_option maxRecDepth 100000
end Pm
/- Codes of the program's functions, as a program printed them, and that they are what the program's functions are compiled to.
   No condition: plain facts. -/
namespace Pm
set_option linter.unusedSimpArgs false
set_option linter.unusedVariables false
open Go Am
set_option maxRecDepth 100000
@[irreducible] def qNq:ByteArray:=⟨#[0,1,2,2,3,3,3,3,4,4,4,4,4,4,4,4,5,5,5,5,5,5,5,5,5,5,5,5,5,5,5,5,6,6,6,6,6,6,6,6,6,6,6,6,6,6,6,6,6,6,6,6,6,6,6,6,6,6,6,6,6,6,6,6,7,7,7,7,7,7,7,7,7,7,7,7,7,7,7,7,7,7,7,7,7,7,7,7,7,7,7,7,7,7,7,7,7,7,7,7,7,7,7,7,7,7,7,7,7,7,7,7,7,7,7,7,7,7,7,7,7,7,7,7,7,7,7,7,8,8,8,8,8,8,8,8,8,8,8,8,8,8,8,8,8,8,8,8,8,8,8,8,8,8,8,8,8,8,8,8,8,8,8,8,8,8,8,8,8,8,8,8,8,8,8,8,8,8,8,8,8,8,8,8,8,8,8,8,8,8,8,8,8,8,8,8,8,8,8,8,8,8,8,8,8,8,8,8,8,8,8,8,8,8,8,8,8,8,8,8,8,8,8,8,8,8,8,8,8,8,8,8,8,8,8,8,8,8,8,8,8,8,8,8,8,8,8,8,8,8,8,8,8,8,8,8]⟩
abbrev qCp (f:FuncId) (c:AFn) (n:Nat):Prop:=∀ {args:List Value} {h:Heap} {K:Value→Heap→Prop},args.length≤n→pwp Proofs.Tryd.prog c.body (qAs c.results K) (qBy args) h→qBj Proofs.Tryd.prog f args h K
def c_SortI:AFn :=
⟨(O [V 3 0,Ln 4 3,V 2 4]
 (.ops [V 5 0,V 6 2,V 7 2,Cv' 8 .u64 7,⟨some 9,none,.call 47 [(.tmp 8)],[]⟩,⟨some 10,none,.call 46 [(.tmp 5),(.const (.int .i64 0)),(.tmp 6),(.tmp 9)],[]⟩])),[],11⟩
theorem call_SortI:qCp 23 c_SortI 11:=fun hl k=>qBf (fn:=Proofs.Tryd.f23) (by kernel_rfl) (by kernel_rfl) (by kernel_rfl) (by kernel_rfl) hl k
def c_pdqI:AFn :=
⟨(O [T 8 true]
 (O [T 9 true]
 (.block 0 (.loop (.block 1 (O [V 19 2,V 20 1,B 21 .sub 19 20,V 10 21]
 (.seq (O [V 22 10,Bn 23 .leq 22 12]
 (.cond (.tmp 23)
 (O [V 24 0,V 25 1,V 26 2,⟨some 27,none,.call 65 [(.tmp 24),(.tmp 25),(.tmp 26)],[]⟩]
 .ret)
 .skip))
 (.seq (O [V 28 3,Bn 29 .eql 28 0]
 (.cond (.tmp 29)
 (O [V 30 0,V 31 1,V 32 2,⟨some 33,none,.call 66 [(.tmp 30),(.tmp 31),(.tmp 32)],[]⟩]
 .ret)
 .skip))
 (.seq (O [V 34 8,Nt 35 34]
 (.cond (.tmp 35)
 (O [V 36 0,V 37 1,V 38 2,⟨some 39,none,.call 67 [(.tmp 36),(.tmp 37),(.tmp 38)],[]⟩]
 (.ops [V 40 3,Bn 41 .sub 40 1,V 3 41]))
 .skip))
 (O [V 43 0,V 44 1,V 45 2,⟨some 46,none,.call 68 [(.tmp 43),(.tmp 44),(.tmp 45)],[]⟩,V 42 46,⟨some 47,none,.q (.ext (.tmp 42) 0),[]⟩,⟨some 48,none,.q (.ext (.tmp 42) 1),[]⟩,V 11 47,V 12 48]
 (.seq (O [V 49 12,Bn 50 .eql 49 2]
 (.cond (.tmp 50)
 (O [V 51 0,V 52 1,V 53 2,⟨some 54,none,.call 69 [(.tmp 51),(.tmp 52),(.tmp 53)],[]⟩]
 (O [V 55 2,Bn 56 .sub 55 1,V 57 11,V 58 1,B 59 .sub 57 58,B 60 .sub 56 59,V 11 60]
 (.ops [N 12 1])))
 .skip))
 (.seq (O [V 61 8,V 62 61,Gd 62 true (V 63 9),Pk 64 62 63 false,V 65 64,Gd 65 true (V 66 12),Gd 65 true (Bn 67 .eql 66 1),Pk 68 65 67 false]
 (.cond (.tmp 68)
 (O [V 69 0,V 70 1,V 71 2,⟨some 72,none,.call 70 [(.tmp 69),(.tmp 70),(.tmp 71)],[]⟩]
 (.cond (.tmp 72)
 .ret
 .skip))
 .skip))
 (.seq (O [V 73 1,Bn 74 .gtr 73 0,V 75 74,Gd 75 true (V 76 0),Gd 75 true (V 77 1),Gd 75 true (Bn 78 .sub 77 1),Gd 75 true (X 79 1 76 78),Gd 75 true (L 80 79),Gd 75 true (V 81 0),Gd 75 true (V 82 11),Gd 75 true (X 83 1 81 82),Gd 75 true (L 84 83),⟨some 85,some (75,true),.call 71 [(.tmp 80),(.tmp 84)],[]⟩,Gd 75 true (Nt 86 85),Pk 87 75 86 false]
 (.cond (.tmp 87)
 (O [V 88 0,V 89 1,V 90 2,V 91 11,⟨some 92,none,.call 72 [(.tmp 88),(.tmp 89),(.tmp 90),(.tmp 91)],[]⟩,V 13 92]
 (O [V 93 13,V 1 93]
 (.exit 1)))
 .skip))
 (O [V 95 0,V 96 1,V 97 2,V 98 11,⟨some 99,none,.call 73 [(.tmp 95),(.tmp 96),(.tmp 97),(.tmp 98)],[]⟩,V 94 99,⟨some 100,none,.q (.ext (.tmp 94) 0),[]⟩,⟨some 101,none,.q (.ext (.tmp 94) 1),[]⟩,V 14 100,V 15 101]
 (O [V 102 15,V 9 102]
 (O [V 103 14,V 104 1,B 105 .sub 103 104,V 106 2,V 107 14,B 108 .sub 106 107,V 16 105,V 17 108]
 (O [V 109 10,Bn 110 .quo 109 8,V 18 110]
 (O [V 111 16,V 112 17,B 113 .lss 111 112]
 (.cond (.tmp 113)
 (O [V 114 16,V 115 18,B 116 .geq 114 115,V 8 116]
 (O [V 117 0,V 118 1,V 119 14,V 120 3,⟨some 121,none,.call 46 [(.tmp 117),(.tmp 118),(.tmp 119),(.tmp 120)],[]⟩]
 (.ops [V 122 14,Bn 123 .add 122 1,V 1 123])))
 (O [V 124 17,V 125 18,B 126 .geq 124 125,V 8 126]
 (O [V 127 0,V 128 14,Bn 129 .add 128 1,V 130 2,V 131 3,⟨some 132,none,.call 46 [(.tmp 127),(.tmp 129),(.tmp 130),(.tmp 131)],[]⟩]
 (.ops [V 133 14,V 2 133])))))))))))))))))))))),[],134⟩
theorem call_pdqI:qCp 46 c_pdqI 134:=fun hl k=>qBf (fn:=Proofs.Tryd.f46) (by kernel_rfl) (by kernel_rfl) (by kernel_rfl) (by kernel_rfl) hl k
def qQh:AFn :=
⟨(O [V 8 1,Bn 9 .add 8 1,V 6 9]
 (.block 0 (.loop (.seq (O [V 10 6,V 11 2,B 12 .lss 10 11]
 (.cond (.tmp 12)
 .skip
 (.exit 0)))
 (.seq (.block 1 (O [V 15 6,V 7 15]
 (.block 2 (.loop (.seq (O [V 16 7,V 17 1,B 18 .gtr 16 17,V 19 18,Gd 19 true (V 20 0),Gd 19 true (V 21 7),Gd 19 true (X 22 1 20 21),Gd 19 true (L 23 22),Gd 19 true (V 24 0),Gd 19 true (V 25 7),Gd 19 true (Bn 26 .sub 25 1),Gd 19 true (X 27 1 24 26),Gd 19 true (L 28 27),⟨some 29,some (19,true),.call 71 [(.tmp 23),(.tmp 28)],[]⟩,Pk 30 19 29 false]
 (.cond (.tmp 30)
 .skip
 (.exit 2)))
 (.seq (.block 3 (.ops [V 33 0,V 34 7,V 35 0,V 36 7,Bn 37 .sub 36 1,V 38 0,V 39 7,Bn 40 .sub 39 1,X 41 1 38 40,L 42 41,V 43 0,V 44 7,X 45 1 43 44,L 46 45,X 47 1 33 34,S 47 42,X 48 1 35 37,S 48 46]))
 (.ops [V 31 7,Bn 32 .sub 31 1,V 7 32])))))))
 (.ops [V 13 6,Bn 14 .add 13 1,V 6 14])))))),[],49⟩
theorem call_insI:qCp 65 qQh 49:=fun hl k=>qBf (fn:=Proofs.Tryd.f65) (by kernel_rfl) (by kernel_rfl) (by kernel_rfl) (by kernel_rfl) hl k
def c_LessI:AFn :=
⟨(O [T 4 false]
 (O [V 5 0,⟨some 6,none,.call 85 [(.tmp 5)],[]⟩,V 7 6,Gd 7 true (V 8 1),⟨some 9,some (7,true),.call 85 [(.tmp 8)],[]⟩,Gd 7 true (Nt 10 9),Pk 11 7 10 false,V 12 11,Gd 12 false (V 13 0),Gd 12 false (V 14 1),Gd 12 false (B 15 .lss 13 14),⟨some 16,none,.q (.pick (.tmp 12) (.const (.bool true)) (.tmp 15)),[]⟩,V 4 16]
 .ret)),[.tmp 4],17⟩
theorem call_LessI:qCp 71 c_LessI 17:=fun hl k=>qBf (fn:=Proofs.Tryd.f71) (by kernel_rfl) (by kernel_rfl) (by kernel_rfl) (by kernel_rfl) hl k
def c_isNaNI:AFn :=
⟨(O [T 2 false]
 (O [V 3 0,V 4 0,B 5 .neq 3 4,V 2 5]
 .ret)),[.tmp 2],6⟩
theorem call_isNaNI:qCp 85 c_isNaNI 6:=fun hl k=>qBf (fn:=Proofs.Tryd.f85) (by kernel_rfl) (by kernel_rfl) (by kernel_rfl) (by kernel_rfl) hl k
def c_LenU:AFn :=
⟨(O [N 2 0]
 (.seq (.cond (.const (.bool false))
 (O [V 3 0,Cv' 4 .u32 3,⟨some 5,none,.call 74 [(.tmp 4)],[]⟩,V 2 5]
 .ret)
 .skip)
 (O [V 6 0,⟨some 7,none,.call 75 [(.tmp 6)],[]⟩,V 2 7]
 .ret))),[.tmp 2],8⟩
theorem call_LenU:qCp 47 c_LenU 8:=fun hl k=>qBf (fn:=Proofs.Tryd.f47) (by kernel_rfl) (by kernel_rfl) (by kernel_rfl) (by kernel_rfl) hl k
def c_Len64:AFn :=
⟨(O [N 2 0]
 (.seq (O [V 3 0,Bk 4 .geq 3 .u64 4294967296]
 (.cond (.tmp 4)
 (O [V 5 0,Bk 6 .shr 5 .u64 32,V 0 6]
 (.ops [N 2 32]))
 .skip))
 (.seq (O [V 7 0,Bk 8 .geq 7 .u64 65536]
 (.cond (.tmp 8)
 (O [V 9 0,Bk 10 .shr 9 .u64 16,V 0 10]
 (.ops [V 11 2,Bn 12 .add 11 16,V 2 12]))
 .skip))
 (.seq (O [V 13 0,Bk 14 .geq 13 .u64 256]
 (.cond (.tmp 14)
 (O [V 15 0,Bk 16 .shr 15 .u64 8,V 0 16]
 (.ops [V 17 2,Bn 18 .add 17 8,V 2 18]))
 .skip))
 (O [V 19 2,V 20 0,Cv' 21 .u8 20,⟨some 22,none,.q (.idxS (.const (.string qNq)) (.tmp 21)),[]⟩,Cv' 23 .i64 22,B 24 .add 19 23,V 2 24]
 .ret))))),[.tmp 2],25⟩
theorem call_Len64:qCp 75 c_Len64 25:=fun hl k=>qBf (fn:=Proofs.Tryd.f75) (by kernel_rfl) (by kernel_rfl) (by kernel_rfl) (by kernel_rfl) hl k
def qKn:AFn :=
⟨(O [E 2]
 (.seq (O [V 6 0,Ln 7 6,Bn 8 .lss 7 2]
 (.cond (.tmp 8)
 (O [V 9 0,V 2 9]
 .ret)
 .skip))
 (.seq (O [N 3 1]
 (.block 0 (.loop (.seq (O [V 10 3,V 11 0,Ln 12 11,B 13 .lss 10 12]
 (.cond (.tmp 13)
 .skip
 (.exit 0)))
 (.seq (.block 1 (O [V 16 0,V 17 3,X 18 1 16 17,L 19 18,V 20 0,V 21 3,Bn 22 .sub 21 1,X 23 1 20 22,L 24 23,B 25 .eql 19 24]
 (.cond (.tmp 25)
 (O [V 26 0,V 27 3,⟨some 28,none,.q (.cut 1 (.tmp 26) (some (.tmp 27)) none),[]⟩,V 4 28]
 (.seq (O [N 5 1]
 (.block 2 (.loop (.seq (O [V 29 5,V 30 4,Ln 31 30,B 32 .lss 29 31]
 (.cond (.tmp 32)
 .skip
 (.exit 2)))
 (.seq (.block 3 (O [V 35 4,V 36 5,X 37 1 35 36,L 38 37,V 39 4,V 40 5,Bn 41 .sub 40 1,X 42 1 39 41,L 43 42,B 44 .neq 38 43]
 (.cond (.tmp 44)
 (O [V 45 0,V 46 3,V 47 4,V 48 5,X 49 1 47 48,L 50 49,X 51 1 45 46,S 51 50]
 (.ops [V 52 3,Bn 53 .add 52 1,V 3 53]))
 .skip)))
 (.ops [V 33 5,Bn 34 .add 33 1,V 5 34]))))))
 (O [V 54 0,V 55 3,⟨some 56,none,.q (.cut 1 (.tmp 54) (some (.tmp 55)) none),[]⟩,⟨none,none,.e (.clear [(.int .i64 0)] (.tmp 56)),[]⟩]
 (O [V 57 0,V 58 3,⟨some 59,none,.q (.cut 1 (.tmp 57) none (some (.tmp 58))),[]⟩,V 2 59]
 .ret))))
 .skip)))
 (.ops [V 14 3,Bn 15 .add 14 1,V 3 15]))))))
 (O [V 60 0,V 2 60]
 .ret)))),[.tmp 2],61⟩
theorem call_CompactI:qCp 24 qKn 61:=fun hl k=>qBf (fn:=Proofs.Tryd.f24) (by kernel_rfl) (by kernel_rfl) (by kernel_rfl) (by kernel_rfl) hl k
def c_Succs:AFn :=
⟨(O [E 2]
 (O [V 7 0,Ln 8 7,⟨some 9,none,.e (.make [(.slice none 0 0)] 1 (.tmp 8) (.tmp 8)),[]⟩,V 3 9]
 (.seq (O [V 10 0,Ln 11 10,N 12 0]
 (.block 0 (.loop (O [B 13 .lss 12 11]
 (.seq (.cond (.tmp 13)
 .skip
 (.exit 0))
 (.seq (.block 1 (O [V 14 12,X 15 4 10 12,LA 16 4 15,⟨some 5,none,.e (.new [(.int .u8 0),(.int .i64 0),(.int .i64 0),(.int .i64 0)] 4),[]⟩,V 4 14,⟨none,none,.e (.store 4 (.tmp 5) (.tmp 16)),[]⟩]
 (O [V 17 4,Bn 18 .add 17 1,⟨some 19,none,.e (.lit [(.int .i64 0)] 1 1 [(0,1,(.tmp 18))]),[]⟩,V 6 19]
 (.seq (O [FA 20 0 5,L 21 20]
 (.block 2 (O [Bk 23 .eql 21 .u8 10,V 22 23]
 (.cond (.tmp 22)
 (.ops [V 24 6,FA 25 1 5,L 26 25,⟨some 27,none,.q (.idxA 1 (.tmp 24) (.const (.int .i64 0))),[]⟩,S 27 26])
 (O [Bk 29 .eql 21 .u8 11,V 28 29]
 (.cond (.tmp 28)
 (.ops [V 30 6,FA 31 2 5,L 32 31,⟨some 33,none,.e (.lit [(.int .i64 0)] 1 1 [(0,1,(.tmp 32))]),[]⟩,Ap 34 1 30 33,V 6 34])
 .skip))))))
 (O [V 35 6,⟨some 36,none,.call 23 [(.tmp 35)],[]⟩]
 (.ops [V 37 3,V 38 4,V 39 6,⟨some 40,none,.call 24 [(.tmp 39)],[]⟩,Z 1 40,X 41 1 37 38,S 41 40]))))))
 (.ops [Bn 42 .add 12 1,V 12 42])))))))
 (O [V 43 3,V 2 43]
 .ret)))),[.tmp 2],44⟩
theorem call_Succs:qCp 11 c_Succs 44:=fun hl k=>qBf (fn:=Proofs.Tryd.f11) (by kernel_rfl) (by kernel_rfl) (by kernel_rfl) (by kernel_rfl) hl k
end Pm
/- Codes of the program's functions, as a program printed them, and that they are what the program's functions are compiled to.
   No condition: plain facts. -/
namespace Pm
set_option linter.unusedSimpArgs false
set_option linter.unusedVariables false
open Go Am
set_option maxRecDepth 100000
end Pm

/- Codes of the program's functions, as a program printed them, and that they are what the program's functions are compiled to.
   No condition: plain facts. -/
namespace Pm
set_option linter.unusedSimpArgs false
set_option linter.unusedVariables false
open Go Am
set_option maxRecDepth 100000
@[irreducible] def z196:List Value:=[(.string ⟨#[]⟩),(.int .u8 0),(.int .u8 0),(.int .u8 0),(.bool false),(.bool false),(.bool false),(.string ⟨#[]⟩),(.int .u8 0),(.int .u8 0),(.int .u8 0),(.bool false),(.bool false),(.bool false),(.string ⟨#[]⟩),(.int .u8 0),(.int .u8 0),(.int .u8 0),(.bool false),(.bool false),(.bool false),(.string ⟨#[]⟩),(.int .u8 0),(.int .u8 0),(.int .u8 0),(.bool false),(.bool false),(.bool false),(.string ⟨#[]⟩),(.int .u8 0),(.int .u8 0),(.int .u8 0),(.bool false),(.bool false),(.bool false),(.string ⟨#[]⟩),(.int .u8 0),(.int .u8 0),(.int .u8 0),(.bool false),(.bool false),(.bool false),(.string ⟨#[]⟩),(.int .u8 0),(.int .u8 0),(.int .u8 0),(.bool false),(.bool false),(.bool false),(.string ⟨#[]⟩),(.int .u8 0),(.int .u8 0),(.int .u8 0),(.bool false),(.bool false),(.bool false),(.string ⟨#[]⟩),(.int .u8 0),(.int .u8 0),(.int .u8 0),(.bool false),(.bool false),(.bool false),(.string ⟨#[]⟩),(.int .u8 0),(.int .u8 0),(.int .u8 0),(.bool false),(.bool false),(.bool false),(.string ⟨#[]⟩),(.int .u8 0),(.int .u8 0),(.int .u8 0),(.bool false),(.bool false),(.bool false),(.string ⟨#[]⟩),(.int .u8 0),(.int .u8 0),(.int .u8 0),(.bool false),(.bool false),(.bool false),(.string ⟨#[]⟩),(.int .u8 0),(.int .u8 0),(.int .u8 0),(.bool false),(.bool false),(.bool false),(.string ⟨#[]⟩),(.int .u8 0),(.int .u8 0),(.int .u8 0),(.bool false),(.bool false),(.bool false),(.string ⟨#[]⟩),(.int .u8 0),(.int .u8 0),(.int .u8 0),(.bool false),(.bool false),(.bool false),(.string ⟨#[]⟩),(.int .u8 0),(.int .u8 0),(.int .u8 0),(.bool false),(.bool false),(.bool false),(.string ⟨#[]⟩),(.int .u8 0),(.int .u8 0),(.int .u8 0),(.bool false),(.bool false),(.bool false),(.string ⟨#[]⟩),(.int .u8 0),(.int .u8 0),(.int .u8 0),(.bool false),(.bool false),(.bool false),(.string ⟨#[]⟩),(.int .u8 0),(.int .u8 0),(.int .u8 0),(.bool false),(.bool false),(.bool false),(.string ⟨#[]⟩),(.int .u8 0),(.int .u8 0),(.int .u8 0),(.bool false),(.bool false),(.bool false),(.string ⟨#[]⟩),(.int .u8 0),(.int .u8 0),(.int .u8 0),(.bool false),(.bool false),(.bool false),(.string ⟨#[]⟩),(.int .u8 0),(.int .u8 0),(.int .u8 0),(.bool false),(.bool false),(.bool false),(.string ⟨#[]⟩),(.int .u8 0),(.int .u8 0),(.int .u8 0),(.bool false),(.bool false),(.bool false),(.string ⟨#[]⟩),(.int .u8 0),(.int .u8 0),(.int .u8 0),(.bool false),(.bool false),(.bool false),(.string ⟨#[]⟩),(.int .u8 0),(.int .u8 0),(.int .u8 0),(.bool false),(.bool false),(.bool false),(.string ⟨#[]⟩),(.int .u8 0),(.int .u8 0),(.int .u8 0),(.bool false),(.bool false),(.bool false),(.string ⟨#[]⟩),(.int .u8 0),(.int .u8 0),(.int .u8 0),(.bool false),(.bool false),(.bool false),(.string ⟨#[]⟩),(.int .u8 0),(.int .u8 0),(.int .u8 0),(.bool false),(.bool false),(.bool false)]
def c_shapes:AFn :=
⟨(O [⟨some 0,none,.e (.new [(.string ⟨#[]⟩),(.int .u8 0),(.int .u8 0),(.int .u8 0),(.bool false),(.bool false),(.bool false),(.string ⟨#[]⟩),(.int .u8 0),(.int .u8 0),(.int .u8 0),(.bool false),(.bool false),(.bool false),(.string ⟨#[]⟩),(.int .u8 0),(.int .u8 0),(.int .u8 0),(.bool false),(.bool false),(.bool false),(.string ⟨#[]⟩),(.int .u8 0),(.int .u8 0),(.int .u8 0),(.bool false),(.bool false),(.bool false),(.string ⟨#[]⟩),(.int .u8 0),(.int .u8 0),(.int .u8 0),(.bool false),(.bool false),(.bool false),(.string ⟨#[]⟩),(.int .u8 0),(.int .u8 0),(.int .u8 0),(.bool false),(.bool false),(.bool false),(.string ⟨#[]⟩),(.int .u8 0),(.int .u8 0),(.int .u8 0),(.bool false),(.bool false),(.bool false),(.string ⟨#[]⟩),(.int .u8 0),(.int .u8 0),(.int .u8 0),(.bool false),(.bool false),(.bool false),(.string ⟨#[]⟩),(.int .u8 0),(.int .u8 0),(.int .u8 0),(.bool false),(.bool false),(.bool false),(.string ⟨#[]⟩),(.int .u8 0),(.int .u8 0),(.int .u8 0),(.bool false),(.bool false),(.bool false),(.string ⟨#[]⟩),(.int .u8 0),(.int .u8 0),(.int .u8 0),(.bool false),(.bool false),(.bool false),(.string ⟨#[]⟩),(.int .u8 0),(.int .u8 0),(.int .u8 0),(.bool false),(.bool false),(.bool false),(.string ⟨#[]⟩),(.int .u8 0),(.int .u8 0),(.int .u8 0),(.bool false),(.bool false),(.bool false),(.string ⟨#[]⟩),(.int .u8 0),(.int .u8 0),(.int .u8 0),(.bool false),(.bool false),(.bool false),(.string ⟨#[]⟩),(.int .u8 0),(.int .u8 0),(.int .u8 0),(.bool false),(.bool false),(.bool false),(.string ⟨#[]⟩),(.int .u8 0),(.int .u8 0),(.int .u8 0),(.bool false),(.bool false),(.bool false),(.string ⟨#[]⟩),(.int .u8 0),(.int .u8 0),(.int .u8 0),(.bool false),(.bool false),(.bool false),(.string ⟨#[]⟩),(.int .u8 0),(.int .u8 0),(.int .u8 0),(.bool false),(.bool false),(.bool false),(.string ⟨#[]⟩),(.int .u8 0),(.int .u8 0),(.int .u8 0),(.bool false),(.bool false),(.bool false),(.string ⟨#[]⟩),(.int .u8 0),(.int .u8 0),(.int .u8 0),(.bool false),(.bool false),(.bool false),(.string ⟨#[]⟩),(.int .u8 0),(.int .u8 0),(.int .u8 0),(.bool false),(.bool false),(.bool false),(.string ⟨#[]⟩),(.int .u8 0),(.int .u8 0),(.int .u8 0),(.bool false),(.bool false),(.bool false),(.string ⟨#[]⟩),(.int .u8 0),(.int .u8 0),(.int .u8 0),(.bool false),(.bool false),(.bool false),(.string ⟨#[]⟩),(.int .u8 0),(.int .u8 0),(.int .u8 0),(.bool false),(.bool false),(.bool false),(.string ⟨#[]⟩),(.int .u8 0),(.int .u8 0),(.int .u8 0),(.bool false),(.bool false),(.bool false),(.string ⟨#[]⟩),(.int .u8 0),(.int .u8 0),(.int .u8 0),(.bool false),(.bool false),(.bool false),(.string ⟨#[]⟩),(.int .u8 0),(.int .u8 0),(.int .u8 0),(.bool false),(.bool false),(.bool false),(.string ⟨#[]⟩),(.int .u8 0),(.int .u8 0),(.int .u8 0),(.bool false),(.bool false),(.bool false)] 7),[]⟩]
 (O [⟨some 1,none,.q (.val (.func 90)),[]⟩]
 (O [⟨some 2,none,.q (.val (.func 91)),[]⟩]
 (O [⟨some 3,none,.q (.build [(.string ⟨#[]⟩),(.int .u8 0),(.int .u8 0),(.int .u8 0),(.bool false),(.bool false),(.bool false)] [(0,1,(.const (.string ⟨#[110,111,112]⟩))),(4,1,(.const (.bool true)))]),[]⟩,⟨some 4,none,.q (.build [(.int .u8 0),(.int .u8 0),(.int .u8 0)] [(0,1,(.const (.int .u8 2))),(1,1,(.const (.int .u8 1)))]),[]⟩,⟨some 5,none,.q (.build [(.string ⟨#[]⟩),(.int .u8 0),(.int .u8 0),(.int .u8 0),(.bool false),(.bool false),(.bool false)] [(0,1,(.const (.string ⟨#[99,111,110,115,116]⟩))),(1,3,(.tmp 4)),(4,1,(.const (.bool true)))]),[]⟩,⟨some 6,none,.q (.build [(.int .u8 0),(.int .u8 0),(.int .u8 0)] [(0,1,(.const (.int .u8 2))),(1,1,(.const (.int .u8 3)))]),[]⟩,⟨some 7,none,.q (.build [(.string ⟨#[]⟩),(.int .u8 0),(.int .u8 0),(.int .u8 0),(.bool false),(.bool false),(.bool false)] [(0,1,(.const (.string ⟨#[109,111,118,101]⟩))),(1,3,(.tmp 6)),(4,1,(.const (.bool true)))]),[]⟩,V 8 1,⟨some 9,none,.callv (.tmp 8) [(.const (.string ⟨#[97,100,100]⟩))],[]⟩,V 10 1,⟨some 11,none,.callv (.tmp 10) [(.const (.string ⟨#[115,117,98]⟩))],[]⟩,V 12 1,⟨some 13,none,.callv (.tmp 12) [(.const (.string ⟨#[109,117,108]⟩))],[]⟩,V 14 1,⟨some 15,none,.callv (.tmp 14) [(.const (.string ⟨#[108,101,115,115]⟩))],[]⟩,⟨some 16,none,.q (.build [(.int .u8 0),(.int .u8 0),(.int .u8 0)] [(0,1,(.const (.int .u8 2))),(1,1,(.const (.int .u8 4)))]),[]⟩,⟨some 17,none,.q (.build [(.string ⟨#[]⟩),(.int .u8 0),(.int .u8 0),(.int .u8 0),(.bool false),(.bool false),(.bool false)] [(0,1,(.const (.string ⟨#[108,111,97,100]⟩))),(1,3,(.tmp 16)),(4,1,(.const (.bool true)))]),[]⟩,⟨some 18,none,.q (.build [(.int .u8 0),(.int .u8 0),(.int .u8 0)] [(0,1,(.const (.int .u8 4))),(1,1,(.const (.int .u8 3)))]),[]⟩,⟨some 19,none,.q (.build [(.string ⟨#[]⟩),(.int .u8 0),(.int .u8 0),(.int .u8 0),(.bool false),(.bool false),(.bool false)] [(0,1,(.const (.string ⟨#[115,116,111,114,101]⟩))),(1,3,(.tmp 18)),(4,1,(.const (.bool true)))]),[]⟩,V 20 2,⟨some 21,none,.callv (.tmp 20) [(.const (.string ⟨#[112,114,105,110,116]⟩)),(.const (.int .u8 3)),(.const (.bool false)),(.const (.bool false))],[]⟩,V 22 2,⟨some 23,none,.callv (.tmp 22) [(.const (.string ⟨#[106,117,109,112]⟩)),(.const (.int .u8 5)),(.const (.bool false)),(.const (.bool false))],[]⟩,⟨some 24,none,.q (.build [(.int .u8 0),(.int .u8 0),(.int .u8 0)] [(0,1,(.const (.int .u8 3))),(1,1,(.const (.int .u8 5)))]),[]⟩,⟨some 25,none,.q (.build [(.string ⟨#[]⟩),(.int .u8 0),(.int .u8 0),(.int .u8 0),(.bool false),(.bool false),(.bool false)] [(0,1,(.const (.string ⟨#[122,101,114,111]⟩))),(1,3,(.tmp 24))]),[]⟩,V 26 2,⟨some 27,none,.callv (.tmp 26) [(.const (.string ⟨#[103,111]⟩)),(.const (.int .u8 6)),(.const (.bool false)),(.const (.bool true))],[]⟩,V 28 2,⟨some 29,none,.callv (.tmp 28) [(.const (.string ⟨#[108,111,99,107]⟩)),(.const (.int .u8 7)),(.const (.bool true)),(.const (.bool false))],[]⟩,V 30 2,⟨some 31,none,.callv (.tmp 30) [(.const (.string ⟨#[117,110,108,111,99,107]⟩)),(.const (.int .u8 7)),(.const (.bool false)),(.const (.bool true))],[]⟩,V 32 2,⟨some 33,none,.callv (.tmp 32) [(.const (.string ⟨#[114,108,111,99,107]⟩)),(.const (.int .u8 7)),(.const (.bool true)),(.const (.bool false))],[]⟩,V 34 2,⟨some 35,none,.callv (.tmp 34) [(.const (.string ⟨#[114,117,110,108,111,99,107]⟩)),(.const (.int .u8 7)),(.const (.bool false)),(.const (.bool true))],[]⟩,⟨some 36,none,.q (.build [(.int .u8 0),(.int .u8 0),(.int .u8 0)] [(0,1,(.const (.int .u8 2))),(1,1,(.const (.int .u8 8)))]),[]⟩,⟨some 37,none,.q (.build [(.string ⟨#[]⟩),(.int .u8 0),(.int .u8 0),(.int .u8 0),(.bool false),(.bool false),(.bool false)] [(0,1,(.const (.string ⟨#[114,101,97,100]⟩))),(1,3,(.tmp 36)),(5,1,(.const (.bool true)))]),[]⟩,⟨some 38,none,.q (.build [(.int .u8 0),(.int .u8 0),(.int .u8 0)] [(0,1,(.const (.int .u8 8))),(1,1,(.const (.int .u8 3)))]),[]⟩,⟨some 39,none,.q (.build [(.string ⟨#[]⟩),(.int .u8 0),(.int .u8 0),(.int .u8 0),(.bool false),(.bool false),(.bool false)] [(0,1,(.const (.string ⟨#[119,114,105,116,101]⟩))),(1,3,(.tmp 38)),(6,1,(.const (.bool true)))]),[]⟩,⟨some 40,none,.q (.build [(.int .u8 0),(.int .u8 0),(.int .u8 0)] [(0,1,(.const (.int .u8 2))),(1,1,(.const (.int .u8 8))),(2,1,(.const (.int .u8 3)))]),[]⟩,⟨some 41,none,.q (.build [(.string ⟨#[]⟩),(.int .u8 0),(.int .u8 0),(.int .u8 0),(.bool false),(.bool false),(.bool false)] [(0,1,(.const (.string ⟨#[98,117,109,112]⟩))),(1,3,(.tmp 40)),(5,1,(.const (.bool true))),(6,1,(.const (.bool true)))]),[]⟩,⟨some 42,none,.q (.build [(.int .u8 0),(.int .u8 0),(.int .u8 0)] [(0,1,(.const (.int .u8 9))),(1,1,(.const (.int .u8 3)))]),[]⟩,⟨some 43,none,.q (.build [(.string ⟨#[]⟩),(.int .u8 0),(.int .u8 0),(.int .u8 0),(.bool false),(.bool false),(.bool false)] [(0,1,(.const (.string ⟨#[115,101,110,100]⟩))),(1,3,(.tmp 42)),(5,1,(.const (.bool true))),(6,1,(.const (.bool true)))]),[]⟩,⟨some 44,none,.q (.build [(.int .u8 0),(.int .u8 0),(.int .u8 0)] [(0,1,(.const (.int .u8 2))),(1,1,(.const (.int .u8 9)))]),[]⟩,⟨some 45,none,.q (.build [(.string ⟨#[]⟩),(.int .u8 0),(.int .u8 0),(.int .u8 0),(.bool false),(.bool false),(.bool false)] [(0,1,(.const (.string ⟨#[114,101,99,118]⟩))),(1,3,(.tmp 44)),(5,1,(.const (.bool true))),(6,1,(.const (.bool true)))]),[]⟩,⟨some 46,none,.q (.build [(.int .u8 0),(.int .u8 0),(.int .u8 0)] [(0,1,(.const (.int .u8 2))),(1,1,(.const (.int .u8 9))),(2,1,(.const (.int .u8 2)))]),[]⟩,⟨some 47,none,.q (.build [(.string ⟨#[]⟩),(.int .u8 0),(.int .u8 0),(.int .u8 0),(.bool false),(.bool false),(.bool false)] [(0,1,(.const (.string ⟨#[112,111,108,108]⟩))),(1,3,(.tmp 46)),(5,1,(.const (.bool true))),(6,1,(.const (.bool true)))]),[]⟩,V 48 2,⟨some 49,none,.callv (.tmp 48) [(.const (.string ⟨#[99,108,111,115,101]⟩)),(.const (.int .u8 9)),(.const (.bool false)),(.const (.bool true))],[]⟩,⟨some 50,none,.q (.build [(.int .u8 0),(.int .u8 0),(.int .u8 0)] [(0,1,(.const (.int .u8 10))),(1,1,(.const (.int .u8 1)))]),[]⟩,⟨some 51,none,.q (.build [(.string ⟨#[]⟩),(.int .u8 0),(.int .u8 0),(.int .u8 0),(.bool false),(.bool false),(.bool false)] [(0,1,(.const (.string ⟨#[103,114,111,119]⟩))),(1,3,(.tmp 50)),(6,1,(.const (.bool true)))]),[]⟩,V 52 2,⟨some 53,none,.callv (.tmp 52) [(.const (.string ⟨#[119,97,105,116]⟩)),(.const (.int .u8 10)),(.const (.bool true)),(.const (.bool false))],[]⟩,⟨some 54,none,.q (.build [(.int .u8 0),(.int .u8 0),(.int .u8 0)] [(0,1,(.const (.int .u8 2))),(1,1,(.const (.int .u8 11)))]),[]⟩,⟨some 55,none,.q (.build [(.string ⟨#[]⟩),(.int .u8 0),(.int .u8 0),(.int .u8 0),(.bool false),(.bool false),(.bool false)] [(0,1,(.const (.string ⟨#[98,101,103,105,110]⟩))),(1,3,(.tmp 54)),(5,1,(.const (.bool true)))]),[]⟩,V 56 2,⟨some 57,none,.callv (.tmp 56) [(.const (.string ⟨#[101,110,100]⟩)),(.const (.int .u8 11)),(.const (.bool false)),(.const (.bool true))],[]⟩,⟨some 58,none,.q (.build [(.string ⟨#[]⟩),(.int .u8 0),(.int .u8 0),(.int .u8 0),(.bool false),(.bool false),(.bool false),(.string ⟨#[]⟩),(.int .u8 0),(.int .u8 0),(.int .u8 0),(.bool false),(.bool false),(.bool false),(.string ⟨#[]⟩),(.int .u8 0),(.int .u8 0),(.int .u8 0),(.bool false),(.bool false),(.bool false),(.string ⟨#[]⟩),(.int .u8 0),(.int .u8 0),(.int .u8 0),(.bool false),(.bool false),(.bool false),(.string ⟨#[]⟩),(.int .u8 0),(.int .u8 0),(.int .u8 0),(.bool false),(.bool false),(.bool false),(.string ⟨#[]⟩),(.int .u8 0),(.int .u8 0),(.int .u8 0),(.bool false),(.bool false),(.bool false),(.string ⟨#[]⟩),(.int .u8 0),(.int .u8 0),(.int .u8 0),(.bool false),(.bool false),(.bool false),(.string ⟨#[]⟩),(.int .u8 0),(.int .u8 0),(.int .u8 0),(.bool false),(.bool false),(.bool false),(.string ⟨#[]⟩),(.int .u8 0),(.int .u8 0),(.int .u8 0),(.bool false),(.bool false),(.bool false),(.string ⟨#[]⟩),(.int .u8 0),(.int .u8 0),(.int .u8 0),(.bool false),(.bool false),(.bool false),(.string ⟨#[]⟩),(.int .u8 0),(.int .u8 0),(.int .u8 0),(.bool false),(.bool false),(.bool false),(.string ⟨#[]⟩),(.int .u8 0),(.int .u8 0),(.int .u8 0),(.bool false),(.bool false),(.bool false),(.string ⟨#[]⟩),(.int .u8 0),(.int .u8 0),(.int .u8 0),(.bool false),(.bool false),(.bool false),(.string ⟨#[]⟩),(.int .u8 0),(.int .u8 0),(.int .u8 0),(.bool false),(.bool false),(.bool false),(.string ⟨#[]⟩),(.int .u8 0),(.int .u8 0),(.int .u8 0),(.bool false),(.bool false),(.bool false),(.string ⟨#[]⟩),(.int .u8 0),(.int .u8 0),(.int .u8 0),(.bool false),(.bool false),(.bool false),(.string ⟨#[]⟩),(.int .u8 0),(.int .u8 0),(.int .u8 0),(.bool false),(.bool false),(.bool false),(.string ⟨#[]⟩),(.int .u8 0),(.int .u8 0),(.int .u8 0),(.bool false),(.bool false),(.bool false),(.string ⟨#[]⟩),(.int .u8 0),(.int .u8 0),(.int .u8 0),(.bool false),(.bool false),(.bool false),(.string ⟨#[]⟩),(.int .u8 0),(.int .u8 0),(.int .u8 0),(.bool false),(.bool false),(.bool false),(.string ⟨#[]⟩),(.int .u8 0),(.int .u8 0),(.int .u8 0),(.bool false),(.bool false),(.bool false),(.string ⟨#[]⟩),(.int .u8 0),(.int .u8 0),(.int .u8 0),(.bool false),(.bool false),(.bool false),(.string ⟨#[]⟩),(.int .u8 0),(.int .u8 0),(.int .u8 0),(.bool false),(.bool false),(.bool false),(.string ⟨#[]⟩),(.int .u8 0),(.int .u8 0),(.int .u8 0),(.bool false),(.bool false),(.bool false),(.string ⟨#[]⟩),(.int .u8 0),(.int .u8 0),(.int .u8 0),(.bool false),(.bool false),(.bool false),(.string ⟨#[]⟩),(.int .u8 0),(.int .u8 0),(.int .u8 0),(.bool false),(.bool false),(.bool false),(.string ⟨#[]⟩),(.int .u8 0),(.int .u8 0),(.int .u8 0),(.bool false),(.bool false),(.bool false),(.string ⟨#[]⟩),(.int .u8 0),(.int .u8 0),(.int .u8 0),(.bool false),(.bool false),(.bool false)] [(0,7,(.tmp 3)),(7,7,(.tmp 5)),(14,7,(.tmp 7)),(21,7,(.tmp 9)),(28,7,(.tmp 11)),(35,7,(.tmp 13)),(42,7,(.tmp 15)),(49,7,(.tmp 17)),(56,7,(.tmp 19)),(63,7,(.tmp 21)),(70,7,(.tmp 23)),(77,7,(.tmp 25)),(84,7,(.tmp 27)),(91,7,(.tmp 29)),(98,7,(.tmp 31)),(105,7,(.tmp 33)),(112,7,(.tmp 35)),(119,7,(.tmp 37)),(126,7,(.tmp 39)),(133,7,(.tmp 41)),(140,7,(.tmp 43)),(147,7,(.tmp 45)),(154,7,(.tmp 47)),(161,7,(.tmp 49)),(168,7,(.tmp 51)),(175,7,(.tmp 53)),(182,7,(.tmp 55)),(189,7,(.tmp 57))]),[]⟩,⟨none,none,.e (.store 196 (.tmp 0) (.tmp 58)),[]⟩]
 .ret)))),[.cells 0 196],59⟩
theorem c_shapes_is:qCk Proofs.Tryd.prog Proofs.Tryd.f86=some (qCc c_shapes):=by kernel_rfl
def c_shapes1:AFn :=
⟨(O [⟨some 2,none,.e (.new [(.string ⟨#[]⟩),(.int .u8 0),(.int .u8 0),(.int .u8 0),(.bool false),(.bool false),(.bool false)] 7),[]⟩]
 (O [V 3 0,⟨some 4,none,.q (.build [(.int .u8 0),(.int .u8 0),(.int .u8 0)] [(0,1,(.const (.int .u8 2))),(1,1,(.const (.int .u8 3))),(2,1,(.const (.int .u8 3)))]),[]⟩,⟨some 5,none,.q (.build [(.string ⟨#[]⟩),(.int .u8 0),(.int .u8 0),(.int .u8 0),(.bool false),(.bool false),(.bool false)] [(0,1,(.tmp 3)),(1,3,(.tmp 4)),(4,1,(.const (.bool true))),(5,1,(.const (.bool false))),(6,1,(.const (.bool false)))]),[]⟩,⟨none,none,.e (.store 7 (.tmp 2) (.tmp 5)),[]⟩]
 .ret)),[.cells 2 7],6⟩
theorem c_shapes1_is:qCk Proofs.Tryd.prog Proofs.Tryd.f90=some (qCc c_shapes1):=by kernel_rfl
def c_shapes2:AFn :=
⟨(O [⟨some 8,none,.e (.new [(.string ⟨#[]⟩),(.int .u8 0),(.int .u8 0),(.int .u8 0),(.bool false),(.bool false),(.bool false)] 7),[]⟩]
 (O [V 9 0,V 10 1,⟨some 11,none,.q (.build [(.int .u8 0),(.int .u8 0),(.int .u8 0)] [(0,1,(.tmp 10))]),[]⟩,V 12 2,V 13 3,⟨some 14,none,.q (.build [(.string ⟨#[]⟩),(.int .u8 0),(.int .u8 0),(.int .u8 0),(.bool false),(.bool false),(.bool false)] [(0,1,(.tmp 9)),(1,3,(.tmp 11)),(4,1,(.const (.bool false))),(5,1,(.tmp 12)),(6,1,(.tmp 13))]),[]⟩,⟨none,none,.e (.store 7 (.tmp 8) (.tmp 14)),[]⟩]
 .ret)),[.cells 8 7],15⟩
theorem c_shapes2_is:qCk Proofs.Tryd.prog Proofs.Tryd.f91=some (qCc c_shapes2):=by kernel_rfl
def qRm:AFn :=
⟨(O [⟨some 2,none,.e (.new [(.string ⟨#[]⟩),(.int .u8 0),(.int .u8 0),(.int .u8 0),(.bool false),(.bool false),(.bool false)] 7),[]⟩,T 3 false]
 (O [⟨some 5,none,.call 86 [],[]⟩,⟨some 4,none,.e (.new z196 7),[]⟩,⟨none,none,.e (.store 196 (.tmp 4) (.tmp 5)),[]⟩]
 (.seq (O [V 6 0,Cv' 7 .i64 6,Bn 8 .geq 7 28]
 (.cond (.tmp 8)
 (O [⟨some 9,none,.q (.build [(.string ⟨#[]⟩),(.int .u8 0),(.int .u8 0),(.int .u8 0),(.bool false),(.bool false),(.bool false)] []),[]⟩,⟨none,none,.e (.store 7 (.tmp 2) (.tmp 9)),[]⟩,T 3 false]
 .ret)
 .skip))
 (O [V 10 0,⟨some 11,none,.q (.idxP 28 7 (.tmp 4) (.tmp 10)),[]⟩,LA 12 7 11,⟨none,none,.e (.store 7 (.tmp 2) (.tmp 12)),[]⟩,T 3 true]
 .ret)))),[.cells 2 7,.tmp 3],13⟩
theorem c_irOf_is:qCk Proofs.Tryd.prog Proofs.Tryd.f77=some (qCc qRm):=by kernel_rfl
theorem call_irOf:qCp 77 qRm 13:=fun hl k=>qBf (by kernel_rfl) (by kernel_rfl) c_irOf_is (by kernel_rfl) hl k
def qIw:AFn :=
⟨(O [⟨some 2,none,.e (.box 4 4 (.tmp 0)),[]⟩,⟨some 4,none,.q (.val (.const (.int .u64 0))),[]⟩]
 (O [FA 11 0 2,L 12 11,⟨some 13,none,.call 77 [(.tmp 12)],[]⟩,V 10 13,⟨some 14,none,.q (.ext (.tmp 10) 0),[]⟩,⟨some 15,none,.q (.ext (.tmp 10) 1),[]⟩,⟨some 5,none,.e (.new [(.string ⟨#[]⟩),(.int .u8 0),(.int .u8 0),(.int .u8 0),(.bool false),(.bool false),(.bool false)] 7),[]⟩,⟨none,none,.e (.store 7 (.tmp 5) (.tmp 14)),[]⟩,V 6 15]
 (O [⟨some 7,none,.q (.val (.const (.int .u64 0))),[]⟩]
 (.seq (O [FA 16 1 2,L 17 16,FA 18 2 2,L 19 18,FA 20 3 2,L 21 20,⟨some 22,none,.q (.build [(.int .i64 0),(.int .i64 0),(.int .i64 0)] [(0,1,(.tmp 17)),(1,1,(.tmp 19)),(2,1,(.tmp 21))]),[]⟩,N 23 0]
 (.block 0 (.loop (O [Bn 24 .lss 23 3]
 (.seq (.cond (.tmp 24)
 .skip
 (.exit 0))
 (.seq (.block 1 (O [V 25 23,⟨some 26,none,.q (.idx none 3 1 (.tmp 22) (.tmp 23)),[]⟩,V 8 25,V 9 26]
 (O [V 27 8,FA 28 1 5,⟨some 29,none,.q (.idxP 3 1 (.tmp 28) (.tmp 27)),[]⟩,L 30 29,V 31 1,B 32 .eql 30 31]
 (.cond (.tmp 32)
 (.ops [V 33 7,V 34 9,⟨some 35,none,.e (.lit [(.int .i64 0)] 1 1 [(0,1,(.tmp 34))]),[]⟩,Z 1 35,⟨some 36,none,.call 12 [(.tmp 33),(.tmp 35)],[]⟩,V 7 36])
 .skip))))
 (.ops [Bn 37 .add 23 1,V 23 37])))))))
 (O [V 38 7,V 4 38]
 .ret))))),[.tmp 4],39⟩
theorem c_registers_is:qCk Proofs.Tryd.prog Proofs.Tryd.f55=some (qCc qIw):=by kernel_rfl
theorem call_registers:qCp 55 qIw 39:=fun hl k=>qBf (by kernel_rfl) (by kernel_rfl) c_registers_is (by kernel_rfl) hl k
def qOi:AFn :=
⟨(O [⟨some 1,none,.e (.box 4 4 (.tmp 0)),[]⟩,⟨some 2,none,.q (.val (.const (.int .u64 0))),[]⟩]
 (O [LA 3 4 1,⟨some 4,none,.call 55 [(.tmp 3),(.const (.int .u8 2))],[]⟩,V 2 4]
 .ret)),[.tmp 2],5⟩
theorem c_irSets_is:qCk Proofs.Tryd.prog Proofs.Tryd.f32=some (qCc qOi):=by kernel_rfl
theorem call_irSets:qCp 32 qOi 5:=fun hl k=>qBf (by kernel_rfl) (by kernel_rfl) c_irSets_is (by kernel_rfl) hl k
def qRn:AFn :=
⟨(O [T 4 false]
 (O [V 5 0,V 6 1,⟨some 7,none,.call 25 [(.tmp 6)],[]⟩,B 8 .and 5 7,Bk 9 .neq 8 .u64 0,V 4 9]
 .ret)),[.tmp 4],10⟩
theorem c_bHas_is:qCk Proofs.Tryd.prog Proofs.Tryd.f31=some (qCc qRn):=by kernel_rfl
theorem call_bHas:qCp 31 qRn 10:=fun hl k=>qBf (by kernel_rfl) (by kernel_rfl) c_bHas_is (by kernel_rfl) hl k
end Pm

/- Codes of the program's functions, as a program printed them, and that they are what the program's functions are compiled to.
   No condition: plain facts. -/
namespace Pm
set_option linter.unusedSimpArgs false
set_option linter.unusedVariables false
open Go Am
set_option maxRecDepth 100000
def qOr:AFn :=
⟨(O [E 2]
 (.seq (O [V 3 0,⟨some 4,none,.nilT false (.tmp 3),[]⟩]
 (.cond (.tmp 4)
 (O [E 2]
 .ret)
 .skip))
 (O [⟨some 5,none,.e (.lit [] 1 0 []),[]⟩,V 6 0,Ap 7 1 5 6,V 2 7]
 .ret))),[.tmp 2],8⟩
theorem c_Clone1_is:qCk Proofs.Tryd.prog Proofs.Tryd.f42=some (qCc qOr):=by kernel_rfl
theorem call_Clone1:qCp 42 qOr 8:=fun hl k=>qBf (by kernel_rfl) (by kernel_rfl) c_Clone1_is (by kernel_rfl) hl k
def qOq:AFn :=
⟨(O [E 2]
 (.seq (O [V 3 0,⟨some 4,none,.nilT false (.tmp 3),[]⟩]
 (.cond (.tmp 4)
 (O [E 2]
 .ret)
 .skip))
 (O [⟨some 5,none,.e (.lit [] 4 0 []),[]⟩,V 6 0,Ap 7 4 5 6,V 2 7]
 .ret))),[.tmp 2],8⟩
theorem c_Clone4_is:qCk Proofs.Tryd.prog Proofs.Tryd.f39=some (qCc qOq):=by kernel_rfl
theorem call_Clone4:qCp 39 qOq 8:=fun hl k=>qBf (by kernel_rfl) (by kernel_rfl) c_Clone4_is (by kernel_rfl) hl k
def qOn:AFn :=
⟨(O [E 4]
 (O [V 8 0,V 9 1,⟨some 10,none,.call 13 [(.tmp 8),(.tmp 9)],[]⟩,V 5 10]
 (.seq (O [V 11 5,Bn 12 .eql 11 (-1)]
 (.cond (.tmp 12)
 (O [V 13 0,V 4 13]
 .ret)
 .skip))
 (.seq (O [V 14 5,Bn 15 .add 14 1,V 6 15]
 (.block 0 (.loop (.seq (O [V 16 6,V 17 0,Ln 18 17,B 19 .lss 16 18]
 (.cond (.tmp 19)
 .skip
 (.exit 0)))
 (.seq (.block 1 (O [V 22 0,V 23 6,X 24 1 22 23,L 25 24,V 7 25]
 (O [V 26 1,V 27 7,⟨some 28,none,.callv (.tmp 26) [(.tmp 27)],[]⟩,Nt 29 28]
 (.cond (.tmp 29)
 (O [V 30 0,V 31 5,V 32 7,X 33 1 30 31,S 33 32]
 (.ops [V 34 5,Bn 35 .add 34 1,V 5 35]))
 .skip))))
 (.ops [V 20 6,Bn 21 .add 20 1,V 6 21]))))))
 (O [V 36 0,V 37 5,⟨some 38,none,.q (.cut 1 (.tmp 36) (some (.tmp 37)) none),[]⟩,⟨none,none,.e (.clear [(.int .i64 0)] (.tmp 38)),[]⟩]
 (O [V 39 0,V 40 5,⟨some 41,none,.q (.cut 1 (.tmp 39) none (some (.tmp 40))),[]⟩,V 4 41]
 .ret)))))),[.tmp 4],42⟩
theorem c_DelF1_is:qCk Proofs.Tryd.prog Proofs.Tryd.f41=some (qCc qOn):=by kernel_rfl
theorem call_DelF1:qCp 41 qOn 42:=fun hl k=>qBf (by kernel_rfl) (by kernel_rfl) c_DelF1_is (by kernel_rfl) hl k
def qOm:AFn :=
⟨(O [N 4 0]
 (.seq (O [V 6 0,Ln 7 6,N 8 0]
 (.block 0 (.loop (O [B 9 .lss 8 7]
 (.seq (.cond (.tmp 9)
 .skip
 (.exit 0))
 (.seq (.block 1 (O [V 10 8,V 5 10]
 (O [V 11 1,V 12 0,V 13 5,X 14 1 12 13,L 15 14,⟨some 16,none,.callv (.tmp 11) [(.tmp 15)],[]⟩]
 (.cond (.tmp 16)
 (O [V 17 5,V 4 17]
 .ret)
 .skip))))
 (.ops [Bn 18 .add 8 1,V 8 18])))))))
 (O [N 4 (-1)]
 .ret))),[.tmp 4],19⟩
theorem c_IdxF1_is:qCk Proofs.Tryd.prog Proofs.Tryd.f13=some (qCc qOm):=by kernel_rfl
theorem call_IdxF1:qCp 13 qOm 19:=fun hl k=>qBf (by kernel_rfl) (by kernel_rfl) c_IdxF1_is (by kernel_rfl) hl k
end Pm

/- Codes of the program's functions, as a program printed them, and that they are what the program's functions are compiled to.
   No condition: plain facts. -/
namespace Pm
set_option linter.unusedSimpArgs false
set_option linter.unusedVariables false
open Go Am
set_option maxRecDepth 100000
def qMf:AFn :=
⟨(O [E 2]
 (O [V 7 0,Ln 8 7,⟨some 9,none,.e (.make [(.bool false)] 1 (.tmp 8) (.tmp 8)),[]⟩,⟨some 3,none,.e (.new [(.slice none 0 0)] 1),[]⟩,S 3 9]
 (O [⟨some 10,none,.q (.fn (.func 76) [(.tmp 3)]),[]⟩,V 4 10]
 (O [V 11 4,⟨some 12,none,.callv (.tmp 11) [(.const (.int .i64 0))],[]⟩]
 (.seq (O [V 13 0,Ln 14 13,N 15 0]
 (.block 0 (.loop (O [B 16 .lss 15 14]
 (.seq (.cond (.tmp 16)
 .skip
 (.exit 0))
 (.seq (.block 1 (O [V 17 15,X 18 4 13 15,LA 19 4 18,⟨some 6,none,.e (.new [(.int .u8 0),(.int .i64 0),(.int .i64 0),(.int .i64 0)] 4),[]⟩,V 5 17,⟨none,none,.e (.store 4 (.tmp 6) (.tmp 19)),[]⟩]
 (.seq (O [FA 20 0 6,L 21 20]
 (.block 2 (O [Bk 23 .eql 21 .u8 10,V 22 23]
 (.cond (.tmp 22)
 (.ops [V 24 4,FA 25 1 6,L 26 25,⟨some 27,none,.callv (.tmp 24) [(.tmp 26)],[]⟩])
 (O [Bk 29 .eql 21 .u8 11,V 28 29]
 (.cond (.tmp 28)
 (.ops [V 30 4,FA 31 2 6,L 32 31,⟨some 33,none,.callv (.tmp 30) [(.tmp 32)],[]⟩])
 .skip))))))
 (O [FA 34 0 6,L 35 34,⟨some 36,none,.call 54 [(.tmp 35)],[]⟩,Nt 37 36]
 (.cond (.tmp 37)
 (O [V 38 4,V 39 5,⟨some 40,none,.callv (.tmp 38) [(.tmp 39)],[]⟩]
 (.ops [V 41 4,V 42 5,Bn 43 .add 42 1,⟨some 44,none,.callv (.tmp 41) [(.tmp 43)],[]⟩]))
 .skip)))))
 (.ops [Bn 45 .add 15 1,V 15 45])))))))
 (O [L 46 3,V 2 46]
 .ret)))))),[.tmp 2],47⟩
theorem c_sgHeads_is:qCk Proofs.Tryd.prog Proofs.Tryd.f49=some (qCc qMf):=by kernel_rfl
theorem call_sgHeads:qCp 49 qMf 47:=fun hl k=>qBf (by kernel_rfl) (by kernel_rfl) c_sgHeads_is (by kernel_rfl) hl k
def qJl:AFn :=
⟨(O [V 3 0,Bn 4 .geq 3 0,V 5 4,Gd 5 true (V 6 0),Gd 5 true (L 7 1),Gd 5 true (Ln 8 7),Gd 5 true (B 9 .lss 6 8),Pk 10 5 9 false]
 (.cond (.tmp 10)
 (.ops [L 11 1,V 12 0,X 13 1 11 12,⟨none,none,.e (.store 1 (.tmp 13) (.const (.bool true))),[]⟩])
 .skip)),[],14⟩
theorem c_sgMark_is:qCk Proofs.Tryd.prog Proofs.Tryd.f76=some (qCc qJl):=by kernel_rfl
theorem call_sgMark:qCp 76 qJl 14:=fun hl k=>qBf (by kernel_rfl) (by kernel_rfl) c_sgMark_is (by kernel_rfl) hl k
def qHo:AFn :=
⟨(O [T 4 false]
 (O [V 5 1,Bn 6 .geq 5 0,V 7 6,Gd 7 true (V 8 1),Gd 7 true (V 9 0),Gd 7 true (Ln 10 9),Gd 7 true (B 11 .lss 8 10),Pk 12 7 11 false,V 4 12]
 .ret)),[.tmp 4],13⟩
theorem c_sgThere_is:qCk Proofs.Tryd.prog Proofs.Tryd.f48=some (qCc qHo):=by kernel_rfl
theorem call_sgThere:qCp 48 qHo 13:=fun hl k=>qBf (by kernel_rfl) (by kernel_rfl) c_sgThere_is (by kernel_rfl) hl k
def qRo:AFn :=
⟨(O [V 4 0,Ln 5 4,Bn 6 .sub 5 1,N 2 0,V 3 6]
 (.block 0 (.loop (.seq (O [V 7 2,V 8 3,B 9 .lss 7 8]
 (.cond (.tmp 9)
 .skip
 (.exit 0)))
 (.seq (.block 1 (.ops [V 14 0,V 15 2,V 16 0,V 17 3,V 18 0,V 19 3,X 20 1 18 19,L 21 20,V 22 0,V 23 2,X 24 1 22 23,L 25 24,X 26 1 14 15,S 26 21,X 27 1 16 17,S 27 25]))
 (.ops [V 10 2,Bn 11 .add 10 1,V 12 3,Bn 13 .sub 12 1,V 2 11,V 3 13])))))),[],28⟩
theorem c_RevB_is:qCk Proofs.Tryd.prog Proofs.Tryd.f50=some (qCc qRo):=by kernel_rfl
theorem call_RevB:qCp 50 qRo 28:=fun hl k=>qBf (by kernel_rfl) (by kernel_rfl) c_RevB_is (by kernel_rfl) hl k
def qRp:AFn :=
⟨(O [N 4 0]
 (.seq (O [V 6 0,Ln 7 6,N 8 0]
 (.block 0 (.loop (O [B 9 .lss 8 7]
 (.seq (.cond (.tmp 9)
 .skip
 (.exit 0))
 (.seq (.block 1 (O [V 10 8,V 5 10]
 (O [V 11 1,V 12 0,V 13 5,X 14 1 12 13,L 15 14,⟨some 16,none,.q (.eqB false (.tmp 11) (.tmp 15)),[]⟩]
 (.cond (.tmp 16)
 (O [V 17 5,V 4 17]
 .ret)
 .skip))))
 (.ops [Bn 18 .add 8 1,V 8 18])))))))
 (O [N 4 (-1)]
 .ret))),[.tmp 4],19⟩
theorem c_IdxB_is:qCk Proofs.Tryd.prog Proofs.Tryd.f51=some (qCc qRp):=by kernel_rfl
theorem call_IdxB:qCp 51 qRp 19:=fun hl k=>qBf (by kernel_rfl) (by kernel_rfl) c_IdxB_is (by kernel_rfl) hl k
def qNz:AFn :=
⟨(O [N 4 0]
 (.seq (O [V 6 0,V 7 1,⟨some 8,none,.call 48 [(.tmp 6),(.tmp 7)],[]⟩,Nt 9 8]
 (.cond (.tmp 9)
 (O [V 10 1,V 4 10]
 .ret)
 .skip))
 (O [V 11 0,⟨some 12,none,.call 49 [(.tmp 11)],[]⟩,V 13 1,Bn 14 .add 13 1,⟨some 15,none,.q (.cut 1 (.tmp 12) none (some (.tmp 14))),[]⟩,V 5 15]
 (O [V 16 5,⟨some 17,none,.call 50 [(.tmp 16)],[]⟩]
 (O [V 18 1,V 19 5,⟨some 20,none,.call 51 [(.tmp 19),(.const (.bool true))],[]⟩,B 21 .sub 18 20,V 4 21]
 .ret))))),[.tmp 4],22⟩
theorem c_sgHead_is:qCk Proofs.Tryd.prog Proofs.Tryd.f26=some (qCc qNz):=by kernel_rfl
theorem call_sgHead:qCp 26 qNz 22:=fun hl k=>qBf (by kernel_rfl) (by kernel_rfl) c_sgHead_is (by kernel_rfl) hl k
def qMg:AFn :=
⟨(O [⟨some 2,none,.e (.box 1 1 (.tmp 0)),[]⟩,⟨some 3,none,.e (.box 1 1 (.tmp 1)),[]⟩,E 4]
 (O [L 5 2,⟨some 6,none,.q (.ptrCk (.tmp 5)),[]⟩,FA 7 1 6,L 8 7,L 9 3,X 10 1 8 9,L 11 10,⟨some 13,none,.q (.fn (.func 43) [(.tmp 2),(.tmp 3)]),[]⟩,⟨some 12,none,.call 42 [(.tmp 11)],[]⟩,⟨some 14,none,.call 41 [(.tmp 12),(.tmp 13)],[]⟩,V 4 14]
 .ret)),[.tmp 4],15⟩
theorem c_lpBacks_is:qCk Proofs.Tryd.prog Proofs.Tryd.f20=some (qCc qMg):=by kernel_rfl
theorem call_lpBacks:qCp 20 qMg 15:=fun hl k=>qBf (by kernel_rfl) (by kernel_rfl) c_lpBacks_is (by kernel_rfl) hl k
def qOb:AFn :=
⟨(O [T 4 false]
 (O [L 5 1,⟨some 6,none,.q (.ptrCk (.tmp 5)),[]⟩,FA 7 3 6,L 8 7,V 9 0,X 10 1 8 9,L 11 10,Nt 12 11,V 13 12,Gd 13 false (L 14 1),⟨some 15,some (13,false),.q (.ptrCk (.tmp 14)),[]⟩,Gd 13 false (FA 16 2 15),Gd 13 false (L 17 16),Gd 13 false (V 18 0),Gd 13 false (X 19 1 17 18),Gd 13 false (L 20 19),Gd 13 false (L 21 2),⟨some 22,some (13,false),.call 31 [(.tmp 20),(.tmp 21)],[]⟩,Gd 13 false (Nt 23 22),⟨some 24,none,.q (.pick (.tmp 13) (.const (.bool true)) (.tmp 23)),[]⟩,V 4 24]
 .ret)),[.tmp 4],25⟩
theorem c_lpBk1_is:qCk Proofs.Tryd.prog Proofs.Tryd.f43=some (qCc qOb):=by kernel_rfl
theorem call_lpBk1:qCp 43 qOb 25:=fun hl k=>qBf (by kernel_rfl) (by kernel_rfl) c_lpBk1_is (by kernel_rfl) hl k
def qOa:AFn :=
⟨(O [⟨some 6,none,.q (.val (.const (.int .u64 0))),[]⟩]
 (O [V 9 1,⟨some 10,none,.e (.lit [(.int .i64 0)] 1 1 [(0,1,(.tmp 9))]),[]⟩,Z 1 10,⟨some 11,none,.call 12 [(.const (.int .u64 0)),(.tmp 10)],[]⟩,V 7 11]
 (.seq (.block 0 (.loop (.seq (O [V 12 2,Ln 13 12,Bn 14 .gtr 13 0]
 (.cond (.tmp 14)
 .skip
 (.exit 0)))
 (.block 1 (O [V 15 2,V 16 2,Ln 17 16,Bn 18 .sub 17 1,X 19 1 15 18,L 20 19,V 8 20]
 (O [V 21 2,V 22 2,Ln 23 22,Bn 24 .sub 23 1,⟨some 25,none,.q (.cut 1 (.tmp 21) none (some (.tmp 24))),[]⟩,V 2 25]
 (.seq (O [V 26 7,V 27 8,⟨some 28,none,.call 31 [(.tmp 26),(.tmp 27)],[]⟩,V 29 28,Gd 29 false (V 30 0),⟨some 31,some (29,false),.q (.ptrCk (.tmp 30)),[]⟩,Gd 29 false (FA 32 3 31),Gd 29 false (L 33 32),Gd 29 false (V 34 8),Gd 29 false (X 35 1 33 34),Gd 29 false (L 36 35),Gd 29 false (Nt 37 36),⟨some 38,none,.q (.pick (.tmp 29) (.const (.bool true)) (.tmp 37)),[]⟩]
 (.cond (.tmp 38)
 (.exit 1)
 .skip))
 (O [V 39 7,V 40 8,⟨some 41,none,.e (.lit [(.int .i64 0)] 1 1 [(0,1,(.tmp 40))]),[]⟩,Z 1 41,⟨some 42,none,.call 12 [(.tmp 39),(.tmp 41)],[]⟩,V 7 42]
 (.ops [V 43 2,V 44 0,⟨some 45,none,.q (.ptrCk (.tmp 44)),[]⟩,FA 46 1 45,L 47 46,V 48 8,X 49 1 47 48,L 50 49,Ap 51 1 43 50,V 2 51])))))))))
 (O [V 52 7,V 6 52]
 .ret)))),[.tmp 6],53⟩
theorem c_lpBody_is:qCk Proofs.Tryd.prog Proofs.Tryd.f22=some (qCc qOa):=by kernel_rfl
theorem call_lpBody:qCp 22 qOa 53:=fun hl k=>qBf (by kernel_rfl) (by kernel_rfl) c_lpBody_is (by kernel_rfl) hl k
def qRl:AFn :=
⟨(O [E 2]
 (.seq (O [V 7 0,Ln 8 7,Bn 9 .gtr 8 64]
 (.cond (.tmp 9)
 (O [E 2]
 .ret)
 .skip))
 (O [V 10 0,V 11 0,⟨some 12,none,.call 17 [(.tmp 11)],[]⟩,V 13 0,⟨some 14,none,.call 18 [(.tmp 13)],[]⟩,V 15 0,⟨some 16,none,.call 19 [(.tmp 15)],[]⟩,⟨some 17,none,.q (.build [(.slice none 0 0),(.slice none 0 0),(.slice none 0 0),(.slice none 0 0)] [(0,1,(.tmp 10)),(1,1,(.tmp 12)),(2,1,(.tmp 14)),(3,1,(.tmp 16))]),[]⟩,⟨some 18,none,.e (.box 4 4 (.tmp 17)),[]⟩,V 3 18]
 (O [E 4]
 (.seq (O [V 19 0,Ln 20 19,N 21 0]
 (.block 0 (.loop (O [B 22 .lss 21 20]
 (.seq (.cond (.tmp 22)
 .skip
 (.exit 0))
 (.seq (.block 1 (O [V 23 21,V 5 23]
 (O [V 24 3,V 25 5,⟨some 26,none,.call 20 [(.tmp 24),(.tmp 25)],[]⟩,V 6 26]
 (O [V 27 6,Ln 28 27,Bn 29 .gtr 28 0]
 (.cond (.tmp 29)
 (.ops [V 30 4,V 31 5,V 32 3,V 33 5,V 34 6,⟨some 35,none,.call 22 [(.tmp 32),(.tmp 33),(.tmp 34)],[]⟩,⟨some 36,none,.call 21 [(.tmp 35)],[]⟩,⟨some 37,none,.q (.build [(.int .i64 0),(.slice none 0 0)] [(0,1,(.tmp 31)),(1,1,(.tmp 36))]),[]⟩,⟨some 38,none,.e (.lit [(.int .i64 0),(.slice none 0 0)] 2 1 [(0,2,(.tmp 37))]),[]⟩,Ap 39 2 30 38,V 4 39])
 .skip)))))
 (.ops [Bn 40 .add 21 1,V 21 40])))))))
 (O [V 41 4,V 2 41]
 .ret)))))),[.tmp 2],42⟩
theorem c_lpOf_is:qCk Proofs.Tryd.prog Proofs.Tryd.f10=some (qCc qRl):=by kernel_rfl
theorem call_lpOf:qCp 10 qRl 42:=fun hl k=>qBf (by kernel_rfl) (by kernel_rfl) c_lpOf_is (by kernel_rfl) hl k
def qOp:AFn :=
⟨(O [T 4 false]
 (O [V 5 0,V 6 1,⟨some 7,none,.call 13 [(.tmp 5),(.tmp 6)],[]⟩,Bn 8 .geq 7 0,V 4 8]
 .ret)),[.tmp 4],9⟩
theorem c_ContF1_is:qCk Proofs.Tryd.prog Proofs.Tryd.f52=some (qCc qOp):=by kernel_rfl
theorem call_ContF1:qCp 52 qOp 9:=fun hl k=>qBf (by kernel_rfl) (by kernel_rfl) c_ContF1_is (by kernel_rfl) hl k
def qOo:AFn :=
⟨(O [T 4 false]
 (O [V 5 0,V 6 1,⟨some 7,none,.call 56 [(.tmp 5),(.tmp 6)],[]⟩,Bn 8 .geq 7 0,V 4 8]
 .ret)),[.tmp 4],9⟩
theorem c_ContF4_is:qCk Proofs.Tryd.prog Proofs.Tryd.f33=some (qCc qOo):=by kernel_rfl
theorem call_ContF4:qCp 33 qOo 9:=fun hl k=>qBf (by kernel_rfl) (by kernel_rfl) c_ContF4_is (by kernel_rfl) hl k
def qPu:AFn :=
⟨(O [N 4 0]
 (.seq (O [V 6 0,Ln 7 6,N 8 0]
 (.block 0 (.loop (O [B 9 .lss 8 7]
 (.seq (.cond (.tmp 9)
 .skip
 (.exit 0))
 (.seq (.block 1 (O [V 10 8,V 5 10]
 (O [V 11 1,V 12 0,V 13 5,X 14 4 12 13,LA 15 4 14,⟨some 16,none,.callv (.tmp 11) [(.tmp 15)],[]⟩]
 (.cond (.tmp 16)
 (O [V 17 5,V 4 17]
 .ret)
 .skip))))
 (.ops [Bn 18 .add 8 1,V 8 18])))))))
 (O [N 4 (-1)]
 .ret))),[.tmp 4],19⟩
theorem c_IdxF4_is:qCk Proofs.Tryd.prog Proofs.Tryd.f56=some (qCc qPu):=by kernel_rfl
theorem call_IdxF4:qCp 56 qPu 19:=fun hl k=>qBf (by kernel_rfl) (by kernel_rfl) c_IdxF4_is (by kernel_rfl) hl k
def qPt:AFn :=
⟨(O [⟨some 2,none,.e (.box 1 1 (.tmp 0)),[]⟩,⟨some 3,none,.e (.box 1 1 (.tmp 1)),[]⟩,T 4 false]
 (O [L 5 2,⟨some 6,none,.q (.ptrCk (.tmp 5)),[]⟩,FA 7 2 6,L 8 7,⟨some 9,none,.call 21 [(.tmp 8)],[]⟩,⟨some 10,none,.q (.fn (.func 53) [(.tmp 3),(.tmp 2)]),[]⟩,Z 1 9,⟨some 11,none,.call 52 [(.tmp 9),(.tmp 10)],[]⟩,V 4 11]
 .ret)),[.tmp 4],12⟩
theorem c_lfAny_is:qCk Proofs.Tryd.prog Proofs.Tryd.f28=some (qCc qPt):=by kernel_rfl
theorem call_lfAny:qCp 28 qPt 12:=fun hl k=>qBf (by kernel_rfl) (by kernel_rfl) c_lfAny_is (by kernel_rfl) hl k
def qOg:AFn :=
⟨(O [T 4 false]
 (O [L 5 1,V 6 0,L 7 2,⟨some 8,none,.q (.ptrCk (.tmp 7)),[]⟩,FA 9 0 8,L 10 9,V 11 0,X 12 4 10 11,LA 13 4 12,⟨some 14,none,.callv (.tmp 5) [(.tmp 6),(.tmp 13)],[]⟩,V 4 14]
 .ret)),[.tmp 4],15⟩
theorem c_lfAny1_is:qCk Proofs.Tryd.prog Proofs.Tryd.f53=some (qCc qOg):=by kernel_rfl
theorem call_lfAny1:qCp 53 qOg 15:=fun hl k=>qBf (by kernel_rfl) (by kernel_rfl) c_lfAny1_is (by kernel_rfl) hl k
def qMh:AFn :=
⟨(O [T 2 false]
 (O [V 3 0,⟨some 4,none,.call 54 [(.tmp 3)],[]⟩,V 5 4,Gd 5 false (V 6 0),Gd 5 false (Bk 7 .eql 6 .u8 10),⟨some 8,none,.q (.pick (.tmp 5) (.const (.bool true)) (.tmp 7)),[]⟩,V 9 8,Gd 9 false (V 10 0),Gd 9 false (Bk 11 .eql 10 .u8 11),⟨some 12,none,.q (.pick (.tmp 9) (.const (.bool true)) (.tmp 11)),[]⟩,V 13 12,Gd 13 false (V 14 0),Gd 13 false (Bk 15 .eql 14 .u8 9),⟨some 16,none,.q (.pick (.tmp 13) (.const (.bool true)) (.tmp 15)),[]⟩,V 2 16]
 .ret)),[.tmp 2],17⟩
theorem c_lfQuiet_is:qCk Proofs.Tryd.prog Proofs.Tryd.f30=some (qCc qMh):=by kernel_rfl
theorem call_lfQuiet:qCp 30 qMh 17:=fun hl k=>qBf (by kernel_rfl) (by kernel_rfl) c_lfQuiet_is (by kernel_rfl) hl k
def qKl:AFn :=
⟨(O [T 2 false]
 (O [V 3 0,⟨some 4,none,.q (.ptrCk (.tmp 3)),[]⟩,FA 5 2 4,L 6 5,V 7 0,⟨some 8,none,.q (.ptrCk (.tmp 7)),[]⟩,FA 9 1 8,L 10 9,Bn 11 .sub 10 1,⟨some 12,none,.call 31 [(.tmp 6),(.tmp 11)],[]⟩,V 13 12,Gd 13 true (V 14 0),⟨some 15,some (13,true),.q (.ptrCk (.tmp 14)),[]⟩,Gd 13 true (FA 16 0 15),Gd 13 true (L 17 16),Gd 13 true (V 18 0),⟨some 19,some (13,true),.q (.ptrCk (.tmp 18)),[]⟩,Gd 13 true (FA 20 1 19),Gd 13 true (L 21 20),Gd 13 true (Bn 22 .sub 21 1),Gd 13 true (X 23 4 17 22),Gd 13 true (FA 24 0 23),Gd 13 true (L 25 24),Gd 13 true (Bk 26 .neq 25 .u8 10),Pk 27 13 26 false,V 2 27]
 .ret)),[.tmp 2],28⟩
theorem c_lfClosed_is:qCk Proofs.Tryd.prog Proofs.Tryd.f27=some (qCc qKl):=by kernel_rfl
theorem call_lfClosed:qCp 27 qKl 28:=fun hl k=>qBf (by kernel_rfl) (by kernel_rfl) c_lfClosed_is (by kernel_rfl) hl k
def qMi:AFn :=
⟨(O [⟨some 3,none,.e (.box 1 1 (.tmp 1)),[]⟩,T 4 false]
 (O [V 6 0,⟨some 7,none,.q (.ptrCk (.tmp 6)),[]⟩,FA 8 0 7,L 9 8,L 10 3,X 11 4 9 10,LA 12 4 11,⟨some 5,none,.e (.new [(.int .u8 0),(.int .i64 0),(.int .i64 0),(.int .i64 0)] 4),[]⟩,⟨none,none,.e (.store 4 (.tmp 5) (.tmp 12)),[]⟩]
 (.seq (O [FA 13 0 5,L 14 13,Bk 15 .neq 14 .u8 7,V 16 15,Gd 16 false (V 17 0),⟨some 18,some (16,false),.q (.ptrCk (.tmp 17)),[]⟩,Gd 16 false (FA 19 1 18),Gd 16 false (L 20 19),Gd 16 false (L 21 3),Gd 16 false (B 22 .gtr 20 21),⟨some 23,none,.q (.pick (.tmp 16) (.const (.bool true)) (.tmp 22)),[]⟩,V 24 23,Gd 24 false (V 25 0),⟨some 26,some (24,false),.q (.ptrCk (.tmp 25)),[]⟩,Gd 24 false (FA 27 0 26),Gd 24 false (L 28 27),Gd 24 false (L 29 3),Gd 24 false (V 31 0),⟨some 32,some (24,false),.q (.ptrCk (.tmp 31)),[]⟩,Gd 24 false (FA 33 1 32),Gd 24 false (L 34 33),⟨some 30,some (24,false),.call 26 [(.tmp 28),(.tmp 29)],[.load (.tmp 33)]⟩,Gd 24 false (B 35 .neq 30 34),⟨some 36,none,.q (.pick (.tmp 24) (.const (.bool true)) (.tmp 35)),[]⟩,V 37 36,Gd 37 false (V 38 0),⟨some 39,some (37,false),.call 27 [(.tmp 38)],[]⟩,⟨some 40,none,.q (.pick (.tmp 37) (.const (.bool true)) (.tmp 39)),[]⟩]
 (.cond (.tmp 40)
 (O [T 4 false]
 .ret)
 .skip))
 (.seq (O [V 41 0,⟨some 42,none,.q (.fn (.func 29) [(.tmp 5),(.tmp 3)]),[]⟩,⟨some 43,none,.call 28 [(.tmp 41),(.tmp 42)],[]⟩]
 (.cond (.tmp 43)
 (O [T 4 false]
 .ret)
 .skip))
 (O [V 44 0,⟨some 45,none,.q (.ptrCk (.tmp 44)),[]⟩,FA 46 0 45,L 47 46,V 48 0,⟨some 49,none,.q (.ptrCk (.tmp 48)),[]⟩,FA 50 1 49,L 51 50,L 52 3,⟨some 53,none,.q (.cut 4 (.tmp 47) (some (.tmp 51)) (some (.tmp 52))),[]⟩,⟨some 54,none,.q (.fn (.func 34) [(.tmp 5)]),[]⟩,Z 4 53,⟨some 55,none,.call 33 [(.tmp 53),(.tmp 54)],[]⟩,Nt 56 55,V 4 56]
 .ret))))),[.tmp 4],57⟩
theorem c_lfMay_is:qCk Proofs.Tryd.prog Proofs.Tryd.f14=some (qCc qMi):=by kernel_rfl
theorem call_lfMay:qCp 14 qMi 57:=fun hl k=>qBf (by kernel_rfl) (by kernel_rfl) c_lfMay_is (by kernel_rfl) hl k
def qOe:AFn :=
⟨(O [⟨some 5,none,.e (.box 4 4 (.tmp 1)),[]⟩,T 6 false]
 (O [FA 7 0 5,L 8 7,⟨some 9,none,.call 30 [(.tmp 8)],[]⟩,Nt 10 9,V 11 10,Gd 11 false (FA 12 0 5),Gd 11 false (L 13 12),Gd 11 false (Bk 14 .eql 13 .u8 8),Gd 11 false (V 15 14),Gd 15 true (FA 16 1 5),Gd 15 true (L 17 16),Gd 15 true (FA 18 2 2),Gd 15 true (L 19 18),Gd 15 true (B 20 .eql 17 19),Gd 11 false (Pk 21 15 20 false),⟨some 22,none,.q (.pick (.tmp 11) (.const (.bool true)) (.tmp 21)),[]⟩,V 23 22,Gd 23 false (V 24 0),Gd 23 false (L 25 3),Gd 23 false (B 26 .neq 24 25),Gd 23 false (V 27 26),Gd 27 true (LA 28 4 5),Gd 27 true (FA 30 1 2),Gd 27 true (L 31 30),⟨some 29,some (27,true),.call 32 [(.tmp 28)],[.load (.tmp 30)]⟩,⟨some 32,some (27,true),.call 31 [(.tmp 29),(.tmp 31)],[]⟩,Gd 23 false (Pk 33 27 32 false),⟨some 34,none,.q (.pick (.tmp 23) (.const (.bool true)) (.tmp 33)),[]⟩,V 6 34]
 .ret)),[.tmp 6],35⟩
theorem c_lfMay1_is:qCk Proofs.Tryd.prog Proofs.Tryd.f29=some (qCc qOe):=by kernel_rfl
theorem call_lfMay1:qCp 29 qOe 35:=fun hl k=>qBf (by kernel_rfl) (by kernel_rfl) c_lfMay1_is (by kernel_rfl) hl k
def qOd:AFn :=
⟨(O [⟨some 2,none,.e (.box 4 4 (.tmp 0)),[]⟩,T 3 false]
 (O [LA 4 4 2,FA 6 1 1,L 7 6,⟨some 5,none,.call 35 [(.tmp 4)],[.load (.tmp 6)]⟩,⟨some 8,none,.call 31 [(.tmp 5),(.tmp 7)],[]⟩,V 3 8]
 .ret)),[.tmp 3],9⟩
theorem c_lfMay2_is:qCk Proofs.Tryd.prog Proofs.Tryd.f34=some (qCc qOd):=by kernel_rfl
theorem call_lfMay2:qCp 34 qOd 9:=fun hl k=>qBf (by kernel_rfl) (by kernel_rfl) c_lfMay2_is (by kernel_rfl) hl k
def qHp:AFn :=
⟨(O [⟨some 3,none,.e (.box 1 1 (.tmp 0)),[]⟩,⟨some 4,none,.e (.box 1 1 (.tmp 1)),[]⟩,⟨some 5,none,.e (.box 4 4 (.tmp 2)),[]⟩,⟨some 6,none,.e (.new [(.int .u8 0),(.int .i64 0),(.int .i64 0),(.int .i64 0)] 4),[]⟩]
 (O [⟨some 8,none,.q (.fn (.func 57) [(.tmp 3),(.tmp 4)]),[]⟩,V 7 8]
 (.seq (O [FA 9 0 5,L 10 9]
 (.block 0 (O [Bk 12 .eql 10 .u8 10,V 11 12]
 (.cond (.tmp 11)
 (.ops [V 13 7,FA 14 1 5,L 15 14,⟨some 16,none,.callv (.tmp 13) [(.tmp 15)],[]⟩,FA 17 1 5,S 17 16])
 (O [Bk 19 .eql 10 .u8 11,V 18 19]
 (.cond (.tmp 18)
 (.ops [V 20 7,FA 21 2 5,L 22 21,⟨some 23,none,.callv (.tmp 20) [(.tmp 22)],[]⟩,FA 24 2 5,S 24 23])
 .skip))))))
 (O [LA 25 4 5,⟨none,none,.e (.store 4 (.tmp 6) (.tmp 25)),[]⟩]
 .ret)))),[.cells 6 4],26⟩
theorem c_lfMoved_is:qCk Proofs.Tryd.prog Proofs.Tryd.f36=some (qCc qHp):=by kernel_rfl
theorem call_lfMoved:qCp 36 qHp 26:=fun hl k=>qBf (by kernel_rfl) (by kernel_rfl) c_lfMoved_is (by kernel_rfl) hl k
def qFe:AFn :=
⟨(O [N 4 0]
 (.seq (O [V 5 0,L 6 1,⟨some 7,none,.q (.ptrCk (.tmp 6)),[]⟩,FA 8 1 7,L 9 8,B 10 .gtr 5 9,V 11 10,Gd 11 false (V 12 0),Gd 11 false (L 13 1),⟨some 14,some (11,false),.q (.ptrCk (.tmp 13)),[]⟩,Gd 11 false (FA 15 1 14),Gd 11 false (L 16 15),Gd 11 false (B 17 .eql 12 16),Gd 11 false (V 18 17),Gd 18 true (L 19 1),⟨some 20,some (18,true),.q (.ptrCk (.tmp 19)),[]⟩,Gd 18 true (FA 21 2 20),Gd 18 true (L 22 21),Gd 18 true (L 23 2),⟨some 24,some (18,true),.call 31 [(.tmp 22),(.tmp 23)],[]⟩,Gd 11 false (Pk 25 18 24 false),⟨some 26,none,.q (.pick (.tmp 11) (.const (.bool true)) (.tmp 25)),[]⟩]
 (.cond (.tmp 26)
 (O [V 27 0,Bn 28 .add 27 1,V 4 28]
 .ret)
 .skip))
 (O [V 29 0,V 4 29]
 .ret))),[.tmp 4],30⟩
theorem c_lfMoved1_is:qCk Proofs.Tryd.prog Proofs.Tryd.f57=some (qCc qFe):=by kernel_rfl
theorem call_lfMoved1:qCp 57 qFe 30:=fun hl k=>qBf (by kernel_rfl) (by kernel_rfl) c_lfMoved1_is (by kernel_rfl) hl k
def qOf:AFn :=
⟨(O [⟨some 4,none,.e (.new [(.slice none 0 0),(.slice none 0 0)] 2),[]⟩]
 (O [V 8 0,⟨some 9,none,.q (.ptrCk (.tmp 8)),[]⟩,FA 10 0 9,L 11 10,⟨some 12,none,.call 16 [(.tmp 11)],[]⟩,⟨some 5,none,.e (.new [(.slice none 0 0),(.slice none 0 0)] 2),[]⟩,⟨none,none,.e (.store 2 (.tmp 5) (.tmp 12)),[]⟩]
 (.seq (O [FA 13 0 5,L 14 13,Ln 15 14,N 16 0]
 (.block 0 (.loop (O [B 17 .lss 16 15]
 (.seq (.cond (.tmp 17)
 .skip
 (.exit 0))
 (.seq (.block 1 (O [V 18 16,X 19 4 14 16,LA 20 4 19,⟨some 7,none,.e (.new [(.int .u8 0),(.int .i64 0),(.int .i64 0),(.int .i64 0)] 4),[]⟩,V 6 18,⟨none,none,.e (.store 4 (.tmp 7) (.tmp 20)),[]⟩]
 (.ops [FA 21 0 5,L 22 21,V 23 6,V 24 0,V 25 6,LA 26 4 7,⟨some 27,none,.call 36 [(.tmp 24),(.tmp 25),(.tmp 26)],[.load (.tmp 21)]⟩,X 28 4 22 23,⟨none,none,.e (.store 4 (.tmp 28) (.tmp 27)),[]⟩])))
 (.ops [Bn 29 .add 16 1,V 16 29])))))))
 (O [FA 30 0 5,L 31 30,V 32 1,⟨some 33,none,.q (.build [(.int .u8 0),(.int .i64 0),(.int .i64 0),(.int .i64 0)] []),[]⟩,X 34 4 31 32,⟨none,none,.e (.store 4 (.tmp 34) (.tmp 33)),[]⟩]
 (O [FA 35 0 5,L 36 35,V 37 0,⟨some 38,none,.q (.ptrCk (.tmp 37)),[]⟩,FA 39 1 38,L 40 39,V 41 0,⟨some 42,none,.q (.ptrCk (.tmp 41)),[]⟩,FA 43 0 42,L 44 43,V 45 1,X 46 4 44 45,LA 47 4 46,⟨some 48,none,.e (.lit [(.int .u8 0),(.int .i64 0),(.int .i64 0),(.int .i64 0)] 4 1 [(0,4,(.tmp 47))]),[]⟩,⟨some 49,none,.call 37 [(.tmp 36),(.tmp 40),(.tmp 48)],[]⟩,FA 50 0 5,S 50 49]
 (O [FA 51 1 5,L 52 51,V 53 0,⟨some 54,none,.q (.ptrCk (.tmp 53)),[]⟩,FA 55 1 54,L 56 55,V 57 1,⟨some 58,none,.e (.lit [(.int .i64 0)] 1 1 [(0,1,(.tmp 57))]),[]⟩,⟨some 59,none,.call 38 [(.tmp 52),(.tmp 56),(.tmp 58)],[]⟩,FA 60 1 5,S 60 59]
 (O [LA 61 2 5,⟨none,none,.e (.store 2 (.tmp 4) (.tmp 61)),[]⟩]
 .ret))))))),[.cells 4 2],62⟩
theorem c_lfLift_is:qCk Proofs.Tryd.prog Proofs.Tryd.f15=some (qCc qOf):=by kernel_rfl
theorem call_lfLift:qCp 15 qOf 62:=fun hl k=>qBf (by kernel_rfl) (by kernel_rfl) c_lfLift_is (by kernel_rfl) hl k
def qOc:AFn :=
⟨(O [⟨some 2,none,.e (.new [(.slice none 0 0),(.slice none 0 0)] 2),[]⟩]
 (O [V 5 0,⟨some 6,none,.call 39 [(.tmp 5)],[]⟩,⟨some 7,none,.q (.build [(.slice none 0 0),(.slice none 0 0)] [(0,1,(.tmp 6))]),[]⟩,⟨some 3,none,.e (.new [(.slice none 0 0),(.slice none 0 0)] 2),[]⟩,⟨none,none,.e (.store 2 (.tmp 3) (.tmp 7)),[]⟩]
 (.seq (O [V 8 0,Ln 9 8,N 10 0]
 (.block 0 (.loop (O [B 11 .lss 10 9]
 (.seq (.cond (.tmp 11)
 .skip
 (.exit 0))
 (.seq (.block 1 (O [V 12 10,V 4 12]
 (.ops [FA 13 1 3,L 14 13,V 15 4,⟨some 16,none,.e (.lit [(.int .i64 0)] 1 1 [(0,1,(.tmp 15))]),[]⟩,Ap 17 1 14 16,FA 18 1 3,S 18 17])))
 (.ops [Bn 19 .add 10 1,V 10 19])))))))
 (O [LA 20 2 3,⟨none,none,.e (.store 2 (.tmp 2) (.tmp 20)),[]⟩]
 .ret)))),[.cells 2 2],21⟩
theorem c_lfOwn_is:qCk Proofs.Tryd.prog Proofs.Tryd.f16=some (qCc qOc):=by kernel_rfl
theorem call_lfOwn:qCp 16 qOc 21:=fun hl k=>qBf (by kernel_rfl) (by kernel_rfl) c_lfOwn_is (by kernel_rfl) hl k
def qMk:AFn :=
⟨(O [T 2 false]
 (O [V 6 0,⟨some 7,none,.call 77 [(.tmp 6)],[]⟩,V 5 7,⟨some 8,none,.q (.ext (.tmp 5) 0),[]⟩,⟨some 9,none,.q (.ext (.tmp 5) 1),[]⟩,⟨some 3,none,.e (.new [(.string ⟨#[]⟩),(.int .u8 0),(.int .u8 0),(.int .u8 0),(.bool false),(.bool false),(.bool false)] 7),[]⟩,⟨none,none,.e (.store 7 (.tmp 3) (.tmp 8)),[]⟩,V 4 9]
 (O [FA 10 4 3,L 11 10,V 2 11]
 .ret))),[.tmp 2],12⟩
theorem c_irPlain_is:qCk Proofs.Tryd.prog Proofs.Tryd.f54=some (qCc qMk):=by kernel_rfl
theorem call_irPlain:qCp 54 qMk 12:=fun hl k=>qBf (by kernel_rfl) (by kernel_rfl) c_irPlain_is (by kernel_rfl) hl k
def qLj:AFn :=
⟨(O [⟨some 2,none,.e (.new [(.slice none 0 0),(.slice none 0 0)] 2),[]⟩]
 (.seq (O [V 7 0,Ln 8 7,Bn 9 .gtr 8 60]
 (.cond (.tmp 9)
 (O [⟨some 10,none,.q (.build [(.slice none 0 0),(.slice none 0 0)] []),[]⟩,⟨none,none,.e (.store 2 (.tmp 2) (.tmp 10)),[]⟩]
 .ret)
 .skip))
 (.seq (O [V 11 0,Ln 12 11,Bn 13 .lss 12 60]
 (.cond (.tmp 13)
 (O [V 14 0,⟨some 15,none,.call 11 [(.tmp 14)],[]⟩,Z 1 15,⟨some 16,none,.call 10 [(.tmp 15)],[]⟩,Ln 17 16,N 18 0]
 (.block 0 (.loop (O [B 19 .lss 18 17]
 (.seq (.cond (.tmp 19)
 .skip
 (.exit 0))
 (.seq (.block 1 (O [X 20 2 16 18,LA 21 2 20,⟨some 4,none,.e (.new [(.int .i64 0),(.slice none 0 0)] 2),[]⟩,⟨none,none,.e (.store 2 (.tmp 4) (.tmp 21)),[]⟩]
 (O [V 22 0,FA 23 0 4,L 24 23,FA 25 1 4,L 26 25,Z 1 26,⟨some 27,none,.call 12 [(.const (.int .u64 0)),(.tmp 26)],[.load (.tmp 23)]⟩,⟨some 28,none,.q (.build [(.slice none 0 0),(.int .i64 0),(.int .u64 0)] [(0,1,(.tmp 22)),(1,1,(.tmp 24)),(2,1,(.tmp 27))]),[]⟩,⟨some 29,none,.e (.box 3 3 (.tmp 28)),[]⟩,V 5 29]
 (O [FA 30 1 4,L 31 30,V 32 5,⟨some 33,none,.q (.mfn (.func 14) [(.tmp 32)]),[]⟩,Z 1 31,⟨some 34,none,.call 13 [(.tmp 31),(.tmp 33)],[]⟩,V 6 34]
 (O [V 35 6,Bn 36 .geq 35 0]
 (.cond (.tmp 36)
 (O [V 37 5,FA 38 1 4,L 39 38,V 40 6,X 41 1 39 40,L 42 41,⟨some 43,none,.call 15 [(.tmp 37),(.tmp 42)],[]⟩,⟨none,none,.e (.store 2 (.tmp 2) (.tmp 43)),[]⟩]
 .ret)
 .skip))))))
 (.ops [Bn 44 .add 18 1,V 18 44])))))))
 .skip))
 (O [V 45 0,⟨some 46,none,.call 16 [(.tmp 45)],[]⟩,⟨none,none,.e (.store 2 (.tmp 2) (.tmp 46)),[]⟩]
 .ret)))),[.cells 2 2],47⟩
theorem c_lfCode_is:qCk Proofs.Tryd.prog Proofs.Tryd.f8=some (qCc qLj):=by kernel_rfl
theorem call_lfCode:qCp 8 qLj 47:=fun hl k=>qBf (by kernel_rfl) (by kernel_rfl) c_lfCode_is (by kernel_rfl) hl k
end Pm

/- Codes of the program's functions, as a program printed them, and that they are what the program's functions are compiled to.
   No condition: plain facts. -/
namespace Pm
set_option linter.unusedSimpArgs false
set_option linter.unusedVariables false
open Go Am
set_option maxRecDepth 100000
def qOh:AFn :=
⟨(O [⟨some 1,none,.e (.box 4 4 (.tmp 0)),[]⟩,⟨some 2,none,.q (.val (.const (.int .u64 0))),[]⟩]
 (O [LA 3 4 1,⟨some 4,none,.call 55 [(.tmp 3),(.const (.int .u8 3))],[]⟩,V 2 4]
 .ret)),[.tmp 2],5⟩
theorem c_irUses_is:qCk Proofs.Tryd.prog Proofs.Tryd.f35=some (qCc qOh):=by kernel_rfl
theorem call_irUses:qCp 35 qOh 5:=fun hl k=>qBf (by kernel_rfl) (by kernel_rfl) c_irUses_is (by kernel_rfl) hl k
end Pm

/- Codes of the program's functions, as a program printed them, and that they are what the program's functions are compiled to.
   No condition: plain facts. -/
namespace Pm
set_option linter.unusedSimpArgs false
set_option linter.unusedVariables false
open Go Am
set_option maxRecDepth 100000
def qHq:AFn :=
⟨(O [T 4 false]
 (.seq (O [V 6 0,Ln 7 6,V 8 1,Ln 9 8,B 10 .neq 7 9]
 (.cond (.tmp 10)
 (O [T 4 false]
 .ret)
 .skip))
 (.seq (O [N 5 0]
 (.block 0 (.loop (.seq (O [V 11 5,V 12 0,Ln 13 12,B 14 .lss 11 13]
 (.cond (.tmp 14)
 .skip
 (.exit 0)))
 (.seq (.block 1 (O [V 17 0,V 18 5,X 19 4 17 18,LA 20 4 19,V 21 1,V 22 5,X 23 4 21 22,LA 24 4 23,⟨some 25,none,.q (.eqA [0,0,0,0] true (.tmp 20) (.tmp 24)),[]⟩]
 (.cond (.tmp 25)
 (O [T 4 false]
 .ret)
 .skip)))
 (.ops [V 15 5,Bn 16 .add 15 1,V 5 16]))))))
 (O [T 4 true]
 .ret)))),[.tmp 4],26⟩
theorem c_R2SameCode_is:qCk Proofs.Tryd.prog Proofs.Tryd.f9=some (qCc qHq):=by kernel_rfl
theorem call_R2SameCode:qCp 9 qHq 26:=fun hl k=>qBf (by kernel_rfl) (by kernel_rfl) c_R2SameCode_is (by kernel_rfl) hl k
end Pm

/- Codes of the program's functions, as a program printed them, and that they are what the program's functions are compiled to.
   No condition: plain facts. -/
namespace Pm
set_option linter.unusedSimpArgs false
set_option linter.unusedVariables false
open Go Am
set_option maxRecDepth 100000
def qSi:AFn :=
⟨(O [E 4]
 (O [⟨some 12,none,.e (.lit [(.int .u8 0),(.int .u8 0),(.int .u8 0),(.int .u8 0),(.int .u8 0),(.int .u8 0),(.int .u8 0),(.int .u8 0)] 1 8 [(0,1,(.const (.int .u8 7))),(1,1,(.const (.int .u8 7))),(2,1,(.const (.int .u8 1))),(3,1,(.const (.int .u8 3))),(4,1,(.const (.int .u8 8))),(5,1,(.const (.int .u8 9))),(6,1,(.const (.int .u8 0))),(7,1,(.const (.int .u8 2)))]),[]⟩,V 5 12]
 (O [E 6]
 (.seq (O [N 7 0]
 (.block 0 (.loop (.seq (O [V 13 7,Bn 14 .add 13 1,V 15 0,Ln 16 15,B 17 .lss 14 16,V 18 17,Gd 18 true (V 19 7),Gd 18 true (Bn 20 .lss 19 16),Pk 21 18 20 false]
 (.cond (.tmp 21)
 .skip
 (.exit 0)))
 (.seq (.block 1 (O [V 24 0,V 25 7,Bn 26 .add 25 1,X 27 1 24 26,L 28 27,V 8 28]
 (O [V 29 5,V 30 0,V 31 7,X 32 1 30 31,L 33 32,Bk 34 .rem 33 .u8 8,X 35 1 29 34,L 36 35,V 37 8,Bk 38 .rem 37 .u8 4,Cv' 39 .i64 38,V 40 8,Bk 41 .quo 40 .u8 4,Bk 42 .rem 41 .u8 2,Cv' 43 .i64 42,V 44 8,Bk 45 .quo 44 .u8 16,Bk 46 .rem 45 .u8 4,Cv' 47 .i64 46,⟨some 48,none,.q (.build [(.int .u8 0),(.int .i64 0),(.int .i64 0),(.int .i64 0)] [(0,1,(.tmp 36)),(1,1,(.tmp 39)),(2,1,(.tmp 43)),(3,1,(.tmp 47))]),[]⟩,⟨some 9,none,.e (.new [(.int .u8 0),(.int .i64 0),(.int .i64 0),(.int .i64 0)] 4),[]⟩,⟨none,none,.e (.store 4 (.tmp 9) (.tmp 48)),[]⟩]
 (.seq (O [FA 49 0 9,L 50 49,Bk 51 .eql 50 .u8 8]
 (.cond (.tmp 51)
 (O [V 52 8,Bk 53 .quo 52 .u8 4,Bk 54 .rem 53 .u8 2,Cv' 55 .i64 54,FA 56 1 9,S 56 55]
 (.ops [V 57 8,Bk 58 .rem 57 .u8 4,Cv' 59 .i64 58,FA 60 2 9,S 60 59]))
 .skip))
 (.seq (O [FA 61 0 9,L 62 61,Bk 63 .eql 62 .u8 9,V 64 63,Gd 64 false (FA 65 0 9),Gd 64 false (L 66 65),Gd 64 false (Bk 67 .eql 66 .u8 0),⟨some 68,none,.q (.pick (.tmp 64) (.const (.bool true)) (.tmp 67)),[]⟩]
 (.cond (.tmp 68)
 (.ops [FA 69 2 9,⟨none,none,.e (.store 1 (.tmp 69) (.const (.int .i64 0))),[]⟩])
 .skip))
 (.seq (O [FA 70 0 9,L 71 70,Bk 72 .eql 71 .u8 0]
 (.cond (.tmp 72)
 (.ops [FA 73 1 9,⟨none,none,.e (.store 1 (.tmp 73) (.const (.int .i64 0))),[]⟩])
 .skip))
 (.seq (O [FA 74 0 9,L 75 74,Bk 76 .neq 75 .u8 3]
 (.cond (.tmp 76)
 (.ops [FA 77 3 9,⟨none,none,.e (.store 1 (.tmp 77) (.const (.int .i64 0))),[]⟩])
 .skip))
 (.ops [V 78 6,LA 79 4 9,⟨some 80,none,.e (.lit [(.int .u8 0),(.int .i64 0),(.int .i64 0),(.int .i64 0)] 4 1 [(0,4,(.tmp 79))]),[]⟩,Ap 81 4 78 80,V 6 81]))))))))
 (.ops [V 22 7,Bn 23 .add 22 2,V 7 23]))))))
 (O [V 82 6,Ln 83 82,V 10 83]
 (.seq (O [V 84 10,Bn 85 .eql 84 0]
 (.cond (.tmp 85)
 (O [V 86 6,V 4 86]
 .ret)
 .skip))
 (O [V 87 1,Cv' 88 .i64 87,V 89 10,B 90 .rem 88 89,V 11 90]
 (O [V 91 6,⟨some 92,none,.q (.build [(.int .u8 0),(.int .i64 0),(.int .i64 0),(.int .i64 0)] [(0,1,(.const (.int .u8 1))),(1,1,(.const (.int .i64 3))),(2,1,(.const (.int .i64 1)))]),[]⟩,V 93 1,Bk 94 .quo 93 .u8 64,Cv' 95 .i64 94,V 96 11,⟨some 97,none,.q (.build [(.int .u8 0),(.int .i64 0),(.int .i64 0),(.int .i64 0)] [(0,1,(.const (.int .u8 11))),(1,1,(.tmp 95)),(2,1,(.tmp 96))]),[]⟩,⟨some 98,none,.e (.lit [(.int .u8 0),(.int .i64 0),(.int .i64 0),(.int .i64 0),(.int .u8 0),(.int .i64 0),(.int .i64 0),(.int .i64 0)] 4 2 [(0,4,(.tmp 92)),(4,4,(.tmp 97))]),[]⟩,Ap 99 4 91 98,V 6 99]
 (O [V 100 6,V 4 100]
 .ret))))))))),[.tmp 4],101⟩
theorem c_L20_is:qCk Proofs.Tryd.prog Proofs.Tryd.f6=some (qCc qSi):=by kernel_rfl
theorem call_L20:qCp 6 qSi 101:=fun hl k=>qBf (by kernel_rfl) (by kernel_rfl) c_L20_is (by kernel_rfl) hl k
def qMj:AFn :=
⟨(O [T 0 false]
 (O [⟨some 2,none,.q (.build [(.int .u8 0),(.int .i64 0),(.int .i64 0),(.int .i64 0)] [(0,1,(.const (.int .u8 7))),(2,1,(.const (.int .i64 1)))]),[]⟩,⟨some 3,none,.q (.build [(.int .u8 0),(.int .i64 0),(.int .i64 0),(.int .i64 0)] [(0,1,(.const (.int .u8 11)))]),[]⟩,⟨some 4,none,.e (.lit [(.int .u8 0),(.int .i64 0),(.int .i64 0),(.int .i64 0),(.int .u8 0),(.int .i64 0),(.int .i64 0),(.int .i64 0)] 4 2 [(0,4,(.tmp 2)),(4,4,(.tmp 3))]),[]⟩,Z 4 4,⟨some 5,none,.call 8 [(.tmp 4)],[]⟩,⟨some 1,none,.e (.new [(.slice none 0 0),(.slice none 0 0)] 2),[]⟩,⟨none,none,.e (.store 2 (.tmp 1) (.tmp 5)),[]⟩]
 (O [FA 6 0 1,L 7 6,Ln 8 7,Bn 9 .eql 8 3,V 10 9,Gd 10 true (FA 11 1 1),Gd 10 true (L 12 11),Gd 10 true (Ln 13 12),Gd 10 true (Bn 14 .eql 13 3),Pk 15 10 14 false,V 16 15,Gd 16 true (FA 17 0 1),Gd 16 true (L 18 17),⟨some 19,some (16,true),.q (.idxA 4 (.tmp 18) (.const (.int .i64 0))),[]⟩,Gd 16 true (LA 20 4 19),⟨some 21,some (16,true),.q (.build [(.int .u8 0),(.int .i64 0),(.int .i64 0),(.int .i64 0)] [(0,1,(.const (.int .u8 7))),(2,1,(.const (.int .i64 1)))]),[]⟩,⟨some 22,some (16,true),.q (.eqA [0,0,0,0] false (.tmp 20) (.tmp 21)),[]⟩,Pk 23 16 22 false,V 24 23,Gd 24 true (FA 25 0 1),Gd 24 true (L 26 25),⟨some 27,some (24,true),.q (.idxA 4 (.tmp 26) (.const (.int .i64 1))),[]⟩,Gd 24 true (LA 28 4 27),⟨some 29,some (24,true),.q (.build [(.int .u8 0),(.int .i64 0),(.int .i64 0),(.int .i64 0)] []),[]⟩,⟨some 30,some (24,true),.q (.eqA [0,0,0,0] false (.tmp 28) (.tmp 29)),[]⟩,Pk 31 24 30 false,V 32 31,Gd 32 true (FA 33 0 1),Gd 32 true (L 34 33),⟨some 35,some (32,true),.q (.idxA 4 (.tmp 34) (.const (.int .i64 2))),[]⟩,Gd 32 true (LA 36 4 35),⟨some 37,some (32,true),.q (.build [(.int .u8 0),(.int .i64 0),(.int .i64 0),(.int .i64 0)] [(0,1,(.const (.int .u8 11))),(2,1,(.const (.int .i64 1)))]),[]⟩,⟨some 38,some (32,true),.q (.eqA [0,0,0,0] false (.tmp 36) (.tmp 37)),[]⟩,Pk 39 32 38 false,V 40 39,Gd 40 true (FA 41 1 1),Gd 40 true (L 42 41),⟨some 43,some (40,true),.q (.idxA 1 (.tmp 42) (.const (.int .i64 0))),[]⟩,Gd 40 true (L 44 43),Gd 40 true (Bn 45 .eql 44 0),Pk 46 40 45 false,V 47 46,Gd 47 true (FA 48 1 1),Gd 47 true (L 49 48),⟨some 50,some (47,true),.q (.idxA 1 (.tmp 49) (.const (.int .i64 1))),[]⟩,Gd 47 true (L 51 50),Gd 47 true (Bn 52 .eql 51 0),Pk 53 47 52 false,V 54 53,Gd 54 true (FA 55 1 1),Gd 54 true (L 56 55),⟨some 57,some (54,true),.q (.idxA 1 (.tmp 56) (.const (.int .i64 2))),[]⟩,Gd 54 true (L 58 57),Gd 54 true (Bn 59 .eql 58 1),Pk 60 54 59 false,V 0 60]
 .ret))),[.tmp 0],61⟩
theorem c_known20_is:qCk Proofs.Tryd.prog Proofs.Tryd.f7=some (qCc qMj):=by kernel_rfl
theorem call_known20:qCp 7 qMj 61:=fun hl k=>qBf (by kernel_rfl) (by kernel_rfl) c_known20_is (by kernel_rfl) hl k
def qKm:AFn :=
⟨(O [T 6 false]
 (O [⟨some 11,none,.q (.build [(.int .u8 0),(.int .i64 0),(.int .i64 0),(.int .i64 0)] [(0,1,(.const (.int .u8 13)))]),[]⟩,⟨some 12,none,.q (.build [(.int .u8 0),(.int .i64 0),(.int .i64 0),(.int .i64 0)] [(0,1,(.const (.int .u8 14)))]),[]⟩,⟨some 13,none,.q (.build [(.int .u8 0),(.int .i64 0),(.int .i64 0),(.int .i64 0)] [(0,1,(.const (.int .u8 17))),(1,1,(.const (.int .i64 3)))]),[]⟩,⟨some 14,none,.q (.build [(.int .u8 0),(.int .i64 0),(.int .i64 0),(.int .i64 0)] [(0,1,(.const (.int .u8 18)))]),[]⟩,⟨some 15,none,.q (.build [(.int .u8 0),(.int .i64 0),(.int .i64 0),(.int .i64 0)] [(0,1,(.const (.int .u8 20)))]),[]⟩,⟨some 16,none,.q (.build [(.int .u8 0),(.int .i64 0),(.int .i64 0),(.int .i64 0)] [(0,1,(.const (.int .u8 21))),(1,1,(.const (.int .i64 3)))]),[]⟩,⟨some 17,none,.q (.build [(.int .u8 0),(.int .i64 0),(.int .i64 0),(.int .i64 0)] [(0,1,(.const (.int .u8 25)))]),[]⟩,⟨some 18,none,.e (.lit [(.int .u8 0),(.int .i64 0),(.int .i64 0),(.int .i64 0),(.int .u8 0),(.int .i64 0),(.int .i64 0),(.int .i64 0),(.int .u8 0),(.int .i64 0),(.int .i64 0),(.int .i64 0),(.int .u8 0),(.int .i64 0),(.int .i64 0),(.int .i64 0),(.int .u8 0),(.int .i64 0),(.int .i64 0),(.int .i64 0),(.int .u8 0),(.int .i64 0),(.int .i64 0),(.int .i64 0),(.int .u8 0),(.int .i64 0),(.int .i64 0),(.int .i64 0)] 4 7 [(0,4,(.tmp 11)),(4,4,(.tmp 12)),(8,4,(.tmp 13)),(12,4,(.tmp 14)),(16,4,(.tmp 15)),(20,4,(.tmp 16)),(24,4,(.tmp 17))]),[]⟩,V 19 2,Bk 20 .rem 19 .u8 7,X 21 4 18 20,LA 22 4 21,⟨some 7,none,.e (.new [(.int .u8 0),(.int .i64 0),(.int .i64 0),(.int .i64 0)] 4),[]⟩,⟨none,none,.e (.store 4 (.tmp 7) (.tmp 22)),[]⟩]
 (O [V 23 0,⟨some 24,none,.call 6 [(.tmp 23),(.const (.int .u8 0))],[]⟩,V 8 24]
 (.seq (O [V 25 8,Ln 26 25,Bn 27 .eql 26 0]
 (.cond (.tmp 27)
 (O [⟨some 28,none,.call 7 [],[]⟩,V 6 28]
 .ret)
 .skip))
 (O [V 29 8,Ln 30 29,V 9 30]
 (O [V 31 8,V 32 9,Bn 33 .sub 32 1,⟨some 34,none,.q (.cut 4 (.tmp 31) none (some (.tmp 33))),[]⟩,LA 35 4 7,V 36 1,Bk 37 .rem 36 .u8 4,Cv' 38 .i64 37,⟨some 39,none,.q (.build [(.int .u8 0),(.int .i64 0),(.int .i64 0),(.int .i64 0)] [(0,1,(.const (.int .u8 11))),(1,1,(.tmp 38))]),[]⟩,⟨some 40,none,.e (.lit [(.int .u8 0),(.int .i64 0),(.int .i64 0),(.int .i64 0),(.int .u8 0),(.int .i64 0),(.int .i64 0),(.int .i64 0)] 4 2 [(0,4,(.tmp 35)),(4,4,(.tmp 39))]),[]⟩,Ap 41 4 34 40,V 8 41]
 (O [Z 4 8,V 42 8,⟨some 43,none,.call 8 [(.tmp 42)],[]⟩,⟨some 10,none,.e (.new [(.slice none 0 0),(.slice none 0 0)] 2),[]⟩,⟨none,none,.e (.store 2 (.tmp 10) (.tmp 43)),[]⟩]
 (O [⟨some 44,none,.call 7 [],[]⟩,V 45 44,Gd 45 true (FA 46 0 10),Gd 45 true (L 47 46),Gd 45 true (V 48 8),⟨some 49,some (45,true),.call 9 [(.tmp 47),(.tmp 48)],[]⟩,Pk 50 45 49 false,V 6 50]
 .ret)))))))),[.tmp 6],51⟩
theorem c_LiftKept_is:qCk Proofs.Tryd.prog Proofs.Tryd.f3=some (qCc qKm):=by kernel_rfl
theorem call_LiftKept:qCp 3 qKm 51:=fun hl k=>qBf (by kernel_rfl) (by kernel_rfl) c_LiftKept_is (by kernel_rfl) hl k
def qMl:AFn :=
⟨(O [T 4 false]
 (O [V 10 0,V 11 1,⟨some 12,none,.call 6 [(.tmp 10),(.tmp 11)],[]⟩,V 5 12]
 (O [Z 4 5,V 13 5,⟨some 14,none,.call 8 [(.tmp 13)],[]⟩,⟨some 6,none,.e (.new [(.slice none 0 0),(.slice none 0 0)] 2),[]⟩,⟨none,none,.e (.store 2 (.tmp 6) (.tmp 14)),[]⟩]
 (.seq (O [FA 15 0 6,L 16 15,Ln 17 16,V 18 5,Ln 19 18,B 20 .eql 17 19]
 (.cond (.tmp 20)
 (O [⟨some 21,none,.call 7 [],[]⟩,V 22 21,Gd 22 true (FA 23 0 6),Gd 22 true (L 24 23),Gd 22 true (V 25 5),⟨some 26,some (22,true),.call 9 [(.tmp 24),(.tmp 25)],[]⟩,Pk 27 22 26 false,V 28 27,Gd 28 true (FA 29 1 6),Gd 28 true (L 30 29),Gd 28 true (Ln 31 30),Gd 28 true (V 32 5),Gd 28 true (Ln 33 32),Gd 28 true (B 34 .eql 31 33),Pk 35 28 34 false,V 4 35]
 .ret)
 .skip))
 (.seq (O [FA 36 0 6,L 37 36,Ln 38 37,V 39 5,Ln 40 39,Bn 41 .add 40 1,B 42 .neq 38 41,V 43 42,Gd 43 false (FA 44 1 6),Gd 43 false (L 45 44),Gd 43 false (Ln 46 45),Gd 43 false (FA 47 0 6),Gd 43 false (L 48 47),Gd 43 false (Ln 49 48),Gd 43 false (B 50 .neq 46 49),⟨some 51,none,.q (.pick (.tmp 43) (.const (.bool true)) (.tmp 50)),[]⟩]
 (.cond (.tmp 51)
 (O [T 4 false]
 .ret)
 .skip))
 (O [N 7 (-1)]
 (.seq (O [N 8 0]
 (.block 0 (.loop (.seq (O [V 52 8,FA 53 1 6,L 54 53,Ln 55 54,B 56 .lss 52 55]
 (.cond (.tmp 56)
 .skip
 (.exit 0)))
 (.seq (.block 1 (O [V 59 8,V 9 59]
 (.seq (O [V 60 7,Bn 61 .geq 60 0]
 (.cond (.tmp 61)
 (.ops [V 62 8,Bn 63 .sub 62 1,V 9 63])
 .skip))
 (.seq (O [V 64 7,Bn 65 .lss 64 0,V 66 65,Gd 66 true (FA 67 1 6),Gd 66 true (L 68 67),Gd 66 true (V 69 8),Gd 66 true (X 70 1 68 69),Gd 66 true (L 71 70),Gd 66 true (V 72 8),Gd 66 true (B 73 .neq 71 72),Pk 74 66 73 false,V 75 74,Gd 75 false (V 76 7),Gd 75 false (Bn 77 .lss 76 0),Gd 75 false (V 78 77),Gd 78 true (V 79 8),Gd 78 true (Bn 80 .add 79 1),Gd 78 true (FA 81 1 6),Gd 78 true (L 82 81),Gd 78 true (Ln 83 82),Gd 78 true (B 84 .lss 80 83),Gd 75 false (Pk 85 78 84 false),Gd 75 false (V 86 85),Gd 86 true (FA 87 1 6),Gd 86 true (L 88 87),Gd 86 true (V 89 8),Gd 86 true (Bn 90 .add 89 1),Gd 86 true (X 91 1 88 90),Gd 86 true (L 92 91),Gd 86 true (V 93 8),Gd 86 true (B 94 .eql 92 93),Gd 75 false (Pk 95 86 94 false),⟨some 96,none,.q (.pick (.tmp 75) (.const (.bool true)) (.tmp 95)),[]⟩]
 (.cond (.tmp 96)
 (O [V 97 8,V 7 97]
 (.exit 1))
 .skip))
 (.seq (O [FA 98 1 6,L 99 98,V 100 8,X 101 1 99 100,L 102 101,V 103 9,B 104 .neq 102 103,V 105 104,Gd 105 false (V 106 9),Gd 105 false (V 107 5),Gd 105 false (Ln 108 107),Gd 105 false (B 109 .geq 106 108),⟨some 110,none,.q (.pick (.tmp 105) (.const (.bool true)) (.tmp 109)),[]⟩]
 (.cond (.tmp 110)
 (O [T 4 false]
 .ret)
 .skip))
 (O [FA 111 0 6,L 112 111,V 113 8,X 114 4 112 113,FA 115 0 114,L 116 115,V 117 5,V 118 9,X 119 4 117 118,FA 120 0 119,L 121 120,B 122 .neq 116 121,V 123 122,Gd 123 true (FA 124 0 6),Gd 123 true (L 125 124),Gd 123 true (V 126 8),Gd 123 true (X 127 4 125 126),Gd 123 true (LA 128 4 127),⟨some 129,some (123,true),.q (.build [(.int .u8 0),(.int .i64 0),(.int .i64 0),(.int .i64 0)] []),[]⟩,⟨some 130,some (123,true),.q (.eqA [0,0,0,0] true (.tmp 128) (.tmp 129)),[]⟩,Gd 123 true (V 131 130),Gd 131 false (V 132 5),Gd 131 false (V 133 9),Gd 131 false (X 134 4 132 133),Gd 131 false (FA 135 0 134),Gd 131 false (L 136 135),Gd 131 false (Bk 137 .neq 136 .u8 7),⟨some 138,some (123,true),.q (.pick (.tmp 131) (.const (.bool true)) (.tmp 137)),[]⟩,Pk 139 123 138 false]
 (.cond (.tmp 139)
 (O [T 4 false]
 .ret)
 .skip)))))))
 (.ops [V 57 8,Bn 58 .add 57 1,V 8 58]))))))
 (O [⟨some 140,none,.call 7 [],[]⟩,V 141 140,Gd 141 true (V 142 7),Gd 141 true (Bn 143 .geq 142 0),Pk 144 141 143 false,V 145 144,Gd 145 true (FA 146 0 6),Gd 145 true (L 147 146),Gd 145 true (V 148 7),Gd 145 true (X 149 4 147 148),Gd 145 true (FA 150 0 149),Gd 145 true (L 151 150),Gd 145 true (Bk 152 .eql 151 .u8 7),Pk 153 145 152 false,V 154 153,Gd 154 true (FA 155 1 6),Gd 154 true (L 156 155),Gd 154 true (V 157 7),Gd 154 true (X 158 1 156 157),Gd 154 true (L 159 158),Gd 154 true (V 160 7),Gd 154 true (B 161 .geq 159 160),Pk 162 154 161 false,V 163 162,Gd 163 true (FA 164 1 6),Gd 163 true (L 165 164),Gd 163 true (V 166 7),Gd 163 true (X 167 1 165 166),Gd 163 true (L 168 167),Gd 163 true (V 169 5),Gd 163 true (Ln 170 169),Gd 163 true (B 171 .lss 168 170),Pk 172 163 171 false,V 173 172,Gd 173 true (FA 174 0 6),Gd 173 true (L 175 174),Gd 173 true (V 176 7),Gd 173 true (X 177 4 175 176),Gd 173 true (LA 178 4 177),Gd 173 true (V 179 5),Gd 173 true (FA 180 1 6),Gd 173 true (L 181 180),Gd 173 true (V 182 7),Gd 173 true (X 183 1 181 182),Gd 173 true (L 184 183),Gd 173 true (X 185 4 179 184),Gd 173 true (LA 186 4 185),⟨some 187,some (173,true),.q (.eqA [0,0,0,0] false (.tmp 178) (.tmp 186)),[]⟩,Pk 188 173 187 false,V 189 188,Gd 189 true (FA 190 0 6),Gd 189 true (L 191 190),Gd 189 true (FA 192 1 6),Gd 189 true (L 193 192),Gd 189 true (V 194 7),Gd 189 true (X 195 1 193 194),Gd 189 true (L 196 195),Gd 189 true (Bn 197 .add 196 1),Gd 189 true (X 198 4 191 197),Gd 189 true (LA 199 4 198),⟨some 200,some (189,true),.q (.build [(.int .u8 0),(.int .i64 0),(.int .i64 0),(.int .i64 0)] []),[]⟩,⟨some 201,some (189,true),.q (.eqA [0,0,0,0] false (.tmp 199) (.tmp 200)),[]⟩,Pk 202 189 201 false,V 4 202]
 .ret)))))))),[.tmp 4],203⟩
theorem c_LiftOne_is:qCk Proofs.Tryd.prog Proofs.Tryd.f4=some (qCc qMl):=by kernel_rfl
theorem call_LiftOne:qCp 4 qMl 203:=fun hl k=>qBf (by kernel_rfl) (by kernel_rfl) c_LiftOne_is (by kernel_rfl) hl k
end Pm
