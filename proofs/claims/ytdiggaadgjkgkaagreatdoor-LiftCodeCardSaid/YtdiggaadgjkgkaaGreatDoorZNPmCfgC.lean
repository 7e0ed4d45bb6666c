/- Codes of the program's functions, as a program printed them, and that they are what the program's functions are compiled to.
   No condition: plain facts. -/

import Derived.KernelRfl
import Derived.Test.YtdiggaadgjkgkaaGreatDoorZNPm5
import Derived.Test.YtdiggaadgjkgkaaGreatDoorProg
namespace Pm
set_option linter.unusedSimpArgs false
set_option linter.unusedVariables false
open Go Am
set_option maxRecDepth 100000
abbrev qCh (f:FuncId) (c:AFn) (n:Nat):Prop:=∀ {args:List Value} {h:Heap} {K:Value→Heap→Prop},args.length≤n→pwp Proofs.Tryz.prog c.body (qAs c.results K) (qBv args) h→qBl Proofs.Tryz.prog f args h K
def c_RSame01:AFn :=
⟨(O [T 4 false]
 (.seq (O [V 6 0,Ln 7 6,V 8 1,Ln 9 8,B 10 .neq 7 9]
 (.cond (.tmp 10)
 (O [T 4 false]
 .ret)
 .skip))
 (.seq (O [N 5 0]
 (.block 0 (.loop (.seq (O [V 11 5,V 12 0,Ln 13 12,B 14 .lss 11 13]
 (.cond (.tmp 14)
 .skip
 (.exit 0)))
 (.seq (.block 1 (O [V 17 0,V 18 5,X 19 1 17 18,L 20 19,V 21 1,V 22 5,X 23 1 21 22,L 24 23,B 25 .neq 20 24]
 (.cond (.tmp 25)
 (O [T 4 false]
 .ret)
 .skip)))
 (.ops [V 15 5,Bn 16 .add 15 1,V 5 16]))))))
 (O [T 4 true]
 .ret)))),[.tmp 4],26⟩
theorem call_RSame01:qCh 16 c_RSame01 26:=fun hl k=>qBh (fn:=Proofs.Tryz.f16) (by kernel_rfl) (by kernel_rfl) (by kernel_rfl) (by kernel_rfl) hl k
def c_without:AFn :=
⟨(O [E 4]
 (O [V 10 0,Ln 11 10,⟨some 12,none,.e (.make [(.bool false)] 1 (.tmp 11) (.tmp 11)),[]⟩,V 5 12]
 (.seq (O [V 13 0,Ln 14 13,Bn 15 .gtr 14 0,V 16 15,Gd 16 true (V 17 1),Gd 16 true (Bn 18 .neq 17 0),Pk 19 16 18 false]
 (.cond (.tmp 19)
 (.ops [V 20 5,⟨some 21,none,.q (.idxA 1 (.tmp 20) (.const (.int .i64 0))),[]⟩,⟨none,none,.e (.store 1 (.tmp 21) (.const (.bool true))),[]⟩])
 .skip))
 (.seq (O [T 6 true]
 (.block 0 (.loop (.seq (O [V 22 6]
 (.cond (.tmp 22)
 .skip
 (.exit 0)))
 (.block 1 (O [T 6 false]
 (O [N 7 0]
 (.block 2 (.loop (.seq (O [V 23 7,V 24 0,Ln 25 24,B 26 .lss 23 25]
 (.cond (.tmp 26)
 .skip
 (.exit 2)))
 (.seq (.block 3 (O [N 8 0]
 (.block 4 (.loop (.seq (O [V 29 8,V 30 0,V 31 7,X 32 1 30 31,L 33 32,Ln 34 33,B 35 .lss 29 34,V 36 35,Gd 36 true (V 37 5),Gd 36 true (V 38 7),Gd 36 true (X 39 1 37 38),Gd 36 true (L 40 39),Pk 41 36 40 false]
 (.cond (.tmp 41)
 .skip
 (.exit 4)))
 (.seq (.block 5 (O [V 44 0,V 45 7,X 46 1 44 45,L 47 46,V 48 8,X 49 1 47 48,L 50 49,V 9 50]
 (O [V 51 9,Bn 52 .geq 51 0,V 53 52,Gd 53 true (V 54 9),Gd 53 true (V 55 0),Gd 53 true (Ln 56 55),Gd 53 true (B 57 .lss 54 56),Pk 58 53 57 false,V 59 58,Gd 59 true (V 60 9),Gd 59 true (V 61 1),Gd 59 true (B 62 .neq 60 61),Pk 63 59 62 false,V 64 63,Gd 64 true (V 65 5),Gd 64 true (V 66 9),Gd 64 true (X 67 1 65 66),Gd 64 true (L 68 67),Gd 64 true (Nt 69 68),Pk 70 64 69 false]
 (.cond (.tmp 70)
 (O [V 71 5,V 72 9,X 73 1 71 72,⟨none,none,.e (.store 1 (.tmp 73) (.const (.bool true))),[]⟩]
 (.ops [T 6 true]))
 .skip))))
 (.ops [V 42 8,Bn 43 .add 42 1,V 8 43])))))))
 (.ops [V 27 7,Bn 28 .add 27 1,V 7 28]))))))))))))
 (O [V 74 5,V 4 74]
 .ret))))),[.tmp 4],75⟩
theorem call_without:qCh 108 c_without 75:=fun hl k=>qBh (fn:=Proofs.Tryz.f108) (by kernel_rfl) (by kernel_rfl) (by kernel_rfl) (by kernel_rfl) hl k
def c_RReach:AFn :=
⟨(O [E 2]
 (O [V 3 0,⟨some 4,none,.call 108 [(.tmp 3),(.const (.int .i64 (-1)))],[]⟩,V 2 4]
 .ret)),[.tmp 2],5⟩
theorem call_RReach:qCh 69 c_RReach 5:=fun hl k=>qBh (fn:=Proofs.Tryz.f69) (by kernel_rfl) (by kernel_rfl) (by kernel_rfl) (by kernel_rfl) hl k
def c_RHas:AFn :=
⟨(O [T 4 false]
 (O [V 5 1,Bn 6 .geq 5 0,V 7 6,Gd 7 true (V 8 1),Gd 7 true (Bn 9 .lss 8 64),Pk 10 7 9 false,V 11 10,Gd 11 true (V 12 0),Gd 11 true (V 13 1),⟨some 14,some (11,true),.call 111 [(.tmp 13)],[]⟩,Gd 11 true (B 15 .quo 12 14),Gd 11 true (Bk 16 .rem 15 .u64 2),Gd 11 true (Bk 17 .eql 16 .u64 1),Pk 18 11 17 false,V 4 18]
 .ret)),[.tmp 4],19⟩
theorem call_RHas:qCh 74 c_RHas 19:=fun hl k=>qBh (fn:=Proofs.Tryz.f74) (by kernel_rfl) (by kernel_rfl) (by kernel_rfl) (by kernel_rfl) hl k
def c_RWith:AFn :=
⟨(O [⟨some 4,none,.q (.val (.const (.int .u64 0))),[]⟩]
 (.seq (O [N 5 0]
 (.block 0 (.loop (.seq (O [V 6 5,V 7 1,Ln 8 7,B 9 .lss 6 8]
 (.cond (.tmp 9)
 .skip
 (.exit 0)))
 (.seq (.block 1 (O [V 12 1,V 13 5,X 14 1 12 13,L 15 14,Bn 16 .geq 15 0,V 17 16,Gd 17 true (V 18 1),Gd 17 true (V 19 5),Gd 17 true (X 20 1 18 19),Gd 17 true (L 21 20),Gd 17 true (Bn 22 .lss 21 64),Pk 23 17 22 false,V 24 23,Gd 24 true (V 25 0),Gd 24 true (V 26 1),Gd 24 true (V 27 5),Gd 24 true (X 28 1 26 27),Gd 24 true (L 29 28),⟨some 30,some (24,true),.call 74 [(.tmp 25),(.tmp 29)],[]⟩,Gd 24 true (Nt 31 30),Pk 32 24 31 false]
 (.cond (.tmp 32)
 (.ops [V 33 0,V 34 1,V 35 5,X 36 1 34 35,L 37 36,⟨some 38,none,.call 111 [(.tmp 37)],[]⟩,B 39 .add 33 38,V 0 39])
 .skip)))
 (.ops [V 10 5,Bn 11 .add 10 1,V 5 11]))))))
 (O [V 40 0,V 4 40]
 .ret))),[.tmp 4],41⟩
theorem call_RWith:qCh 109 c_RWith 41:=fun hl k=>qBh (fn:=Proofs.Tryz.f109) (by kernel_rfl) (by kernel_rfl) (by kernel_rfl) (by kernel_rfl) hl k
def c_RDoms:AFn :=
⟨(O [E 2]
 (.seq (O [V 8 0,Ln 9 8,Bn 10 .gtr 9 64]
 (.cond (.tmp 10)
 (O [E 2]
 .ret)
 .skip))
 (O [V 11 0,⟨some 12,none,.call 69 [(.tmp 11)],[]⟩,V 3 12]
 (O [V 13 0,Ln 14 13,⟨some 15,none,.e (.make [(.int .u64 0)] 1 (.tmp 14) (.tmp 14)),[]⟩,V 4 15]
 (.seq (O [N 5 0]
 (.block 0 (.loop (.seq (O [V 16 5,V 17 0,Ln 18 17,B 19 .lss 16 18]
 (.cond (.tmp 19)
 .skip
 (.exit 0)))
 (.seq (.block 1 (O [V 22 0,V 23 5,⟨some 24,none,.call 108 [(.tmp 22),(.tmp 23)],[]⟩,V 6 24]
 (O [N 7 0]
 (.block 2 (.loop (.seq (O [V 25 7,V 26 0,Ln 27 26,B 28 .lss 25 27]
 (.cond (.tmp 28)
 .skip
 (.exit 2)))
 (.seq (.block 3 (O [V 31 3,V 32 7,X 33 1 31 32,L 34 33,V 35 34,Gd 35 true (V 36 6),Gd 35 true (V 37 7),Gd 35 true (X 38 1 36 37),Gd 35 true (L 39 38),Gd 35 true (Nt 40 39),Pk 41 35 40 false]
 (.cond (.tmp 41)
 (.ops [V 42 4,V 43 7,V 44 4,V 45 7,X 46 1 44 45,L 47 46,V 48 5,⟨some 49,none,.e (.lit [(.int .i64 0)] 1 1 [(0,1,(.tmp 48))]),[]⟩,Z 1 49,⟨some 50,none,.call 109 [(.tmp 47),(.tmp 49)],[]⟩,X 51 1 42 43,S 51 50])
 .skip)))
 (.ops [V 29 7,Bn 30 .add 29 1,V 7 30]))))))))
 (.ops [V 20 5,Bn 21 .add 20 1,V 5 21]))))))
 (O [V 52 4,V 2 52]
 .ret)))))),[.tmp 2],53⟩
theorem call_RDoms:qCh 68 c_RDoms 53:=fun hl k=>qBh (fn:=Proofs.Tryz.f68) (by kernel_rfl) (by kernel_rfl) (by kernel_rfl) (by kernel_rfl) hl k
def c_RSuccs:AFn :=
⟨(O [E 2]
 (O [E 3]
 (.seq (O [N 4 0]
 (.block 0 (.loop (.seq (O [V 5 4,V 6 0,Ln 7 6,B 8 .lss 5 7]
 (.cond (.tmp 8)
 .skip
 (.exit 0)))
 (.seq (.block 1 (.block 2 (O [V 18 0,V 19 4,X 20 4 18 19,FA 21 0 20,L 22 21,Bk 23 .eql 22 .u8 10,V 17 23]
 (.cond (.tmp 17)
 (.ops [V 24 3,V 25 0,V 26 4,X 27 4 25 26,FA 28 1 27,L 29 28,⟨some 30,none,.e (.lit [(.int .i64 0)] 1 1 [(0,1,(.tmp 29))]),[]⟩,Z 1 30,⟨some 31,none,.e (.lit [(.slice none 0 0)] 1 1 [(0,1,(.tmp 30))]),[]⟩,Ap 32 1 24 31,V 3 32])
 (O [V 34 0,V 35 4,X 36 4 34 35,FA 37 0 36,L 38 37,Bk 39 .eql 38 .u8 11,V 40 39,Gd 40 true (V 41 0),Gd 40 true (V 42 4),Gd 40 true (X 43 4 41 42),Gd 40 true (FA 44 2 43),Gd 40 true (L 45 44),Gd 40 true (V 46 4),Gd 40 true (Bn 47 .add 46 1),Gd 40 true (B 48 .lss 45 47),Pk 49 40 48 false,V 33 49]
 (.cond (.tmp 33)
 (.ops [V 50 3,V 51 0,V 52 4,X 53 4 51 52,FA 54 2 53,L 55 54,V 56 4,Bn 57 .add 56 1,⟨some 58,none,.e (.lit [(.int .i64 0),(.int .i64 0)] 1 2 [(0,1,(.tmp 55)),(1,1,(.tmp 57))]),[]⟩,Z 1 58,⟨some 59,none,.e (.lit [(.slice none 0 0)] 1 1 [(0,1,(.tmp 58))]),[]⟩,Ap 60 1 50 59,V 3 60])
 (O [V 62 0,V 63 4,X 64 4 62 63,FA 65 0 64,L 66 65,Bk 67 .eql 66 .u8 11,V 68 67,Gd 68 true (V 69 0),Gd 68 true (V 70 4),Gd 68 true (X 71 4 69 70),Gd 68 true (FA 72 2 71),Gd 68 true (L 73 72),Gd 68 true (V 74 4),Gd 68 true (Bn 75 .add 74 1),Gd 68 true (B 76 .gtr 73 75),Pk 77 68 76 false,V 61 77]
 (.cond (.tmp 61)
 (.ops [V 78 3,V 79 4,Bn 80 .add 79 1,V 81 0,V 82 4,X 83 4 81 82,FA 84 2 83,L 85 84,⟨some 86,none,.e (.lit [(.int .i64 0),(.int .i64 0)] 1 2 [(0,1,(.tmp 80)),(1,1,(.tmp 85))]),[]⟩,Z 1 86,⟨some 87,none,.e (.lit [(.slice none 0 0)] 1 1 [(0,1,(.tmp 86))]),[]⟩,Ap 88 1 78 87,V 3 88])
 (.ops [V 11 3,V 12 4,Bn 13 .add 12 1,⟨some 14,none,.e (.lit [(.int .i64 0)] 1 1 [(0,1,(.tmp 13))]),[]⟩,Z 1 14,⟨some 15,none,.e (.lit [(.slice none 0 0)] 1 1 [(0,1,(.tmp 14))]),[]⟩,Ap 16 1 11 15,V 3 16])))))))))
 (.ops [V 9 4,Bn 10 .add 9 1,V 4 10]))))))
 (O [V 89 3,V 2 89]
 .ret)))),[.tmp 2],90⟩
theorem call_RSuccs:qCh 32 c_RSuccs 90:=fun hl k=>qBh (fn:=Proofs.Tryz.f32) (by kernel_rfl) (by kernel_rfl) (by kernel_rfl) (by kernel_rfl) hl k
end Pm
/- Codes of the program's functions, as a program printed them, and that they are what the program's functions are compiled to.
   No condition: plain facts. -/
namespace Pm
set_option linter.unusedSimpArgs false
set_option linter.unusedVariables false
open Go Am
set_option maxRecDepth 100000
@[irreducible] def qPb:ByteArray:=⟨#[0,1,2,2,3,3,3,3,4,4,4,4,4,4,4,4,5,5,5,5,5,5,5,5,5,5,5,5,5,5,5,5,6,6,6,6,6,6,6,6,6,6,6,6,6,6,6,6,6,6,6,6,6,6,6,6,6,6,6,6,6,6,6,6,7,7,7,7,7,7,7,7,7,7,7,7,7,7,7,7,7,7,7,7,7,7,7,7,7,7,7,7,7,7,7,7,7,7,7,7,7,7,7,7,7,7,7,7,7,7,7,7,7,7,7,7,7,7,7,7,7,7,7,7,7,7,7,7,8,8,8,8,8,8,8,8,8,8,8,8,8,8,8,8,8,8,8,8,8,8,8,8,8,8,8,8,8,8,8,8,8,8,8,8,8,8,8,8,8,8,8,8,8,8,8,8,8,8,8,8,8,8,8,8,8,8,8,8,8,8,8,8,8,8,8,8,8,8,8,8,8,8,8,8,8,8,8,8,8,8,8,8,8,8,8,8,8,8,8,8,8,8,8,8,8,8,8,8,8,8,8,8,8,8,8,8,8,8,8,8,8,8,8,8,8,8,8,8,8,8,8,8,8,8,8,8]⟩
def c_SortI:AFn :=
⟨(O [V 3 0,Ln 4 3,V 2 4]
 (.ops [V 5 0,V 6 2,V 7 2,Cv' 8 .u64 7,⟨some 9,none,.call 85 [(.tmp 8)],[]⟩,⟨some 10,none,.call 84 [(.tmp 5),(.const (.int .i64 0)),(.tmp 6),(.tmp 9)],[]⟩])),[],11⟩
theorem call_SortI:qCh 42 c_SortI 11:=fun hl k=>qBh (fn:=Proofs.Tryz.f42) (by kernel_rfl) (by kernel_rfl) (by kernel_rfl) (by kernel_rfl) hl k
def c_pdqI:AFn :=
⟨(O [T 8 true]
 (O [T 9 true]
 (.block 0 (.loop (.block 1 (O [V 19 2,V 20 1,B 21 .sub 19 20,V 10 21]
 (.seq (O [V 22 10,Bn 23 .leq 22 12]
 (.cond (.tmp 23)
 (O [V 24 0,V 25 1,V 26 2,⟨some 27,none,.call 116 [(.tmp 24),(.tmp 25),(.tmp 26)],[]⟩]
 .ret)
 .skip))
 (.seq (O [V 28 3,Bn 29 .eql 28 0]
 (.cond (.tmp 29)
 (O [V 30 0,V 31 1,V 32 2,⟨some 33,none,.call 117 [(.tmp 30),(.tmp 31),(.tmp 32)],[]⟩]
 .ret)
 .skip))
 (.seq (O [V 34 8,Nt 35 34]
 (.cond (.tmp 35)
 (O [V 36 0,V 37 1,V 38 2,⟨some 39,none,.call 118 [(.tmp 36),(.tmp 37),(.tmp 38)],[]⟩]
 (.ops [V 40 3,Bn 41 .sub 40 1,V 3 41]))
 .skip))
 (O [V 43 0,V 44 1,V 45 2,⟨some 46,none,.call 119 [(.tmp 43),(.tmp 44),(.tmp 45)],[]⟩,V 42 46,⟨some 47,none,.q (.ext (.tmp 42) 0),[]⟩,⟨some 48,none,.q (.ext (.tmp 42) 1),[]⟩,V 11 47,V 12 48]
 (.seq (O [V 49 12,Bn 50 .eql 49 2]
 (.cond (.tmp 50)
 (O [V 51 0,V 52 1,V 53 2,⟨some 54,none,.call 120 [(.tmp 51),(.tmp 52),(.tmp 53)],[]⟩]
 (O [V 55 2,Bn 56 .sub 55 1,V 57 11,V 58 1,B 59 .sub 57 58,B 60 .sub 56 59,V 11 60]
 (.ops [N 12 1])))
 .skip))
 (.seq (O [V 61 8,V 62 61,Gd 62 true (V 63 9),Pk 64 62 63 false,V 65 64,Gd 65 true (V 66 12),Gd 65 true (Bn 67 .eql 66 1),Pk 68 65 67 false]
 (.cond (.tmp 68)
 (O [V 69 0,V 70 1,V 71 2,⟨some 72,none,.call 121 [(.tmp 69),(.tmp 70),(.tmp 71)],[]⟩]
 (.cond (.tmp 72)
 .ret
 .skip))
 .skip))
 (.seq (O [V 73 1,Bn 74 .gtr 73 0,V 75 74,Gd 75 true (V 76 0),Gd 75 true (V 77 1),Gd 75 true (Bn 78 .sub 77 1),Gd 75 true (X 79 1 76 78),Gd 75 true (L 80 79),Gd 75 true (V 81 0),Gd 75 true (V 82 11),Gd 75 true (X 83 1 81 82),Gd 75 true (L 84 83),⟨some 85,some (75,true),.call 122 [(.tmp 80),(.tmp 84)],[]⟩,Gd 75 true (Nt 86 85),Pk 87 75 86 false]
 (.cond (.tmp 87)
 (O [V 88 0,V 89 1,V 90 2,V 91 11,⟨some 92,none,.call 123 [(.tmp 88),(.tmp 89),(.tmp 90),(.tmp 91)],[]⟩,V 13 92]
 (O [V 93 13,V 1 93]
 (.exit 1)))
 .skip))
 (O [V 95 0,V 96 1,V 97 2,V 98 11,⟨some 99,none,.call 124 [(.tmp 95),(.tmp 96),(.tmp 97),(.tmp 98)],[]⟩,V 94 99,⟨some 100,none,.q (.ext (.tmp 94) 0),[]⟩,⟨some 101,none,.q (.ext (.tmp 94) 1),[]⟩,V 14 100,V 15 101]
 (O [V 102 15,V 9 102]
 (O [V 103 14,V 104 1,B 105 .sub 103 104,V 106 2,V 107 14,B 108 .sub 106 107,V 16 105,V 17 108]
 (O [V 109 10,Bn 110 .quo 109 8,V 18 110]
 (O [V 111 16,V 112 17,B 113 .lss 111 112]
 (.cond (.tmp 113)
 (O [V 114 16,V 115 18,B 116 .geq 114 115,V 8 116]
 (O [V 117 0,V 118 1,V 119 14,V 120 3,⟨some 121,none,.call 84 [(.tmp 117),(.tmp 118),(.tmp 119),(.tmp 120)],[]⟩]
 (.ops [V 122 14,Bn 123 .add 122 1,V 1 123])))
 (O [V 124 17,V 125 18,B 126 .geq 124 125,V 8 126]
 (O [V 127 0,V 128 14,Bn 129 .add 128 1,V 130 2,V 131 3,⟨some 132,none,.call 84 [(.tmp 127),(.tmp 129),(.tmp 130),(.tmp 131)],[]⟩]
 (.ops [V 133 14,V 2 133])))))))))))))))))))))),[],134⟩
theorem call_pdqI:qCh 84 c_pdqI 134:=fun hl k=>qBh (fn:=Proofs.Tryz.f84) (by kernel_rfl) (by kernel_rfl) (by kernel_rfl) (by kernel_rfl) hl k
def qSd:AFn :=
⟨(O [V 8 1,Bn 9 .add 8 1,V 6 9]
 (.block 0 (.loop (.seq (O [V 10 6,V 11 2,B 12 .lss 10 11]
 (.cond (.tmp 12)
 .skip
 (.exit 0)))
 (.seq (.block 1 (O [V 15 6,V 7 15]
 (.block 2 (.loop (.seq (O [V 16 7,V 17 1,B 18 .gtr 16 17,V 19 18,Gd 19 true (V 20 0),Gd 19 true (V 21 7),Gd 19 true (X 22 1 20 21),Gd 19 true (L 23 22),Gd 19 true (V 24 0),Gd 19 true (V 25 7),Gd 19 true (Bn 26 .sub 25 1),Gd 19 true (X 27 1 24 26),Gd 19 true (L 28 27),⟨some 29,some (19,true),.call 122 [(.tmp 23),(.tmp 28)],[]⟩,Pk 30 19 29 false]
 (.cond (.tmp 30)
 .skip
 (.exit 2)))
 (.seq (.block 3 (.ops [V 33 0,V 34 7,V 35 0,V 36 7,Bn 37 .sub 36 1,V 38 0,V 39 7,Bn 40 .sub 39 1,X 41 1 38 40,L 42 41,V 43 0,V 44 7,X 45 1 43 44,L 46 45,X 47 1 33 34,S 47 42,X 48 1 35 37,S 48 46]))
 (.ops [V 31 7,Bn 32 .sub 31 1,V 7 32])))))))
 (.ops [V 13 6,Bn 14 .add 13 1,V 6 14])))))),[],49⟩
theorem call_insI:qCh 116 qSd 49:=fun hl k=>qBh (fn:=Proofs.Tryz.f116) (by kernel_rfl) (by kernel_rfl) (by kernel_rfl) (by kernel_rfl) hl k
def c_LessI:AFn :=
⟨(O [T 4 false]
 (O [V 5 0,⟨some 6,none,.call 136 [(.tmp 5)],[]⟩,V 7 6,Gd 7 true (V 8 1),⟨some 9,some (7,true),.call 136 [(.tmp 8)],[]⟩,Gd 7 true (Nt 10 9),Pk 11 7 10 false,V 12 11,Gd 12 false (V 13 0),Gd 12 false (V 14 1),Gd 12 false (B 15 .lss 13 14),⟨some 16,none,.q (.pick (.tmp 12) (.const (.bool true)) (.tmp 15)),[]⟩,V 4 16]
 .ret)),[.tmp 4],17⟩
theorem call_LessI:qCh 122 c_LessI 17:=fun hl k=>qBh (fn:=Proofs.Tryz.f122) (by kernel_rfl) (by kernel_rfl) (by kernel_rfl) (by kernel_rfl) hl k
def c_isNaNI:AFn :=
⟨(O [T 2 false]
 (O [V 3 0,V 4 0,B 5 .neq 3 4,V 2 5]
 .ret)),[.tmp 2],6⟩
theorem call_isNaNI:qCh 136 c_isNaNI 6:=fun hl k=>qBh (fn:=Proofs.Tryz.f136) (by kernel_rfl) (by kernel_rfl) (by kernel_rfl) (by kernel_rfl) hl k
def c_LenU:AFn :=
⟨(O [N 2 0]
 (.seq (.cond (.const (.bool false))
 (O [V 3 0,Cv' 4 .u32 3,⟨some 5,none,.call 125 [(.tmp 4)],[]⟩,V 2 5]
 .ret)
 .skip)
 (O [V 6 0,⟨some 7,none,.call 126 [(.tmp 6)],[]⟩,V 2 7]
 .ret))),[.tmp 2],8⟩
theorem call_LenU:qCh 85 c_LenU 8:=fun hl k=>qBh (fn:=Proofs.Tryz.f85) (by kernel_rfl) (by kernel_rfl) (by kernel_rfl) (by kernel_rfl) hl k
def c_Len64:AFn :=
⟨(O [N 2 0]
 (.seq (O [V 3 0,Bk 4 .geq 3 .u64 4294967296]
 (.cond (.tmp 4)
 (O [V 5 0,Bk 6 .shr 5 .u64 32,V 0 6]
 (.ops [N 2 32]))
 .skip))
 (.seq (O [V 7 0,Bk 8 .geq 7 .u64 65536]
 (.cond (.tmp 8)
 (O [V 9 0,Bk 10 .shr 9 .u64 16,V 0 10]
 (.ops [V 11 2,Bn 12 .add 11 16,V 2 12]))
 .skip))
 (.seq (O [V 13 0,Bk 14 .geq 13 .u64 256]
 (.cond (.tmp 14)
 (O [V 15 0,Bk 16 .shr 15 .u64 8,V 0 16]
 (.ops [V 17 2,Bn 18 .add 17 8,V 2 18]))
 .skip))
 (O [V 19 2,V 20 0,Cv' 21 .u8 20,⟨some 22,none,.q (.idxS (.const (.string qPb)) (.tmp 21)),[]⟩,Cv' 23 .i64 22,B 24 .add 19 23,V 2 24]
 .ret))))),[.tmp 2],25⟩
theorem call_Len64:qCh 126 c_Len64 25:=fun hl k=>qBh (fn:=Proofs.Tryz.f126) (by kernel_rfl) (by kernel_rfl) (by kernel_rfl) (by kernel_rfl) hl k
def qLj:AFn :=
⟨(O [E 2]
 (.seq (O [V 6 0,Ln 7 6,Bn 8 .lss 7 2]
 (.cond (.tmp 8)
 (O [V 9 0,V 2 9]
 .ret)
 .skip))
 (.seq (O [N 3 1]
 (.block 0 (.loop (.seq (O [V 10 3,V 11 0,Ln 12 11,B 13 .lss 10 12]
 (.cond (.tmp 13)
 .skip
 (.exit 0)))
 (.seq (.block 1 (O [V 16 0,V 17 3,X 18 1 16 17,L 19 18,V 20 0,V 21 3,Bn 22 .sub 21 1,X 23 1 20 22,L 24 23,B 25 .eql 19 24]
 (.cond (.tmp 25)
 (O [V 26 0,V 27 3,⟨some 28,none,.q (.cut 1 (.tmp 26) (some (.tmp 27)) none),[]⟩,V 4 28]
 (.seq (O [N 5 1]
 (.block 2 (.loop (.seq (O [V 29 5,V 30 4,Ln 31 30,B 32 .lss 29 31]
 (.cond (.tmp 32)
 .skip
 (.exit 2)))
 (.seq (.block 3 (O [V 35 4,V 36 5,X 37 1 35 36,L 38 37,V 39 4,V 40 5,Bn 41 .sub 40 1,X 42 1 39 41,L 43 42,B 44 .neq 38 43]
 (.cond (.tmp 44)
 (O [V 45 0,V 46 3,V 47 4,V 48 5,X 49 1 47 48,L 50 49,X 51 1 45 46,S 51 50]
 (.ops [V 52 3,Bn 53 .add 52 1,V 3 53]))
 .skip)))
 (.ops [V 33 5,Bn 34 .add 33 1,V 5 34]))))))
 (O [V 54 0,V 55 3,⟨some 56,none,.q (.cut 1 (.tmp 54) (some (.tmp 55)) none),[]⟩,⟨none,none,.e (.clear [(.int .i64 0)] (.tmp 56)),[]⟩]
 (O [V 57 0,V 58 3,⟨some 59,none,.q (.cut 1 (.tmp 57) none (some (.tmp 58))),[]⟩,V 2 59]
 .ret))))
 .skip)))
 (.ops [V 14 3,Bn 15 .add 14 1,V 3 15]))))))
 (O [V 60 0,V 2 60]
 .ret)))),[.tmp 2],61⟩
theorem call_CompactI:qCh 43 qLj 61:=fun hl k=>qBh (fn:=Proofs.Tryz.f43) (by kernel_rfl) (by kernel_rfl) (by kernel_rfl) (by kernel_rfl) hl k
def c_Succs:AFn :=
⟨(O [E 2]
 (O [V 7 0,Ln 8 7,⟨some 9,none,.e (.make [(.slice none 0 0)] 1 (.tmp 8) (.tmp 8)),[]⟩,V 3 9]
 (.seq (O [V 10 0,Ln 11 10,N 12 0]
 (.block 0 (.loop (O [B 13 .lss 12 11]
 (.seq (.cond (.tmp 13)
 .skip
 (.exit 0))
 (.seq (.block 1 (O [V 14 12,X 15 4 10 12,LA 16 4 15,⟨some 5,none,.e (.new [(.int .u8 0),(.int .i64 0),(.int .i64 0),(.int .i64 0)] 4),[]⟩,V 4 14,⟨none,none,.e (.store 4 (.tmp 5) (.tmp 16)),[]⟩]
 (O [V 17 4,Bn 18 .add 17 1,⟨some 19,none,.e (.lit [(.int .i64 0)] 1 1 [(0,1,(.tmp 18))]),[]⟩,V 6 19]
 (.seq (O [FA 20 0 5,L 21 20]
 (.block 2 (O [Bk 23 .eql 21 .u8 10,V 22 23]
 (.cond (.tmp 22)
 (.ops [V 24 6,FA 25 1 5,L 26 25,⟨some 27,none,.q (.idxA 1 (.tmp 24) (.const (.int .i64 0))),[]⟩,S 27 26])
 (O [Bk 29 .eql 21 .u8 11,V 28 29]
 (.cond (.tmp 28)
 (.ops [V 30 6,FA 31 2 5,L 32 31,⟨some 33,none,.e (.lit [(.int .i64 0)] 1 1 [(0,1,(.tmp 32))]),[]⟩,Ap 34 1 30 33,V 6 34])
 .skip))))))
 (O [V 35 6,⟨some 36,none,.call 42 [(.tmp 35)],[]⟩]
 (.ops [V 37 3,V 38 4,V 39 6,⟨some 40,none,.call 43 [(.tmp 39)],[]⟩,Z 1 40,X 41 1 37 38,S 41 40]))))))
 (.ops [Bn 42 .add 12 1,V 12 42])))))))
 (O [V 43 3,V 2 43]
 .ret)))),[.tmp 2],44⟩
theorem call_Succs:qCh 18 c_Succs 44:=fun hl k=>qBh (fn:=Proofs.Tryz.f18) (by kernel_rfl) (by kernel_rfl) (by kernel_rfl) (by kernel_rfl) hl k
end Pm
/- Codes of the program's functions, as a program printed them, and that they are what the program's functions are compiled to.
   No condition: plain facts. -/
namespace Pm
set_option linter.unusedSimpArgs false
set_option linter.unusedVariables false
open Go Am
set_option maxRecDepth 100000
def c_MkIns:AFn :=
⟨(O [⟨some 8,none,.e (.new [(.int .u8 0),(.int .i64 0),(.int .i64 0),(.int .i64 0)] 4),[]⟩]
 (O [⟨some 14,none,.e (.lit [(.int .u8 0),(.int .u8 0),(.int .u8 0),(.int .u8 0),(.int .u8 0),(.int .u8 0),(.int .u8 0),(.int .u8 0),(.int .u8 0),(.int .u8 0),(.int .u8 0),(.int .u8 0),(.int .u8 0),(.int .u8 0),(.int .u8 0),(.int .u8 0),(.int .u8 0),(.int .u8 0),(.int .u8 0),(.int .u8 0),(.int .u8 0),(.int .u8 0),(.int .u8 0),(.int .u8 0),(.int .u8 0),(.int .u8 0),(.int .u8 0),(.int .u8 0),(.int .u8 0),(.int .u8 0),(.int .u8 0),(.int .u8 0),(.int .u8 0),(.int .u8 0),(.int .u8 0),(.int .u8 0)] 1 36 [(0,1,(.const (.int .u8 7))),(1,1,(.const (.int .u8 8))),(2,1,(.const (.int .u8 9))),(3,1,(.const (.int .u8 1))),(4,1,(.const (.int .u8 3))),(5,1,(.const (.int .u8 7))),(6,1,(.const (.int .u8 8))),(7,1,(.const (.int .u8 9))),(8,1,(.const (.int .u8 13))),(9,1,(.const (.int .u8 14))),(10,1,(.const (.int .u8 15))),(11,1,(.const (.int .u8 16))),(12,1,(.const (.int .u8 17))),(13,1,(.const (.int .u8 18))),(14,1,(.const (.int .u8 19))),(15,1,(.const (.int .u8 20))),(16,1,(.const (.int .u8 21))),(17,1,(.const (.int .u8 22))),(18,1,(.const (.int .u8 23))),(19,1,(.const (.int .u8 24))),(20,1,(.const (.int .u8 25))),(21,1,(.const (.int .u8 26))),(22,1,(.const (.int .u8 27))),(23,1,(.const (.int .u8 11))),(24,1,(.const (.int .u8 10))),(25,1,(.const (.int .u8 0))),(26,1,(.const (.int .u8 2))),(27,1,(.const (.int .u8 4))),(28,1,(.const (.int .u8 5))),(29,1,(.const (.int .u8 6))),(30,1,(.const (.int .u8 7))),(31,1,(.const (.int .u8 8))),(32,1,(.const (.int .u8 13))),(33,1,(.const (.int .u8 14))),(34,1,(.const (.int .u8 9))),(35,1,(.const (.int .u8 8)))]),[]⟩,V 9 14]
 (O [V 15 9,V 16 0,Cv' 17 .i64 16,V 18 9,Ln 19 18,B 20 .rem 17 19,X 21 1 15 20,L 22 21,V 10 22]
 (O [V 23 1,Bk 24 .rem 23 .u8 4,Cv' 25 .i64 24,V 11 25]
 (O [V 26 1,Bk 27 .quo 26 .u8 4,Bk 28 .rem 27 .u8 4,Cv' 29 .i64 28,V 12 29]
 (O [V 30 1,Bk 31 .quo 30 .u8 16,Bk 32 .rem 31 .u8 2,Cv' 33 .i64 32,V 13 33]
 (.seq (O [V 34 10]
 (.block 0 (O [Bk 36 .eql 34 .u8 1,V 35 36]
 (.cond (.tmp 35)
 (O [V 37 10,V 38 11,V 39 1,Bk 40 .quo 39 .u8 4,Bk 41 .rem 40 .u8 8,Cv' 42 .i64 41,⟨some 43,none,.q (.build [(.int .u8 0),(.int .i64 0),(.int .i64 0),(.int .i64 0)] [(0,1,(.tmp 37)),(1,1,(.tmp 38)),(2,1,(.tmp 42))]),[]⟩,⟨none,none,.e (.store 4 (.tmp 8) (.tmp 43)),[]⟩]
 .ret)
 (O [Bk 45 .eql 34 .u8 2,V 44 45]
 (.cond (.tmp 44)
 (O [V 46 10,V 47 11,V 48 12,⟨some 49,none,.q (.build [(.int .u8 0),(.int .i64 0),(.int .i64 0),(.int .i64 0)] [(0,1,(.tmp 46)),(1,1,(.tmp 47)),(2,1,(.tmp 48))]),[]⟩,⟨none,none,.e (.store 4 (.tmp 8) (.tmp 49)),[]⟩]
 .ret)
 (.seq (O [Bk 51 .eql 34 .u8 3,V 50 51]
 (.cond (.tmp 50)
 .skip
 (O [Bk 52 .eql 34 .u8 4,V 50 52]
 (.cond (.tmp 50)
 .skip
 (O [Bk 53 .eql 34 .u8 5,V 50 53]
 (.cond (.tmp 50)
 .skip
 (.ops [Bk 54 .eql 34 .u8 6,V 50 54])))))))
 (.cond (.tmp 50)
 (O [V 55 10,V 56 11,V 57 12,V 58 1,Bk 59 .quo 58 .u8 16,Bk 60 .rem 59 .u8 4,Cv' 61 .i64 60,⟨some 62,none,.q (.build [(.int .u8 0),(.int .i64 0),(.int .i64 0),(.int .i64 0)] [(0,1,(.tmp 55)),(1,1,(.tmp 56)),(2,1,(.tmp 57)),(3,1,(.tmp 61))]),[]⟩,⟨none,none,.e (.store 4 (.tmp 8) (.tmp 62)),[]⟩]
 .ret)
 (O [Bk 64 .eql 34 .u8 7,V 63 64]
 (.cond (.tmp 63)
 (O [V 65 10,V 66 11,V 67 13,⟨some 68,none,.q (.build [(.int .u8 0),(.int .i64 0),(.int .i64 0),(.int .i64 0)] [(0,1,(.tmp 65)),(1,1,(.tmp 66)),(2,1,(.tmp 67))]),[]⟩,⟨none,none,.e (.store 4 (.tmp 8) (.tmp 68)),[]⟩]
 .ret)
 (O [Bk 70 .eql 34 .u8 8,V 69 70]
 (.cond (.tmp 69)
 (O [V 71 10,V 72 13,V 73 11,⟨some 74,none,.q (.build [(.int .u8 0),(.int .i64 0),(.int .i64 0),(.int .i64 0)] [(0,1,(.tmp 71)),(1,1,(.tmp 72)),(2,1,(.tmp 73))]),[]⟩,⟨none,none,.e (.store 4 (.tmp 8) (.tmp 74)),[]⟩]
 .ret)
 (O [Bk 76 .eql 34 .u8 9,V 75 76]
 (.cond (.tmp 75)
 (O [V 77 10,V 78 11,⟨some 79,none,.q (.build [(.int .u8 0),(.int .i64 0),(.int .i64 0),(.int .i64 0)] [(0,1,(.tmp 77)),(1,1,(.tmp 78))]),[]⟩,⟨none,none,.e (.store 4 (.tmp 8) (.tmp 79)),[]⟩]
 .ret)
 (O [Bk 81 .eql 34 .u8 10,V 80 81]
 (.cond (.tmp 80)
 (O [V 82 10,V 83 2,Bn 84 .add 83 1,V 85 12,B 86 .add 84 85,V 87 3,⟨some 88,none,.q (.mm false (.tmp 86) [(.tmp 87)]),[]⟩,⟨some 89,none,.q (.build [(.int .u8 0),(.int .i64 0),(.int .i64 0),(.int .i64 0)] [(0,1,(.tmp 82)),(1,1,(.tmp 88))]),[]⟩,⟨none,none,.e (.store 4 (.tmp 8) (.tmp 89)),[]⟩]
 .ret)
 (O [Bk 91 .eql 34 .u8 11,V 90 91]
 (.cond (.tmp 90)
 (.seq (O [V 92 1,Bk 93 .geq 92 .u8 200]
 (.cond (.tmp 93)
 (O [V 94 10,V 95 11,V 96 2,V 97 12,B 98 .sub 96 97,⟨some 99,none,.q (.mm true (.tmp 98) [(.const (.int .i64 0))]),[]⟩,⟨some 100,none,.q (.build [(.int .u8 0),(.int .i64 0),(.int .i64 0),(.int .i64 0)] [(0,1,(.tmp 94)),(1,1,(.tmp 95)),(2,1,(.tmp 99))]),[]⟩,⟨none,none,.e (.store 4 (.tmp 8) (.tmp 100)),[]⟩]
 .ret)
 .skip))
 (O [V 101 10,V 102 11,V 103 2,Bn 104 .add 103 1,V 105 12,B 106 .add 104 105,V 107 3,⟨some 108,none,.q (.mm false (.tmp 106) [(.tmp 107)]),[]⟩,⟨some 109,none,.q (.build [(.int .u8 0),(.int .i64 0),(.int .i64 0),(.int .i64 0)] [(0,1,(.tmp 101)),(1,1,(.tmp 102)),(2,1,(.tmp 108))]),[]⟩,⟨none,none,.e (.store 4 (.tmp 8) (.tmp 109)),[]⟩]
 .ret))
 (O [Bk 111 .eql 34 .u8 18,V 110 111]
 (.cond (.tmp 110)
 (O [V 112 10,V 113 11,⟨some 114,none,.q (.build [(.int .u8 0),(.int .i64 0),(.int .i64 0),(.int .i64 0)] [(0,1,(.tmp 112)),(2,1,(.tmp 113))]),[]⟩,⟨none,none,.e (.store 4 (.tmp 8) (.tmp 114)),[]⟩]
 .ret)
 (O [Bk 116 .eql 34 .u8 19,V 115 116]
 (.cond (.tmp 115)
 (O [V 117 10,V 118 11,V 119 12,⟨some 120,none,.q (.build [(.int .u8 0),(.int .i64 0),(.int .i64 0),(.int .i64 0)] [(0,1,(.tmp 117)),(1,1,(.tmp 118)),(3,1,(.tmp 119))]),[]⟩,⟨none,none,.e (.store 4 (.tmp 8) (.tmp 120)),[]⟩]
 .ret)
 (O [Bk 122 .eql 34 .u8 20,V 121 122]
 (.cond (.tmp 121)
 (O [V 123 10,V 124 11,⟨some 125,none,.q (.build [(.int .u8 0),(.int .i64 0),(.int .i64 0),(.int .i64 0)] [(0,1,(.tmp 123)),(2,1,(.tmp 124))]),[]⟩,⟨none,none,.e (.store 4 (.tmp 8) (.tmp 125)),[]⟩]
 .ret)
 (.seq (O [Bk 127 .eql 34 .u8 17,V 126 127]
 (.cond (.tmp 126)
 .skip
 (O [Bk 128 .eql 34 .u8 21,V 126 128]
 (.cond (.tmp 126)
 .skip
 (.ops [Bk 129 .eql 34 .u8 26,V 126 129])))))
 (.cond (.tmp 126)
 (O [V 130 10,V 131 11,⟨some 132,none,.q (.build [(.int .u8 0),(.int .i64 0),(.int .i64 0),(.int .i64 0)] [(0,1,(.tmp 130)),(1,1,(.tmp 131))]),[]⟩,⟨none,none,.e (.store 4 (.tmp 8) (.tmp 132)),[]⟩]
 .ret)
 (O [Bk 134 .eql 34 .u8 22,V 133 134]
 (.cond (.tmp 133)
 (O [V 135 10,V 136 11,V 137 12,⟨some 138,none,.q (.build [(.int .u8 0),(.int .i64 0),(.int .i64 0),(.int .i64 0)] [(0,1,(.tmp 135)),(1,1,(.tmp 136)),(3,1,(.tmp 137))]),[]⟩,⟨none,none,.e (.store 4 (.tmp 8) (.tmp 138)),[]⟩]
 .ret)
 (O [Bk 140 .eql 34 .u8 24,V 139 140]
 (.cond (.tmp 139)
 (O [V 141 10,V 142 1,Bk 143 .rem 142 .u8 3,Cv' 144 .i64 143,Bn 145 .sub 144 1,⟨some 146,none,.q (.build [(.int .u8 0),(.int .i64 0),(.int .i64 0),(.int .i64 0)] [(0,1,(.tmp 141)),(2,1,(.tmp 145))]),[]⟩,⟨none,none,.e (.store 4 (.tmp 8) (.tmp 146)),[]⟩]
 .ret)
 .skip))))))))))))))))))))))))))))))
 (O [V 147 10,⟨some 148,none,.q (.build [(.int .u8 0),(.int .i64 0),(.int .i64 0),(.int .i64 0)] [(0,1,(.tmp 147))]),[]⟩,⟨none,none,.e (.store 4 (.tmp 8) (.tmp 148)),[]⟩]
 .ret)))))))),[.cells 8 4],149⟩
theorem call_MkIns:qCh 13 c_MkIns 149:=fun hl k=>qBh (fn:=Proofs.Tryz.f13) (by kernel_rfl) (by kernel_rfl) (by kernel_rfl) (by kernel_rfl) hl k
def c_Make:AFn :=
⟨(O [⟨some 2,none,.e (.new [(.int .i64 0),(.int .i64 0),(.int .i64 0),(.slice none 0 0),(.int .i64 0),(.int .i64 0),(.slice none 0 0)] 7),[]⟩]
 (O [⟨some 12,none,.e (.lit [(.int .i64 0)] 1 1 [(0,1,(.const (.int .i64 1)))]),[]⟩,⟨some 13,none,.q (.build [(.int .i64 0),(.int .i64 0),(.int .i64 0),(.slice none 0 0),(.int .i64 0),(.int .i64 0),(.slice none 0 0)] [(0,1,(.const (.int .i64 2))),(1,1,(.const (.int .i64 1))),(2,1,(.const (.int .i64 1))),(3,1,(.tmp 12)),(4,1,(.const (.int .i64 1))),(5,1,(.const (.int .i64 1)))]),[]⟩,⟨some 3,none,.e (.new [(.int .i64 0),(.int .i64 0),(.int .i64 0),(.slice none 0 0),(.int .i64 0),(.int .i64 0),(.slice none 0 0)] 7),[]⟩,⟨none,none,.e (.store 7 (.tmp 3) (.tmp 13)),[]⟩]
 (O [V 14 0,Ln 15 14,⟨some 16,none,.q (.mm false (.tmp 15) [(.const (.int .i64 3))]),[]⟩,⟨some 17,none,.q (.mm true (.tmp 16) [(.const (.int .i64 1))]),[]⟩,V 4 17]
 (.seq (O [N 5 0]
 (.block 0 (.loop (.seq (O [V 18 5,V 19 4,B 20 .lss 18 19]
 (.cond (.tmp 20)
 .skip
 (.exit 0)))
 (.seq (.block 1 (O [E 6]
 (.seq (O [N 7 1]
 (.block 2 (.loop (.seq (O [V 23 7,V 24 4,B 25 .lss 23 24,V 26 25,Gd 26 true (V 27 5),Gd 26 true (Bn 28 .eql 27 0),Pk 29 26 28 false]
 (.cond (.tmp 29)
 .skip
 (.exit 2)))
 (.seq (.block 3 (.ops [V 32 6,V 33 7,⟨some 34,none,.q (.build [(.int .u8 0),(.int .i64 0),(.int .i64 0),(.int .i64 0)] [(0,1,(.const (.int .u8 12))),(1,1,(.tmp 33))]),[]⟩,⟨some 35,none,.e (.lit [(.int .u8 0),(.int .i64 0),(.int .i64 0),(.int .i64 0)] 4 1 [(0,4,(.tmp 34))]),[]⟩,Ap 36 4 32 35,V 6 36]))
 (.ops [V 30 7,Bn 31 .add 30 1,V 7 31]))))))
 (O [V 37 6,Ln 38 37,V 8 38]
 (O [E 9]
 (.seq (O [V 39 5,V 40 0,Ln 41 40,B 42 .lss 39 41]
 (.cond (.tmp 42)
 (.ops [V 43 0,V 44 5,X 45 1 43 44,L 46 45,V 9 46])
 .skip))
 (O [V 47 9,Ln 48 47,Bn 49 .quo 48 2,⟨some 50,none,.q (.mm false (.tmp 49) [(.const (.int .i64 9))]),[]⟩,V 10 50]
 (.seq (O [N 11 0]
 (.block 4 (.loop (.seq (O [V 51 11,V 52 10,B 53 .lss 51 52]
 (.cond (.tmp 53)
 .skip
 (.exit 4)))
 (.seq (.block 5 (.ops [V 56 6,V 57 9,V 58 11,⟨some 59,none,.q (.bin .mul (.const (.int .i64 2)) (.tmp 58)),[]⟩,X 60 1 57 59,L 61 60,V 62 9,V 63 11,⟨some 64,none,.q (.bin .mul (.const (.int .i64 2)) (.tmp 63)),[]⟩,Bn 65 .add 64 1,X 66 1 62 65,L 67 66,V 68 8,V 69 11,B 70 .add 68 69,V 71 8,V 72 10,B 73 .add 71 72,⟨some 74,none,.call 13 [(.tmp 61),(.tmp 67),(.tmp 70),(.tmp 73)],[]⟩,⟨some 75,none,.e (.lit [(.int .u8 0),(.int .i64 0),(.int .i64 0),(.int .i64 0)] 4 1 [(0,4,(.tmp 74))]),[]⟩,Ap 76 4 56 75,V 6 76]))
 (.ops [V 54 11,Bn 55 .add 54 1,V 11 55]))))))
 (.ops [FA 77 6 3,L 78 77,V 79 6,Z 4 79,⟨some 80,none,.e (.lit [(.slice none 0 0)] 1 1 [(0,1,(.tmp 79))]),[]⟩,Ap 81 1 78 80,FA 82 6 3,S 82 81])))))))))
 (.ops [V 21 5,Bn 22 .add 21 1,V 5 22]))))))
 (O [LA 83 7 3,⟨none,none,.e (.store 7 (.tmp 2) (.tmp 83)),[]⟩]
 .ret))))),[.cells 2 7],84⟩
theorem call_Make:qCh 6 c_Make 84:=fun hl k=>qBh (fn:=Proofs.Tryz.f6) (by kernel_rfl) (by kernel_rfl) (by kernel_rfl) (by kernel_rfl) hl k
end Pm

/- Codes of the program's functions, as a program printed them, and that they are what the program's functions are compiled to.
   No condition: plain facts. -/
namespace Pm
set_option linter.unusedSimpArgs false
set_option linter.unusedVariables false
open Go Am
set_option maxRecDepth 100000
@[irreducible] def z196:List Value:=[(.string ⟨#[]⟩),(.int .u8 0),(.int .u8 0),(.int .u8 0),(.bool false),(.bool false),(.bool false),(.string ⟨#[]⟩),(.int .u8 0),(.int .u8 0),(.int .u8 0),(.bool false),(.bool false),(.bool false),(.string ⟨#[]⟩),(.int .u8 0),(.int .u8 0),(.int .u8 0),(.bool false),(.bool false),(.bool false),(.string ⟨#[]⟩),(.int .u8 0),(.int .u8 0),(.int .u8 0),(.bool false),(.bool false),(.bool false),(.string ⟨#[]⟩),(.int .u8 0),(.int .u8 0),(.int .u8 0),(.bool false),(.bool false),(.bool false),(.string ⟨#[]⟩),(.int .u8 0),(.int .u8 0),(.int .u8 0),(.bool false),(.bool false),(.bool false),(.string ⟨#[]⟩),(.int .u8 0),(.int .u8 0),(.int .u8 0),(.bool false),(.bool false),(.bool false),(.string ⟨#[]⟩),(.int .u8 0),(.int .u8 0),(.int .u8 0),(.bool false),(.bool false),(.bool false),(.string ⟨#[]⟩),(.int .u8 0),(.int .u8 0),(.int .u8 0),(.bool false),(.bool false),(.bool false),(.string ⟨#[]⟩),(.int .u8 0),(.int .u8 0),(.int .u8 0),(.bool false),(.bool false),(.bool false),(.string ⟨#[]⟩),(.int .u8 0),(.int .u8 0),(.int .u8 0),(.bool false),(.bool false),(.bool false),(.string ⟨#[]⟩),(.int .u8 0),(.int .u8 0),(.int .u8 0),(.bool false),(.bool false),(.bool false),(.string ⟨#[]⟩),(.int .u8 0),(.int .u8 0),(.int .u8 0),(.bool false),(.bool false),(.bool false),(.string ⟨#[]⟩),(.int .u8 0),(.int .u8 0),(.int .u8 0),(.bool false),(.bool false),(.bool false),(.string ⟨#[]⟩),(.int .u8 0),(.int .u8 0),(.int .u8 0),(.bool false),(.bool false),(.bool false),(.string ⟨#[]⟩),(.int .u8 0),(.int .u8 0),(.int .u8 0),(.bool false),(.bool false),(.bool false),(.string ⟨#[]⟩),(.int .u8 0),(.int .u8 0),(.int .u8 0),(.bool false),(.bool false),(.bool false),(.string ⟨#[]⟩),(.int .u8 0),(.int .u8 0),(.int .u8 0),(.bool false),(.bool false),(.bool false),(.string ⟨#[]⟩),(.int .u8 0),(.int .u8 0),(.int .u8 0),(.bool false),(.bool false),(.bool false),(.string ⟨#[]⟩),(.int .u8 0),(.int .u8 0),(.int .u8 0),(.bool false),(.bool false),(.bool false),(.string ⟨#[]⟩),(.int .u8 0),(.int .u8 0),(.int .u8 0),(.bool false),(.bool false),(.bool false),(.string ⟨#[]⟩),(.int .u8 0),(.int .u8 0),(.int .u8 0),(.bool false),(.bool false),(.bool false),(.string ⟨#[]⟩),(.int .u8 0),(.int .u8 0),(.int .u8 0),(.bool false),(.bool false),(.bool false),(.string ⟨#[]⟩),(.int .u8 0),(.int .u8 0),(.int .u8 0),(.bool false),(.bool false),(.bool false),(.string ⟨#[]⟩),(.int .u8 0),(.int .u8 0),(.int .u8 0),(.bool false),(.bool false),(.bool false),(.string ⟨#[]⟩),(.int .u8 0),(.int .u8 0),(.int .u8 0),(.bool false),(.bool false),(.bool false),(.string ⟨#[]⟩),(.int .u8 0),(.int .u8 0),(.int .u8 0),(.bool false),(.bool false),(.bool false),(.string ⟨#[]⟩),(.int .u8 0),(.int .u8 0),(.int .u8 0),(.bool false),(.bool false),(.bool false)]
def c_shapes:AFn :=
⟨(O [⟨some 0,none,.e (.new [(.string ⟨#[]⟩),(.int .u8 0),(.int .u8 0),(.int .u8 0),(.bool false),(.bool false),(.bool false),(.string ⟨#[]⟩),(.int .u8 0),(.int .u8 0),(.int .u8 0),(.bool false),(.bool false),(.bool false),(.string ⟨#[]⟩),(.int .u8 0),(.int .u8 0),(.int .u8 0),(.bool false),(.bool false),(.bool false),(.string ⟨#[]⟩),(.int .u8 0),(.int .u8 0),(.int .u8 0),(.bool false),(.bool false),(.bool false),(.string ⟨#[]⟩),(.int .u8 0),(.int .u8 0),(.int .u8 0),(.bool false),(.bool false),(.bool false),(.string ⟨#[]⟩),(.int .u8 0),(.int .u8 0),(.int .u8 0),(.bool false),(.bool false),(.bool false),(.string ⟨#[]⟩),(.int .u8 0),(.int .u8 0),(.int .u8 0),(.bool false),(.bool false),(.bool false),(.string ⟨#[]⟩),(.int .u8 0),(.int .u8 0),(.int .u8 0),(.bool false),(.bool false),(.bool false),(.string ⟨#[]⟩),(.int .u8 0),(.int .u8 0),(.int .u8 0),(.bool false),(.bool false),(.bool false),(.string ⟨#[]⟩),(.int .u8 0),(.int .u8 0),(.int .u8 0),(.bool false),(.bool false),(.bool false),(.string ⟨#[]⟩),(.int .u8 0),(.int .u8 0),(.int .u8 0),(.bool false),(.bool false),(.bool false),(.string ⟨#[]⟩),(.int .u8 0),(.int .u8 0),(.int .u8 0),(.bool false),(.bool false),(.bool false),(.string ⟨#[]⟩),(.int .u8 0),(.int .u8 0),(.int .u8 0),(.bool false),(.bool false),(.bool false),(.string ⟨#[]⟩),(.int .u8 0),(.int .u8 0),(.int .u8 0),(.bool false),(.bool false),(.bool false),(.string ⟨#[]⟩),(.int .u8 0),(.int .u8 0),(.int .u8 0),(.bool false),(.bool false),(.bool false),(.string ⟨#[]⟩),(.int .u8 0),(.int .u8 0),(.int .u8 0),(.bool false),(.bool false),(.bool false),(.string ⟨#[]⟩),(.int .u8 0),(.int .u8 0),(.int .u8 0),(.bool false),(.bool false),(.bool false),(.string ⟨#[]⟩),(.int .u8 0),(.int .u8 0),(.int .u8 0),(.bool false),(.bool false),(.bool false),(.string ⟨#[]⟩),(.int .u8 0),(.int .u8 0),(.int .u8 0),(.bool false),(.bool false),(.bool false),(.string ⟨#[]⟩),(.int .u8 0),(.int .u8 0),(.int .u8 0),(.bool false),(.bool false),(.bool false),(.string ⟨#[]⟩),(.int .u8 0),(.int .u8 0),(.int .u8 0),(.bool false),(.bool false),(.bool false),(.string ⟨#[]⟩),(.int .u8 0),(.int .u8 0),(.int .u8 0),(.bool false),(.bool false),(.bool false),(.string ⟨#[]⟩),(.int .u8 0),(.int .u8 0),(.int .u8 0),(.bool false),(.bool false),(.bool false),(.string ⟨#[]⟩),(.int .u8 0),(.int .u8 0),(.int .u8 0),(.bool false),(.bool false),(.bool false),(.string ⟨#[]⟩),(.int .u8 0),(.int .u8 0),(.int .u8 0),(.bool false),(.bool false),(.bool false),(.string ⟨#[]⟩),(.int .u8 0),(.int .u8 0),(.int .u8 0),(.bool false),(.bool false),(.bool false),(.string ⟨#[]⟩),(.int .u8 0),(.int .u8 0),(.int .u8 0),(.bool false),(.bool false),(.bool false),(.string ⟨#[]⟩),(.int .u8 0),(.int .u8 0),(.int .u8 0),(.bool false),(.bool false),(.bool false)] 7),[]⟩]
 (O [⟨some 1,none,.q (.val (.func 141)),[]⟩]
 (O [⟨some 2,none,.q (.val (.func 142)),[]⟩]
 (O [⟨some 3,none,.q (.build [(.string ⟨#[]⟩),(.int .u8 0),(.int .u8 0),(.int .u8 0),(.bool false),(.bool false),(.bool false)] [(0,1,(.const (.string ⟨#[110,111,112]⟩))),(4,1,(.const (.bool true)))]),[]⟩,⟨some 4,none,.q (.build [(.int .u8 0),(.int .u8 0),(.int .u8 0)] [(0,1,(.const (.int .u8 2))),(1,1,(.const (.int .u8 1)))]),[]⟩,⟨some 5,none,.q (.build [(.string ⟨#[]⟩),(.int .u8 0),(.int .u8 0),(.int .u8 0),(.bool false),(.bool false),(.bool false)] [(0,1,(.const (.string ⟨#[99,111,110,115,116]⟩))),(1,3,(.tmp 4)),(4,1,(.const (.bool true)))]),[]⟩,⟨some 6,none,.q (.build [(.int .u8 0),(.int .u8 0),(.int .u8 0)] [(0,1,(.const (.int .u8 2))),(1,1,(.const (.int .u8 3)))]),[]⟩,⟨some 7,none,.q (.build [(.string ⟨#[]⟩),(.int .u8 0),(.int .u8 0),(.int .u8 0),(.bool false),(.bool false),(.bool false)] [(0,1,(.const (.string ⟨#[109,111,118,101]⟩))),(1,3,(.tmp 6)),(4,1,(.const (.bool true)))]),[]⟩,V 8 1,⟨some 9,none,.callv (.tmp 8) [(.const (.string ⟨#[97,100,100]⟩))],[]⟩,V 10 1,⟨some 11,none,.callv (.tmp 10) [(.const (.string ⟨#[115,117,98]⟩))],[]⟩,V 12 1,⟨some 13,none,.callv (.tmp 12) [(.const (.string ⟨#[109,117,108]⟩))],[]⟩,V 14 1,⟨some 15,none,.callv (.tmp 14) [(.const (.string ⟨#[108,101,115,115]⟩))],[]⟩,⟨some 16,none,.q (.build [(.int .u8 0),(.int .u8 0),(.int .u8 0)] [(0,1,(.const (.int .u8 2))),(1,1,(.const (.int .u8 4)))]),[]⟩,⟨some 17,none,.q (.build [(.string ⟨#[]⟩),(.int .u8 0),(.int .u8 0),(.int .u8 0),(.bool false),(.bool false),(.bool false)] [(0,1,(.const (.string ⟨#[108,111,97,100]⟩))),(1,3,(.tmp 16)),(4,1,(.const (.bool true)))]),[]⟩,⟨some 18,none,.q (.build [(.int .u8 0),(.int .u8 0),(.int .u8 0)] [(0,1,(.const (.int .u8 4))),(1,1,(.const (.int .u8 3)))]),[]⟩,⟨some 19,none,.q (.build [(.string ⟨#[]⟩),(.int .u8 0),(.int .u8 0),(.int .u8 0),(.bool false),(.bool false),(.bool false)] [(0,1,(.const (.string ⟨#[115,116,111,114,101]⟩))),(1,3,(.tmp 18)),(4,1,(.const (.bool true)))]),[]⟩,V 20 2,⟨some 21,none,.callv (.tmp 20) [(.const (.string ⟨#[112,114,105,110,116]⟩)),(.const (.int .u8 3)),(.const (.bool false)),(.const (.bool false))],[]⟩,V 22 2,⟨some 23,none,.callv (.tmp 22) [(.const (.string ⟨#[106,117,109,112]⟩)),(.const (.int .u8 5)),(.const (.bool false)),(.const (.bool false))],[]⟩,⟨some 24,none,.q (.build [(.int .u8 0),(.int .u8 0),(.int .u8 0)] [(0,1,(.const (.int .u8 3))),(1,1,(.const (.int .u8 5)))]),[]⟩,⟨some 25,none,.q (.build [(.string ⟨#[]⟩),(.int .u8 0),(.int .u8 0),(.int .u8 0),(.bool false),(.bool false),(.bool false)] [(0,1,(.const (.string ⟨#[122,101,114,111]⟩))),(1,3,(.tmp 24))]),[]⟩,V 26 2,⟨some 27,none,.callv (.tmp 26) [(.const (.string ⟨#[103,111]⟩)),(.const (.int .u8 6)),(.const (.bool false)),(.const (.bool true))],[]⟩,V 28 2,⟨some 29,none,.callv (.tmp 28) [(.const (.string ⟨#[108,111,99,107]⟩)),(.const (.int .u8 7)),(.const (.bool true)),(.const (.bool false))],[]⟩,V 30 2,⟨some 31,none,.callv (.tmp 30) [(.const (.string ⟨#[117,110,108,111,99,107]⟩)),(.const (.int .u8 7)),(.const (.bool false)),(.const (.bool true))],[]⟩,V 32 2,⟨some 33,none,.callv (.tmp 32) [(.const (.string ⟨#[114,108,111,99,107]⟩)),(.const (.int .u8 7)),(.const (.bool true)),(.const (.bool false))],[]⟩,V 34 2,⟨some 35,none,.callv (.tmp 34) [(.const (.string ⟨#[114,117,110,108,111,99,107]⟩)),(.const (.int .u8 7)),(.const (.bool false)),(.const (.bool true))],[]⟩,⟨some 36,none,.q (.build [(.int .u8 0),(.int .u8 0),(.int .u8 0)] [(0,1,(.const (.int .u8 2))),(1,1,(.const (.int .u8 8)))]),[]⟩,⟨some 37,none,.q (.build [(.string ⟨#[]⟩),(.int .u8 0),(.int .u8 0),(.int .u8 0),(.bool false),(.bool false),(.bool false)] [(0,1,(.const (.string ⟨#[114,101,97,100]⟩))),(1,3,(.tmp 36)),(5,1,(.const (.bool true)))]),[]⟩,⟨some 38,none,.q (.build [(.int .u8 0),(.int .u8 0),(.int .u8 0)] [(0,1,(.const (.int .u8 8))),(1,1,(.const (.int .u8 3)))]),[]⟩,⟨some 39,none,.q (.build [(.string ⟨#[]⟩),(.int .u8 0),(.int .u8 0),(.int .u8 0),(.bool false),(.bool false),(.bool false)] [(0,1,(.const (.string ⟨#[119,114,105,116,101]⟩))),(1,3,(.tmp 38)),(6,1,(.const (.bool true)))]),[]⟩,⟨some 40,none,.q (.build [(.int .u8 0),(.int .u8 0),(.int .u8 0)] [(0,1,(.const (.int .u8 2))),(1,1,(.const (.int .u8 8))),(2,1,(.const (.int .u8 3)))]),[]⟩,⟨some 41,none,.q (.build [(.string ⟨#[]⟩),(.int .u8 0),(.int .u8 0),(.int .u8 0),(.bool false),(.bool false),(.bool false)] [(0,1,(.const (.string ⟨#[98,117,109,112]⟩))),(1,3,(.tmp 40)),(5,1,(.const (.bool true))),(6,1,(.const (.bool true)))]),[]⟩,⟨some 42,none,.q (.build [(.int .u8 0),(.int .u8 0),(.int .u8 0)] [(0,1,(.const (.int .u8 9))),(1,1,(.const (.int .u8 3)))]),[]⟩,⟨some 43,none,.q (.build [(.string ⟨#[]⟩),(.int .u8 0),(.int .u8 0),(.int .u8 0),(.bool false),(.bool false),(.bool false)] [(0,1,(.const (.string ⟨#[115,101,110,100]⟩))),(1,3,(.tmp 42)),(5,1,(.const (.bool true))),(6,1,(.const (.bool true)))]),[]⟩,⟨some 44,none,.q (.build [(.int .u8 0),(.int .u8 0),(.int .u8 0)] [(0,1,(.const (.int .u8 2))),(1,1,(.const (.int .u8 9)))]),[]⟩,⟨some 45,none,.q (.build [(.string ⟨#[]⟩),(.int .u8 0),(.int .u8 0),(.int .u8 0),(.bool false),(.bool false),(.bool false)] [(0,1,(.const (.string ⟨#[114,101,99,118]⟩))),(1,3,(.tmp 44)),(5,1,(.const (.bool true))),(6,1,(.const (.bool true)))]),[]⟩,⟨some 46,none,.q (.build [(.int .u8 0),(.int .u8 0),(.int .u8 0)] [(0,1,(.const (.int .u8 2))),(1,1,(.const (.int .u8 9))),(2,1,(.const (.int .u8 2)))]),[]⟩,⟨some 47,none,.q (.build [(.string ⟨#[]⟩),(.int .u8 0),(.int .u8 0),(.int .u8 0),(.bool false),(.bool false),(.bool false)] [(0,1,(.const (.string ⟨#[112,111,108,108]⟩))),(1,3,(.tmp 46)),(5,1,(.const (.bool true))),(6,1,(.const (.bool true)))]),[]⟩,V 48 2,⟨some 49,none,.callv (.tmp 48) [(.const (.string ⟨#[99,108,111,115,101]⟩)),(.const (.int .u8 9)),(.const (.bool false)),(.const (.bool true))],[]⟩,⟨some 50,none,.q (.build [(.int .u8 0),(.int .u8 0),(.int .u8 0)] [(0,1,(.const (.int .u8 10))),(1,1,(.const (.int .u8 1)))]),[]⟩,⟨some 51,none,.q (.build [(.string ⟨#[]⟩),(.int .u8 0),(.int .u8 0),(.int .u8 0),(.bool false),(.bool false),(.bool false)] [(0,1,(.const (.string ⟨#[103,114,111,119]⟩))),(1,3,(.tmp 50)),(6,1,(.const (.bool true)))]),[]⟩,V 52 2,⟨some 53,none,.callv (.tmp 52) [(.const (.string ⟨#[119,97,105,116]⟩)),(.const (.int .u8 10)),(.const (.bool true)),(.const (.bool false))],[]⟩,⟨some 54,none,.q (.build [(.int .u8 0),(.int .u8 0),(.int .u8 0)] [(0,1,(.const (.int .u8 2))),(1,1,(.const (.int .u8 11)))]),[]⟩,⟨some 55,none,.q (.build [(.string ⟨#[]⟩),(.int .u8 0),(.int .u8 0),(.int .u8 0),(.bool false),(.bool false),(.bool false)] [(0,1,(.const (.string ⟨#[98,101,103,105,110]⟩))),(1,3,(.tmp 54)),(5,1,(.const (.bool true)))]),[]⟩,V 56 2,⟨some 57,none,.callv (.tmp 56) [(.const (.string ⟨#[101,110,100]⟩)),(.const (.int .u8 11)),(.const (.bool false)),(.const (.bool true))],[]⟩,⟨some 58,none,.q (.build [(.string ⟨#[]⟩),(.int .u8 0),(.int .u8 0),(.int .u8 0),(.bool false),(.bool false),(.bool false),(.string ⟨#[]⟩),(.int .u8 0),(.int .u8 0),(.int .u8 0),(.bool false),(.bool false),(.bool false),(.string ⟨#[]⟩),(.int .u8 0),(.int .u8 0),(.int .u8 0),(.bool false),(.bool false),(.bool false),(.string ⟨#[]⟩),(.int .u8 0),(.int .u8 0),(.int .u8 0),(.bool false),(.bool false),(.bool false),(.string ⟨#[]⟩),(.int .u8 0),(.int .u8 0),(.int .u8 0),(.bool false),(.bool false),(.bool false),(.string ⟨#[]⟩),(.int .u8 0),(.int .u8 0),(.int .u8 0),(.bool false),(.bool false),(.bool false),(.string ⟨#[]⟩),(.int .u8 0),(.int .u8 0),(.int .u8 0),(.bool false),(.bool false),(.bool false),(.string ⟨#[]⟩),(.int .u8 0),(.int .u8 0),(.int .u8 0),(.bool false),(.bool false),(.bool false),(.string ⟨#[]⟩),(.int .u8 0),(.int .u8 0),(.int .u8 0),(.bool false),(.bool false),(.bool false),(.string ⟨#[]⟩),(.int .u8 0),(.int .u8 0),(.int .u8 0),(.bool false),(.bool false),(.bool false),(.string ⟨#[]⟩),(.int .u8 0),(.int .u8 0),(.int .u8 0),(.bool false),(.bool false),(.bool false),(.string ⟨#[]⟩),(.int .u8 0),(.int .u8 0),(.int .u8 0),(.bool false),(.bool false),(.bool false),(.string ⟨#[]⟩),(.int .u8 0),(.int .u8 0),(.int .u8 0),(.bool false),(.bool false),(.bool false),(.string ⟨#[]⟩),(.int .u8 0),(.int .u8 0),(.int .u8 0),(.bool false),(.bool false),(.bool false),(.string ⟨#[]⟩),(.int .u8 0),(.int .u8 0),(.int .u8 0),(.bool false),(.bool false),(.bool false),(.string ⟨#[]⟩),(.int .u8 0),(.int .u8 0),(.int .u8 0),(.bool false),(.bool false),(.bool false),(.string ⟨#[]⟩),(.int .u8 0),(.int .u8 0),(.int .u8 0),(.bool false),(.bool false),(.bool false),(.string ⟨#[]⟩),(.int .u8 0),(.int .u8 0),(.int .u8 0),(.bool false),(.bool false),(.bool false),(.string ⟨#[]⟩),(.int .u8 0),(.int .u8 0),(.int .u8 0),(.bool false),(.bool false),(.bool false),(.string ⟨#[]⟩),(.int .u8 0),(.int .u8 0),(.int .u8 0),(.bool false),(.bool false),(.bool false),(.string ⟨#[]⟩),(.int .u8 0),(.int .u8 0),(.int .u8 0),(.bool false),(.bool false),(.bool false),(.string ⟨#[]⟩),(.int .u8 0),(.int .u8 0),(.int .u8 0),(.bool false),(.bool false),(.bool false),(.string ⟨#[]⟩),(.int .u8 0),(.int .u8 0),(.int .u8 0),(.bool false),(.bool false),(.bool false),(.string ⟨#[]⟩),(.int .u8 0),(.int .u8 0),(.int .u8 0),(.bool false),(.bool false),(.bool false),(.string ⟨#[]⟩),(.int .u8 0),(.int .u8 0),(.int .u8 0),(.bool false),(.bool false),(.bool false),(.string ⟨#[]⟩),(.int .u8 0),(.int .u8 0),(.int .u8 0),(.bool false),(.bool false),(.bool false),(.string ⟨#[]⟩),(.int .u8 0),(.int .u8 0),(.int .u8 0),(.bool false),(.bool false),(.bool false),(.string ⟨#[]⟩),(.int .u8 0),(.int .u8 0),(.int .u8 0),(.bool false),(.bool false),(.bool false)] [(0,7,(.tmp 3)),(7,7,(.tmp 5)),(14,7,(.tmp 7)),(21,7,(.tmp 9)),(28,7,(.tmp 11)),(35,7,(.tmp 13)),(42,7,(.tmp 15)),(49,7,(.tmp 17)),(56,7,(.tmp 19)),(63,7,(.tmp 21)),(70,7,(.tmp 23)),(77,7,(.tmp 25)),(84,7,(.tmp 27)),(91,7,(.tmp 29)),(98,7,(.tmp 31)),(105,7,(.tmp 33)),(112,7,(.tmp 35)),(119,7,(.tmp 37)),(126,7,(.tmp 39)),(133,7,(.tmp 41)),(140,7,(.tmp 43)),(147,7,(.tmp 45)),(154,7,(.tmp 47)),(161,7,(.tmp 49)),(168,7,(.tmp 51)),(175,7,(.tmp 53)),(182,7,(.tmp 55)),(189,7,(.tmp 57))]),[]⟩,⟨none,none,.e (.store 196 (.tmp 0) (.tmp 58)),[]⟩]
 .ret)))),[.cells 0 196],59⟩
theorem c_shapes_is:qCd Proofs.Tryz.prog Proofs.Tryz.f137=some (qCb c_shapes):=by kernel_rfl
def c_shapes1:AFn :=
⟨(O [⟨some 2,none,.e (.new [(.string ⟨#[]⟩),(.int .u8 0),(.int .u8 0),(.int .u8 0),(.bool false),(.bool false),(.bool false)] 7),[]⟩]
 (O [V 3 0,⟨some 4,none,.q (.build [(.int .u8 0),(.int .u8 0),(.int .u8 0)] [(0,1,(.const (.int .u8 2))),(1,1,(.const (.int .u8 3))),(2,1,(.const (.int .u8 3)))]),[]⟩,⟨some 5,none,.q (.build [(.string ⟨#[]⟩),(.int .u8 0),(.int .u8 0),(.int .u8 0),(.bool false),(.bool false),(.bool false)] [(0,1,(.tmp 3)),(1,3,(.tmp 4)),(4,1,(.const (.bool true))),(5,1,(.const (.bool false))),(6,1,(.const (.bool false)))]),[]⟩,⟨none,none,.e (.store 7 (.tmp 2) (.tmp 5)),[]⟩]
 .ret)),[.cells 2 7],6⟩
theorem c_shapes1_is:qCd Proofs.Tryz.prog Proofs.Tryz.f141=some (qCb c_shapes1):=by kernel_rfl
def c_shapes2:AFn :=
⟨(O [⟨some 8,none,.e (.new [(.string ⟨#[]⟩),(.int .u8 0),(.int .u8 0),(.int .u8 0),(.bool false),(.bool false),(.bool false)] 7),[]⟩]
 (O [V 9 0,V 10 1,⟨some 11,none,.q (.build [(.int .u8 0),(.int .u8 0),(.int .u8 0)] [(0,1,(.tmp 10))]),[]⟩,V 12 2,V 13 3,⟨some 14,none,.q (.build [(.string ⟨#[]⟩),(.int .u8 0),(.int .u8 0),(.int .u8 0),(.bool false),(.bool false),(.bool false)] [(0,1,(.tmp 9)),(1,3,(.tmp 11)),(4,1,(.const (.bool false))),(5,1,(.tmp 12)),(6,1,(.tmp 13))]),[]⟩,⟨none,none,.e (.store 7 (.tmp 8) (.tmp 14)),[]⟩]
 .ret)),[.cells 8 7],15⟩
theorem c_shapes2_is:qCd Proofs.Tryz.prog Proofs.Tryz.f142=some (qCb c_shapes2):=by kernel_rfl
def qTg:AFn :=
⟨(O [⟨some 2,none,.e (.new [(.string ⟨#[]⟩),(.int .u8 0),(.int .u8 0),(.int .u8 0),(.bool false),(.bool false),(.bool false)] 7),[]⟩,T 3 false]
 (O [⟨some 5,none,.call 137 [],[]⟩,⟨some 4,none,.e (.new z196 7),[]⟩,⟨none,none,.e (.store 196 (.tmp 4) (.tmp 5)),[]⟩]
 (.seq (O [V 6 0,Cv' 7 .i64 6,Bn 8 .geq 7 28]
 (.cond (.tmp 8)
 (O [⟨some 9,none,.q (.build [(.string ⟨#[]⟩),(.int .u8 0),(.int .u8 0),(.int .u8 0),(.bool false),(.bool false),(.bool false)] []),[]⟩,⟨none,none,.e (.store 7 (.tmp 2) (.tmp 9)),[]⟩,T 3 false]
 .ret)
 .skip))
 (O [V 10 0,⟨some 11,none,.q (.idxP 28 7 (.tmp 4) (.tmp 10)),[]⟩,LA 12 7 11,⟨none,none,.e (.store 7 (.tmp 2) (.tmp 12)),[]⟩,T 3 true]
 .ret)))),[.cells 2 7,.tmp 3],13⟩
theorem c_irOf_is:qCd Proofs.Tryz.prog Proofs.Tryz.f128=some (qCb qTg):=by kernel_rfl
theorem call_irOf:qCh 128 qTg 13:=fun hl k=>qBh (by kernel_rfl) (by kernel_rfl) c_irOf_is (by kernel_rfl) hl k
def qJu:AFn :=
⟨(O [⟨some 2,none,.e (.box 4 4 (.tmp 0)),[]⟩,⟨some 4,none,.q (.val (.const (.int .u64 0))),[]⟩]
 (O [FA 11 0 2,L 12 11,⟨some 13,none,.call 128 [(.tmp 12)],[]⟩,V 10 13,⟨some 14,none,.q (.ext (.tmp 10) 0),[]⟩,⟨some 15,none,.q (.ext (.tmp 10) 1),[]⟩,⟨some 5,none,.e (.new [(.string ⟨#[]⟩),(.int .u8 0),(.int .u8 0),(.int .u8 0),(.bool false),(.bool false),(.bool false)] 7),[]⟩,⟨none,none,.e (.store 7 (.tmp 5) (.tmp 14)),[]⟩,V 6 15]
 (O [⟨some 7,none,.q (.val (.const (.int .u64 0))),[]⟩]
 (.seq (O [FA 16 1 2,L 17 16,FA 18 2 2,L 19 18,FA 20 3 2,L 21 20,⟨some 22,none,.q (.build [(.int .i64 0),(.int .i64 0),(.int .i64 0)] [(0,1,(.tmp 17)),(1,1,(.tmp 19)),(2,1,(.tmp 21))]),[]⟩,N 23 0]
 (.block 0 (.loop (O [Bn 24 .lss 23 3]
 (.seq (.cond (.tmp 24)
 .skip
 (.exit 0))
 (.seq (.block 1 (O [V 25 23,⟨some 26,none,.q (.idx none 3 1 (.tmp 22) (.tmp 23)),[]⟩,V 8 25,V 9 26]
 (O [V 27 8,FA 28 1 5,⟨some 29,none,.q (.idxP 3 1 (.tmp 28) (.tmp 27)),[]⟩,L 30 29,V 31 1,B 32 .eql 30 31]
 (.cond (.tmp 32)
 (.ops [V 33 7,V 34 9,⟨some 35,none,.e (.lit [(.int .i64 0)] 1 1 [(0,1,(.tmp 34))]),[]⟩,Z 1 35,⟨some 36,none,.call 19 [(.tmp 33),(.tmp 35)],[]⟩,V 7 36])
 .skip))))
 (.ops [Bn 37 .add 23 1,V 23 37])))))))
 (O [V 38 7,V 4 38]
 .ret))))),[.tmp 4],39⟩
theorem c_registers_is:qCd Proofs.Tryz.prog Proofs.Tryz.f93=some (qCb qJu):=by kernel_rfl
theorem call_registers:qCh 93 qJu 39:=fun hl k=>qBh (by kernel_rfl) (by kernel_rfl) c_registers_is (by kernel_rfl) hl k
def qPz:AFn :=
⟨(O [⟨some 1,none,.e (.box 4 4 (.tmp 0)),[]⟩,⟨some 2,none,.q (.val (.const (.int .u64 0))),[]⟩]
 (O [LA 3 4 1,⟨some 4,none,.call 93 [(.tmp 3),(.const (.int .u8 2))],[]⟩,V 2 4]
 .ret)),[.tmp 2],5⟩
theorem c_irSets_is:qCd Proofs.Tryz.prog Proofs.Tryz.f51=some (qCb qPz):=by kernel_rfl
theorem call_irSets:qCh 51 qPz 5:=fun hl k=>qBh (by kernel_rfl) (by kernel_rfl) c_irSets_is (by kernel_rfl) hl k
def qTh:AFn :=
⟨(O [T 4 false]
 (O [V 5 0,V 6 1,⟨some 7,none,.call 44 [(.tmp 6)],[]⟩,B 8 .and 5 7,Bk 9 .neq 8 .u64 0,V 4 9]
 .ret)),[.tmp 4],10⟩
theorem c_bHas_is:qCd Proofs.Tryz.prog Proofs.Tryz.f50=some (qCb qTh):=by kernel_rfl
theorem call_bHas:qCh 50 qTh 10:=fun hl k=>qBh (by kernel_rfl) (by kernel_rfl) c_bHas_is (by kernel_rfl) hl k
def qQe:AFn :=
⟨(O [⟨some 1,none,.e (.box 4 4 (.tmp 0)),[]⟩,⟨some 2,none,.q (.val (.const (.int .u64 0))),[]⟩]
 (O [LA 3 4 1,⟨some 4,none,.call 112 [(.tmp 3),(.const (.int .i64 2))],[]⟩,V 2 4]
 .ret)),[.tmp 2],5⟩
theorem c_R2Sets_is:qCd Proofs.Tryz.prog Proofs.Tryz.f75=some (qCb qQe):=by kernel_rfl
theorem call_R2Sets:qCh 75 qQe 5:=fun hl k=>qBh (by kernel_rfl) (by kernel_rfl) c_R2Sets_is (by kernel_rfl) hl k
def qTj:AFn :=
⟨(O [⟨some 2,none,.e (.box 4 4 (.tmp 0)),[]⟩,⟨some 4,none,.q (.val (.const (.int .u64 0))),[]⟩]
 (O [⟨some 5,none,.q (.val (.const (.int .u64 0))),[]⟩]
 (O [FA 9 0 2,L 10 9,⟨some 11,none,.call 59 [(.tmp 10)],[]⟩,V 6 11]
 (O [LA 12 4 2,⟨some 13,none,.call 60 [(.tmp 12)],[]⟩,V 7 13]
 (.seq (O [N 8 0]
 (.block 0 (.loop (.seq (O [V 14 8,Bn 15 .lss 14 3]
 (.cond (.tmp 15)
 .skip
 (.exit 0)))
 (.seq (.block 1 (O [V 18 6,V 19 8,X 20 1 18 19,L 21 20,V 22 1,B 23 .eql 21 22]
 (.cond (.tmp 23)
 (.ops [V 24 5,V 25 7,V 26 8,X 27 1 25 26,L 28 27,⟨some 29,none,.e (.lit [(.int .i64 0)] 1 1 [(0,1,(.tmp 28))]),[]⟩,Z 1 29,⟨some 30,none,.call 109 [(.tmp 24),(.tmp 29)],[]⟩,V 5 30])
 .skip)))
 (.ops [V 16 8,Bn 17 .add 16 1,V 8 17]))))))
 (O [V 31 5,V 4 31]
 .ret)))))),[.tmp 4],32⟩
theorem c_R2of_is:qCd Proofs.Tryz.prog Proofs.Tryz.f112=some (qCb qTj):=by kernel_rfl
theorem call_R2of:qCh 112 qTj 32:=fun hl k=>qBh (by kernel_rfl) (by kernel_rfl) c_R2of_is (by kernel_rfl) hl k
def qQc:AFn :=
⟨(O [E 2]
 (.seq (O [V 3 0]
 (.block 0 (O [Bk 5 .eql 3 .u8 1,V 4 5]
 (.cond (.tmp 4)
 (O [⟨some 6,none,.e (.lit [(.int .i64 0),(.int .i64 0),(.int .i64 0)] 1 3 [(0,1,(.const (.int .i64 2))),(1,1,(.const (.int .i64 1))),(2,1,(.const (.int .i64 0)))]),[]⟩,V 2 6]
 .ret)
 (O [Bk 8 .eql 3 .u8 2,V 7 8]
 (.cond (.tmp 7)
 (O [⟨some 9,none,.e (.lit [(.int .i64 0),(.int .i64 0),(.int .i64 0)] 1 3 [(0,1,(.const (.int .i64 2))),(1,1,(.const (.int .i64 3))),(2,1,(.const (.int .i64 0)))]),[]⟩,V 2 9]
 .ret)
 (.seq (O [Bk 11 .eql 3 .u8 3,V 10 11]
 (.cond (.tmp 10)
 .skip
 (O [Bk 12 .eql 3 .u8 4,V 10 12]
 (.cond (.tmp 10)
 .skip
 (O [Bk 13 .eql 3 .u8 5,V 10 13]
 (.cond (.tmp 10)
 .skip
 (.ops [Bk 14 .eql 3 .u8 6,V 10 14])))))))
 (.cond (.tmp 10)
 (O [⟨some 15,none,.e (.lit [(.int .i64 0),(.int .i64 0),(.int .i64 0)] 1 3 [(0,1,(.const (.int .i64 2))),(1,1,(.const (.int .i64 3))),(2,1,(.const (.int .i64 3)))]),[]⟩,V 2 15]
 .ret)
 (O [Bk 17 .eql 3 .u8 7,V 16 17]
 (.cond (.tmp 16)
 (O [⟨some 18,none,.e (.lit [(.int .i64 0),(.int .i64 0),(.int .i64 0)] 1 3 [(0,1,(.const (.int .i64 2))),(1,1,(.const (.int .i64 4))),(2,1,(.const (.int .i64 0)))]),[]⟩,V 2 18]
 .ret)
 (O [Bk 20 .eql 3 .u8 8,V 19 20]
 (.cond (.tmp 19)
 (O [⟨some 21,none,.e (.lit [(.int .i64 0),(.int .i64 0),(.int .i64 0)] 1 3 [(0,1,(.const (.int .i64 4))),(1,1,(.const (.int .i64 3))),(2,1,(.const (.int .i64 0)))]),[]⟩,V 2 21]
 .ret)
 (O [Bk 23 .eql 3 .u8 9,V 22 23]
 (.cond (.tmp 22)
 (O [⟨some 24,none,.e (.lit [(.int .i64 0),(.int .i64 0),(.int .i64 0)] 1 3 [(0,1,(.const (.int .i64 3))),(1,1,(.const (.int .i64 0))),(2,1,(.const (.int .i64 0)))]),[]⟩,V 2 24]
 .ret)
 (O [Bk 26 .eql 3 .u8 10,V 25 26]
 (.cond (.tmp 25)
 (O [⟨some 27,none,.e (.lit [(.int .i64 0),(.int .i64 0),(.int .i64 0)] 1 3 [(0,1,(.const (.int .i64 5))),(1,1,(.const (.int .i64 0))),(2,1,(.const (.int .i64 0)))]),[]⟩,V 2 27]
 .ret)
 (O [Bk 29 .eql 3 .u8 11,V 28 29]
 (.cond (.tmp 28)
 (O [⟨some 30,none,.e (.lit [(.int .i64 0),(.int .i64 0),(.int .i64 0)] 1 3 [(0,1,(.const (.int .i64 3))),(1,1,(.const (.int .i64 5))),(2,1,(.const (.int .i64 0)))]),[]⟩,V 2 30]
 .ret)
 (O [Bk 32 .eql 3 .u8 12,V 31 32]
 (.cond (.tmp 31)
 (O [⟨some 33,none,.e (.lit [(.int .i64 0),(.int .i64 0),(.int .i64 0)] 1 3 [(0,1,(.const (.int .i64 6))),(1,1,(.const (.int .i64 0))),(2,1,(.const (.int .i64 0)))]),[]⟩,V 2 33]
 .ret)
 (.seq (O [Bk 35 .eql 3 .u8 13,V 34 35]
 (.cond (.tmp 34)
 .skip
 (O [Bk 36 .eql 3 .u8 14,V 34 36]
 (.cond (.tmp 34)
 .skip
 (O [Bk 37 .eql 3 .u8 15,V 34 37]
 (.cond (.tmp 34)
 .skip
 (.ops [Bk 38 .eql 3 .u8 16,V 34 38])))))))
 (.cond (.tmp 34)
 (O [⟨some 39,none,.e (.lit [(.int .i64 0),(.int .i64 0),(.int .i64 0)] 1 3 [(0,1,(.const (.int .i64 7))),(1,1,(.const (.int .i64 0))),(2,1,(.const (.int .i64 0)))]),[]⟩,V 2 39]
 .ret)
 (O [Bk 41 .eql 3 .u8 17,V 40 41]
 (.cond (.tmp 40)
 (O [⟨some 42,none,.e (.lit [(.int .i64 0),(.int .i64 0),(.int .i64 0)] 1 3 [(0,1,(.const (.int .i64 2))),(1,1,(.const (.int .i64 8))),(2,1,(.const (.int .i64 0)))]),[]⟩,V 2 42]
 .ret)
 (O [Bk 44 .eql 3 .u8 18,V 43 44]
 (.cond (.tmp 43)
 (O [⟨some 45,none,.e (.lit [(.int .i64 0),(.int .i64 0),(.int .i64 0)] 1 3 [(0,1,(.const (.int .i64 8))),(1,1,(.const (.int .i64 3))),(2,1,(.const (.int .i64 0)))]),[]⟩,V 2 45]
 .ret)
 (O [Bk 47 .eql 3 .u8 19,V 46 47]
 (.cond (.tmp 46)
 (O [⟨some 48,none,.e (.lit [(.int .i64 0),(.int .i64 0),(.int .i64 0)] 1 3 [(0,1,(.const (.int .i64 2))),(1,1,(.const (.int .i64 8))),(2,1,(.const (.int .i64 3)))]),[]⟩,V 2 48]
 .ret)
 (O [Bk 50 .eql 3 .u8 20,V 49 50]
 (.cond (.tmp 49)
 (O [⟨some 51,none,.e (.lit [(.int .i64 0),(.int .i64 0),(.int .i64 0)] 1 3 [(0,1,(.const (.int .i64 9))),(1,1,(.const (.int .i64 3))),(2,1,(.const (.int .i64 0)))]),[]⟩,V 2 51]
 .ret)
 (O [Bk 53 .eql 3 .u8 21,V 52 53]
 (.cond (.tmp 52)
 (O [⟨some 54,none,.e (.lit [(.int .i64 0),(.int .i64 0),(.int .i64 0)] 1 3 [(0,1,(.const (.int .i64 2))),(1,1,(.const (.int .i64 9))),(2,1,(.const (.int .i64 0)))]),[]⟩,V 2 54]
 .ret)
 (O [Bk 56 .eql 3 .u8 22,V 55 56]
 (.cond (.tmp 55)
 (O [⟨some 57,none,.e (.lit [(.int .i64 0),(.int .i64 0),(.int .i64 0)] 1 3 [(0,1,(.const (.int .i64 2))),(1,1,(.const (.int .i64 9))),(2,1,(.const (.int .i64 2)))]),[]⟩,V 2 57]
 .ret)
 (O [Bk 59 .eql 3 .u8 23,V 58 59]
 (.cond (.tmp 58)
 (O [⟨some 60,none,.e (.lit [(.int .i64 0),(.int .i64 0),(.int .i64 0)] 1 3 [(0,1,(.const (.int .i64 9))),(1,1,(.const (.int .i64 0))),(2,1,(.const (.int .i64 0)))]),[]⟩,V 2 60]
 .ret)
 (O [Bk 62 .eql 3 .u8 24,V 61 62]
 (.cond (.tmp 61)
 (O [⟨some 63,none,.e (.lit [(.int .i64 0),(.int .i64 0),(.int .i64 0)] 1 3 [(0,1,(.const (.int .i64 10))),(1,1,(.const (.int .i64 1))),(2,1,(.const (.int .i64 0)))]),[]⟩,V 2 63]
 .ret)
 (O [Bk 65 .eql 3 .u8 25,V 64 65]
 (.cond (.tmp 64)
 (O [⟨some 66,none,.e (.lit [(.int .i64 0),(.int .i64 0),(.int .i64 0)] 1 3 [(0,1,(.const (.int .i64 10))),(1,1,(.const (.int .i64 0))),(2,1,(.const (.int .i64 0)))]),[]⟩,V 2 66]
 .ret)
 (O [Bk 68 .eql 3 .u8 26,V 67 68]
 (.cond (.tmp 67)
 (O [⟨some 69,none,.e (.lit [(.int .i64 0),(.int .i64 0),(.int .i64 0)] 1 3 [(0,1,(.const (.int .i64 2))),(1,1,(.const (.int .i64 11))),(2,1,(.const (.int .i64 0)))]),[]⟩,V 2 69]
 .ret)
 (O [Bk 71 .eql 3 .u8 27,V 70 71]
 (.cond (.tmp 70)
 (O [⟨some 72,none,.e (.lit [(.int .i64 0),(.int .i64 0),(.int .i64 0)] 1 3 [(0,1,(.const (.int .i64 11))),(1,1,(.const (.int .i64 0))),(2,1,(.const (.int .i64 0)))]),[]⟩,V 2 72]
 .ret)
 .skip))))))))))))))))))))))))))))))))))))))))))))
 (O [⟨some 73,none,.e (.lit [(.int .i64 0),(.int .i64 0),(.int .i64 0)] 1 3 [(0,1,(.const (.int .i64 0))),(1,1,(.const (.int .i64 0))),(2,1,(.const (.int .i64 0)))]),[]⟩,V 2 73]
 .ret))),[.tmp 2],74⟩
theorem c_R2row_is:qCd Proofs.Tryz.prog Proofs.Tryz.f59=some (qCb qQc):=by kernel_rfl
theorem call_R2row:qCh 59 qQc 74:=fun hl k=>qBh (by kernel_rfl) (by kernel_rfl) c_R2row_is (by kernel_rfl) hl k
def qRq:AFn :=
⟨(O [⟨some 1,none,.e (.box 4 4 (.tmp 0)),[]⟩,E 2]
 (O [FA 3 1 1,L 4 3,FA 5 2 1,L 6 5,FA 7 3 1,L 8 7,⟨some 9,none,.e (.lit [(.int .i64 0),(.int .i64 0),(.int .i64 0)] 1 3 [(0,1,(.tmp 4)),(1,1,(.tmp 6)),(2,1,(.tmp 8))]),[]⟩,V 2 9]
 .ret)),[.tmp 2],10⟩
theorem c_R2num_is:qCd Proofs.Tryz.prog Proofs.Tryz.f60=some (qCb qRq):=by kernel_rfl
theorem call_R2num:qCh 60 qRq 10:=fun hl k=>qBh (by kernel_rfl) (by kernel_rfl) c_R2num_is (by kernel_rfl) hl k
end Pm

/- Codes of the program's functions, as a program printed them, and that they are what the program's functions are compiled to.
   No condition: plain facts. -/
namespace Pm
set_option linter.unusedSimpArgs false
set_option linter.unusedVariables false
open Go Am
set_option maxRecDepth 100000
def qQl:AFn :=
⟨(O [E 2]
 (.seq (O [V 3 0,⟨some 4,none,.nilT false (.tmp 3),[]⟩]
 (.cond (.tmp 4)
 (O [E 2]
 .ret)
 .skip))
 (O [⟨some 5,none,.e (.lit [] 1 0 []),[]⟩,V 6 0,Ap 7 1 5 6,V 2 7]
 .ret))),[.tmp 2],8⟩
theorem c_Clone1_is:qCd Proofs.Tryz.prog Proofs.Tryz.f80=some (qCb qQl):=by kernel_rfl
theorem call_Clone1:qCh 80 qQl 8:=fun hl k=>qBh (by kernel_rfl) (by kernel_rfl) c_Clone1_is (by kernel_rfl) hl k
def qQk:AFn :=
⟨(O [E 2]
 (.seq (O [V 3 0,⟨some 4,none,.nilT false (.tmp 3),[]⟩]
 (.cond (.tmp 4)
 (O [E 2]
 .ret)
 .skip))
 (O [⟨some 5,none,.e (.lit [] 4 0 []),[]⟩,V 6 0,Ap 7 4 5 6,V 2 7]
 .ret))),[.tmp 2],8⟩
theorem c_Clone4_is:qCd Proofs.Tryz.prog Proofs.Tryz.f58=some (qCb qQk):=by kernel_rfl
theorem call_Clone4:qCh 58 qQk 8:=fun hl k=>qBh (by kernel_rfl) (by kernel_rfl) c_Clone4_is (by kernel_rfl) hl k
def qQh:AFn :=
⟨(O [E 4]
 (O [V 8 0,V 9 1,⟨some 10,none,.call 20 [(.tmp 8),(.tmp 9)],[]⟩,V 5 10]
 (.seq (O [V 11 5,Bn 12 .eql 11 (-1)]
 (.cond (.tmp 12)
 (O [V 13 0,V 4 13]
 .ret)
 .skip))
 (.seq (O [V 14 5,Bn 15 .add 14 1,V 6 15]
 (.block 0 (.loop (.seq (O [V 16 6,V 17 0,Ln 18 17,B 19 .lss 16 18]
 (.cond (.tmp 19)
 .skip
 (.exit 0)))
 (.seq (.block 1 (O [V 22 0,V 23 6,X 24 1 22 23,L 25 24,V 7 25]
 (O [V 26 1,V 27 7,⟨some 28,none,.callv (.tmp 26) [(.tmp 27)],[]⟩,Nt 29 28]
 (.cond (.tmp 29)
 (O [V 30 0,V 31 5,V 32 7,X 33 1 30 31,S 33 32]
 (.ops [V 34 5,Bn 35 .add 34 1,V 5 35]))
 .skip))))
 (.ops [V 20 6,Bn 21 .add 20 1,V 6 21]))))))
 (O [V 36 0,V 37 5,⟨some 38,none,.q (.cut 1 (.tmp 36) (some (.tmp 37)) none),[]⟩,⟨none,none,.e (.clear [(.int .i64 0)] (.tmp 38)),[]⟩]
 (O [V 39 0,V 40 5,⟨some 41,none,.q (.cut 1 (.tmp 39) none (some (.tmp 40))),[]⟩,V 4 41]
 .ret)))))),[.tmp 4],42⟩
theorem c_DelF1_is:qCd Proofs.Tryz.prog Proofs.Tryz.f79=some (qCb qQh):=by kernel_rfl
theorem call_DelF1:qCh 79 qQh 42:=fun hl k=>qBh (by kernel_rfl) (by kernel_rfl) c_DelF1_is (by kernel_rfl) hl k
def qQg:AFn :=
⟨(O [N 4 0]
 (.seq (O [V 6 0,Ln 7 6,N 8 0]
 (.block 0 (.loop (O [B 9 .lss 8 7]
 (.seq (.cond (.tmp 9)
 .skip
 (.exit 0))
 (.seq (.block 1 (O [V 10 8,V 5 10]
 (O [V 11 1,V 12 0,V 13 5,X 14 1 12 13,L 15 14,⟨some 16,none,.callv (.tmp 11) [(.tmp 15)],[]⟩]
 (.cond (.tmp 16)
 (O [V 17 5,V 4 17]
 .ret)
 .skip))))
 (.ops [Bn 18 .add 8 1,V 8 18])))))))
 (O [N 4 (-1)]
 .ret))),[.tmp 4],19⟩
theorem c_IdxF1_is:qCd Proofs.Tryz.prog Proofs.Tryz.f20=some (qCb qQg):=by kernel_rfl
theorem call_IdxF1:qCh 20 qQg 19:=fun hl k=>qBh (by kernel_rfl) (by kernel_rfl) c_IdxF1_is (by kernel_rfl) hl k
end Pm

/- Codes of the program's functions, as a program printed them, and that they are what the program's functions are compiled to.
   No condition: plain facts. -/
namespace Pm
set_option linter.unusedSimpArgs false
set_option linter.unusedVariables false
open Go Am
set_option maxRecDepth 100000
def qPy:AFn :=
⟨(O [⟨some 1,none,.e (.box 4 4 (.tmp 0)),[]⟩,⟨some 2,none,.q (.val (.const (.int .u64 0))),[]⟩]
 (O [LA 3 4 1,⟨some 4,none,.call 93 [(.tmp 3),(.const (.int .u8 3))],[]⟩,V 2 4]
 .ret)),[.tmp 2],5⟩
theorem c_irUses_is:qCd Proofs.Tryz.prog Proofs.Tryz.f54=some (qCb qPy):=by kernel_rfl
theorem call_irUses:qCh 54 qPy 5:=fun hl k=>qBh (by kernel_rfl) (by kernel_rfl) c_irUses_is (by kernel_rfl) hl k
def qQd:AFn :=
⟨(O [⟨some 1,none,.e (.box 4 4 (.tmp 0)),[]⟩,⟨some 2,none,.q (.val (.const (.int .u64 0))),[]⟩]
 (O [LA 3 4 1,⟨some 4,none,.call 112 [(.tmp 3),(.const (.int .i64 3))],[]⟩,V 2 4]
 .ret)),[.tmp 2],5⟩
theorem c_R2Uses_is:qCd Proofs.Tryz.prog Proofs.Tryz.f76=some (qCb qQd):=by kernel_rfl
theorem call_R2Uses:qCh 76 qQd 5:=fun hl k=>qBh (by kernel_rfl) (by kernel_rfl) c_R2Uses_is (by kernel_rfl) hl k
end Pm

/- Codes of the program's functions, as a program printed them, and that they are what the program's functions are compiled to.
   No condition: plain facts. -/
namespace Pm
set_option linter.unusedSimpArgs false
set_option linter.unusedVariables false
open Go Am
set_option maxRecDepth 100000
def qPq:AFn :=
⟨(O [E 2]
 (O [E 3]
 (.seq (O [N 4 0]
 (.block 0 (.loop (.seq (O [V 5 4,V 6 0,B 7 .lss 5 6]
 (.cond (.tmp 7)
 .skip
 (.exit 0)))
 (.seq (.block 1 (.ops [V 10 3,V 11 4,⟨some 12,none,.e (.lit [(.int .i64 0)] 1 1 [(0,1,(.tmp 11))]),[]⟩,Ap 13 1 10 12,V 3 13]))
 (.ops [V 8 4,Bn 9 .add 8 1,V 4 9]))))))
 (O [V 14 3,V 2 14]
 .ret)))),[.tmp 2],15⟩
theorem c_r16Own_is:qCd Proofs.Tryz.prog Proofs.Tryz.f35=some (qCb qPq):=by kernel_rfl
theorem call_r16Own:qCh 35 qPq 15:=fun hl k=>qBh (by kernel_rfl) (by kernel_rfl) c_r16Own_is (by kernel_rfl) hl k
def qIi:AFn :=
⟨(O [T 4 false]
 (.seq (O [V 6 0,Ln 7 6,V 8 1,Ln 9 8,B 10 .neq 7 9]
 (.cond (.tmp 10)
 (O [T 4 false]
 .ret)
 .skip))
 (.seq (O [N 5 0]
 (.block 0 (.loop (.seq (O [V 11 5,V 12 0,Ln 13 12,B 14 .lss 11 13]
 (.cond (.tmp 14)
 .skip
 (.exit 0)))
 (.seq (.block 1 (O [V 17 0,V 18 5,X 19 4 17 18,LA 20 4 19,V 21 1,V 22 5,X 23 4 21 22,LA 24 4 23,⟨some 25,none,.q (.eqA [0,0,0,0] true (.tmp 20) (.tmp 24)),[]⟩]
 (.cond (.tmp 25)
 (O [T 4 false]
 .ret)
 .skip)))
 (.ops [V 15 5,Bn 16 .add 15 1,V 5 16]))))))
 (O [T 4 true]
 .ret)))),[.tmp 4],26⟩
theorem c_R2SameCode_is:qCd Proofs.Tryz.prog Proofs.Tryz.f15=some (qCb qIi):=by kernel_rfl
theorem call_R2SameCode:qCh 15 qIi 26:=fun hl k=>qBh (by kernel_rfl) (by kernel_rfl) c_R2SameCode_is (by kernel_rfl) hl k
end Pm

/- Codes of the program's functions, as a program printed them, and that they are what the program's functions are compiled to.
   No condition: plain facts. -/
namespace Pm
set_option linter.unusedSimpArgs false
set_option linter.unusedVariables false
open Go Am
set_option maxRecDepth 100000
def qNk:AFn :=
⟨(O [E 2]
 (O [V 7 0,Ln 8 7,⟨some 9,none,.e (.make [(.bool false)] 1 (.tmp 8) (.tmp 8)),[]⟩,⟨some 3,none,.e (.new [(.slice none 0 0)] 1),[]⟩,S 3 9]
 (O [⟨some 10,none,.q (.fn (.func 127) [(.tmp 3)]),[]⟩,V 4 10]
 (O [V 11 4,⟨some 12,none,.callv (.tmp 11) [(.const (.int .i64 0))],[]⟩]
 (.seq (O [V 13 0,Ln 14 13,N 15 0]
 (.block 0 (.loop (O [B 16 .lss 15 14]
 (.seq (.cond (.tmp 16)
 .skip
 (.exit 0))
 (.seq (.block 1 (O [V 17 15,X 18 4 13 15,LA 19 4 18,⟨some 6,none,.e (.new [(.int .u8 0),(.int .i64 0),(.int .i64 0),(.int .i64 0)] 4),[]⟩,V 5 17,⟨none,none,.e (.store 4 (.tmp 6) (.tmp 19)),[]⟩]
 (.seq (O [FA 20 0 6,L 21 20]
 (.block 2 (O [Bk 23 .eql 21 .u8 10,V 22 23]
 (.cond (.tmp 22)
 (.ops [V 24 4,FA 25 1 6,L 26 25,⟨some 27,none,.callv (.tmp 24) [(.tmp 26)],[]⟩])
 (O [Bk 29 .eql 21 .u8 11,V 28 29]
 (.cond (.tmp 28)
 (.ops [V 30 4,FA 31 2 6,L 32 31,⟨some 33,none,.callv (.tmp 30) [(.tmp 32)],[]⟩])
 .skip))))))
 (O [FA 34 0 6,L 35 34,⟨some 36,none,.call 92 [(.tmp 35)],[]⟩,Nt 37 36]
 (.cond (.tmp 37)
 (O [V 38 4,V 39 5,⟨some 40,none,.callv (.tmp 38) [(.tmp 39)],[]⟩]
 (.ops [V 41 4,V 42 5,Bn 43 .add 42 1,⟨some 44,none,.callv (.tmp 41) [(.tmp 43)],[]⟩]))
 .skip)))))
 (.ops [Bn 45 .add 15 1,V 15 45])))))))
 (O [L 46 3,V 2 46]
 .ret)))))),[.tmp 2],47⟩
theorem c_sgHeads_is:qCd Proofs.Tryz.prog Proofs.Tryz.f87=some (qCb qNk):=by kernel_rfl
theorem call_sgHeads:qCh 87 qNk 47:=fun hl k=>qBh (by kernel_rfl) (by kernel_rfl) c_sgHeads_is (by kernel_rfl) hl k
def qKh:AFn :=
⟨(O [V 3 0,Bn 4 .geq 3 0,V 5 4,Gd 5 true (V 6 0),Gd 5 true (L 7 1),Gd 5 true (Ln 8 7),Gd 5 true (B 9 .lss 6 8),Pk 10 5 9 false]
 (.cond (.tmp 10)
 (.ops [L 11 1,V 12 0,X 13 1 11 12,⟨none,none,.e (.store 1 (.tmp 13) (.const (.bool true))),[]⟩])
 .skip)),[],14⟩
theorem c_sgMark_is:qCd Proofs.Tryz.prog Proofs.Tryz.f127=some (qCb qKh):=by kernel_rfl
theorem call_sgMark:qCh 127 qKh 14:=fun hl k=>qBh (by kernel_rfl) (by kernel_rfl) c_sgMark_is (by kernel_rfl) hl k
def qIg:AFn :=
⟨(O [T 4 false]
 (O [V 5 1,Bn 6 .geq 5 0,V 7 6,Gd 7 true (V 8 1),Gd 7 true (V 9 0),Gd 7 true (Ln 10 9),Gd 7 true (B 11 .lss 8 10),Pk 12 7 11 false,V 4 12]
 .ret)),[.tmp 4],13⟩
theorem c_sgThere_is:qCd Proofs.Tryz.prog Proofs.Tryz.f86=some (qCb qIg):=by kernel_rfl
theorem call_sgThere:qCh 86 qIg 13:=fun hl k=>qBh (by kernel_rfl) (by kernel_rfl) c_sgThere_is (by kernel_rfl) hl k
def qTi:AFn :=
⟨(O [V 4 0,Ln 5 4,Bn 6 .sub 5 1,N 2 0,V 3 6]
 (.block 0 (.loop (.seq (O [V 7 2,V 8 3,B 9 .lss 7 8]
 (.cond (.tmp 9)
 .skip
 (.exit 0)))
 (.seq (.block 1 (.ops [V 14 0,V 15 2,V 16 0,V 17 3,V 18 0,V 19 3,X 20 1 18 19,L 21 20,V 22 0,V 23 2,X 24 1 22 23,L 25 24,X 26 1 14 15,S 26 21,X 27 1 16 17,S 27 25]))
 (.ops [V 10 2,Bn 11 .add 10 1,V 12 3,Bn 13 .sub 12 1,V 2 11,V 3 13])))))),[],28⟩
theorem c_RevB_is:qCd Proofs.Tryz.prog Proofs.Tryz.f88=some (qCb qTi):=by kernel_rfl
theorem call_RevB:qCh 88 qTi 28:=fun hl k=>qBh (by kernel_rfl) (by kernel_rfl) c_RevB_is (by kernel_rfl) hl k
def qTk:AFn :=
⟨(O [N 4 0]
 (.seq (O [V 6 0,Ln 7 6,N 8 0]
 (.block 0 (.loop (O [B 9 .lss 8 7]
 (.seq (.cond (.tmp 9)
 .skip
 (.exit 0))
 (.seq (.block 1 (O [V 10 8,V 5 10]
 (O [V 11 1,V 12 0,V 13 5,X 14 1 12 13,L 15 14,⟨some 16,none,.q (.eqB false (.tmp 11) (.tmp 15)),[]⟩]
 (.cond (.tmp 16)
 (O [V 17 5,V 4 17]
 .ret)
 .skip))))
 (.ops [Bn 18 .add 8 1,V 8 18])))))))
 (O [N 4 (-1)]
 .ret))),[.tmp 4],19⟩
theorem c_IdxB_is:qCd Proofs.Tryz.prog Proofs.Tryz.f89=some (qCb qTk):=by kernel_rfl
theorem call_IdxB:qCh 89 qTk 19:=fun hl k=>qBh (by kernel_rfl) (by kernel_rfl) c_IdxB_is (by kernel_rfl) hl k
def qPn:AFn :=
⟨(O [N 4 0]
 (.seq (O [V 6 0,V 7 1,⟨some 8,none,.call 86 [(.tmp 6),(.tmp 7)],[]⟩,Nt 9 8]
 (.cond (.tmp 9)
 (O [V 10 1,V 4 10]
 .ret)
 .skip))
 (O [V 11 0,⟨some 12,none,.call 87 [(.tmp 11)],[]⟩,V 13 1,Bn 14 .add 13 1,⟨some 15,none,.q (.cut 1 (.tmp 12) none (some (.tmp 14))),[]⟩,V 5 15]
 (O [V 16 5,⟨some 17,none,.call 88 [(.tmp 16)],[]⟩]
 (O [V 18 1,V 19 5,⟨some 20,none,.call 89 [(.tmp 19),(.const (.bool true))],[]⟩,B 21 .sub 18 20,V 4 21]
 .ret))))),[.tmp 4],22⟩
theorem c_sgHead_is:qCd Proofs.Tryz.prog Proofs.Tryz.f45=some (qCb qPn):=by kernel_rfl
theorem call_sgHead:qCh 45 qPn 22:=fun hl k=>qBh (by kernel_rfl) (by kernel_rfl) c_sgHead_is (by kernel_rfl) hl k
def qNn:AFn :=
⟨(O [⟨some 2,none,.e (.box 1 1 (.tmp 0)),[]⟩,⟨some 3,none,.e (.box 1 1 (.tmp 1)),[]⟩,E 4]
 (O [L 5 2,⟨some 6,none,.q (.ptrCk (.tmp 5)),[]⟩,FA 7 1 6,L 8 7,L 9 3,X 10 1 8 9,L 11 10,⟨some 13,none,.q (.fn (.func 81) [(.tmp 2),(.tmp 3)]),[]⟩,⟨some 12,none,.call 80 [(.tmp 11)],[]⟩,⟨some 14,none,.call 79 [(.tmp 12),(.tmp 13)],[]⟩,V 4 14]
 .ret)),[.tmp 4],15⟩
theorem c_lpBacks_is:qCd Proofs.Tryz.prog Proofs.Tryz.f39=some (qCb qNn):=by kernel_rfl
theorem call_lpBacks:qCh 39 qNn 15:=fun hl k=>qBh (by kernel_rfl) (by kernel_rfl) c_lpBacks_is (by kernel_rfl) hl k
def qPs:AFn :=
⟨(O [T 4 false]
 (O [L 5 1,⟨some 6,none,.q (.ptrCk (.tmp 5)),[]⟩,FA 7 3 6,L 8 7,V 9 0,X 10 1 8 9,L 11 10,Nt 12 11,V 13 12,Gd 13 false (L 14 1),⟨some 15,some (13,false),.q (.ptrCk (.tmp 14)),[]⟩,Gd 13 false (FA 16 2 15),Gd 13 false (L 17 16),Gd 13 false (V 18 0),Gd 13 false (X 19 1 17 18),Gd 13 false (L 20 19),Gd 13 false (L 21 2),⟨some 22,some (13,false),.call 50 [(.tmp 20),(.tmp 21)],[]⟩,Gd 13 false (Nt 23 22),⟨some 24,none,.q (.pick (.tmp 13) (.const (.bool true)) (.tmp 23)),[]⟩,V 4 24]
 .ret)),[.tmp 4],25⟩
theorem c_lpBk1_is:qCd Proofs.Tryz.prog Proofs.Tryz.f81=some (qCb qPs):=by kernel_rfl
theorem call_lpBk1:qCh 81 qPs 25:=fun hl k=>qBh (by kernel_rfl) (by kernel_rfl) c_lpBk1_is (by kernel_rfl) hl k
def qPr:AFn :=
⟨(O [⟨some 6,none,.q (.val (.const (.int .u64 0))),[]⟩]
 (O [V 9 1,⟨some 10,none,.e (.lit [(.int .i64 0)] 1 1 [(0,1,(.tmp 9))]),[]⟩,Z 1 10,⟨some 11,none,.call 19 [(.const (.int .u64 0)),(.tmp 10)],[]⟩,V 7 11]
 (.seq (.block 0 (.loop (.seq (O [V 12 2,Ln 13 12,Bn 14 .gtr 13 0]
 (.cond (.tmp 14)
 .skip
 (.exit 0)))
 (.block 1 (O [V 15 2,V 16 2,Ln 17 16,Bn 18 .sub 17 1,X 19 1 15 18,L 20 19,V 8 20]
 (O [V 21 2,V 22 2,Ln 23 22,Bn 24 .sub 23 1,⟨some 25,none,.q (.cut 1 (.tmp 21) none (some (.tmp 24))),[]⟩,V 2 25]
 (.seq (O [V 26 7,V 27 8,⟨some 28,none,.call 50 [(.tmp 26),(.tmp 27)],[]⟩,V 29 28,Gd 29 false (V 30 0),⟨some 31,some (29,false),.q (.ptrCk (.tmp 30)),[]⟩,Gd 29 false (FA 32 3 31),Gd 29 false (L 33 32),Gd 29 false (V 34 8),Gd 29 false (X 35 1 33 34),Gd 29 false (L 36 35),Gd 29 false (Nt 37 36),⟨some 38,none,.q (.pick (.tmp 29) (.const (.bool true)) (.tmp 37)),[]⟩]
 (.cond (.tmp 38)
 (.exit 1)
 .skip))
 (O [V 39 7,V 40 8,⟨some 41,none,.e (.lit [(.int .i64 0)] 1 1 [(0,1,(.tmp 40))]),[]⟩,Z 1 41,⟨some 42,none,.call 19 [(.tmp 39),(.tmp 41)],[]⟩,V 7 42]
 (.ops [V 43 2,V 44 0,⟨some 45,none,.q (.ptrCk (.tmp 44)),[]⟩,FA 46 1 45,L 47 46,V 48 8,X 49 1 47 48,L 50 49,Ap 51 1 43 50,V 2 51])))))))))
 (O [V 52 7,V 6 52]
 .ret)))),[.tmp 6],53⟩
theorem c_lpBody_is:qCd Proofs.Tryz.prog Proofs.Tryz.f41=some (qCb qPr):=by kernel_rfl
theorem call_lpBody:qCh 41 qPr 53:=fun hl k=>qBh (by kernel_rfl) (by kernel_rfl) c_lpBody_is (by kernel_rfl) hl k
def qTf:AFn :=
⟨(O [E 2]
 (.seq (O [V 7 0,Ln 8 7,Bn 9 .gtr 8 64]
 (.cond (.tmp 9)
 (O [E 2]
 .ret)
 .skip))
 (O [V 10 0,V 11 0,⟨some 12,none,.call 36 [(.tmp 11)],[]⟩,V 13 0,⟨some 14,none,.call 37 [(.tmp 13)],[]⟩,V 15 0,⟨some 16,none,.call 38 [(.tmp 15)],[]⟩,⟨some 17,none,.q (.build [(.slice none 0 0),(.slice none 0 0),(.slice none 0 0),(.slice none 0 0)] [(0,1,(.tmp 10)),(1,1,(.tmp 12)),(2,1,(.tmp 14)),(3,1,(.tmp 16))]),[]⟩,⟨some 18,none,.e (.box 4 4 (.tmp 17)),[]⟩,V 3 18]
 (O [E 4]
 (.seq (O [V 19 0,Ln 20 19,N 21 0]
 (.block 0 (.loop (O [B 22 .lss 21 20]
 (.seq (.cond (.tmp 22)
 .skip
 (.exit 0))
 (.seq (.block 1 (O [V 23 21,V 5 23]
 (O [V 24 3,V 25 5,⟨some 26,none,.call 39 [(.tmp 24),(.tmp 25)],[]⟩,V 6 26]
 (O [V 27 6,Ln 28 27,Bn 29 .gtr 28 0]
 (.cond (.tmp 29)
 (.ops [V 30 4,V 31 5,V 32 3,V 33 5,V 34 6,⟨some 35,none,.call 41 [(.tmp 32),(.tmp 33),(.tmp 34)],[]⟩,⟨some 36,none,.call 40 [(.tmp 35)],[]⟩,⟨some 37,none,.q (.build [(.int .i64 0),(.slice none 0 0)] [(0,1,(.tmp 31)),(1,1,(.tmp 36))]),[]⟩,⟨some 38,none,.e (.lit [(.int .i64 0),(.slice none 0 0)] 2 1 [(0,2,(.tmp 37))]),[]⟩,Ap 39 2 30 38,V 4 39])
 .skip)))))
 (.ops [Bn 40 .add 21 1,V 21 40])))))))
 (O [V 41 4,V 2 41]
 .ret)))))),[.tmp 2],42⟩
theorem c_lpOf_is:qCd Proofs.Tryz.prog Proofs.Tryz.f17=some (qCb qTf):=by kernel_rfl
theorem call_lpOf:qCh 17 qTf 42:=fun hl k=>qBh (by kernel_rfl) (by kernel_rfl) c_lpOf_is (by kernel_rfl) hl k
def qQj:AFn :=
⟨(O [T 4 false]
 (O [V 5 0,V 6 1,⟨some 7,none,.call 20 [(.tmp 5),(.tmp 6)],[]⟩,Bn 8 .geq 7 0,V 4 8]
 .ret)),[.tmp 4],9⟩
theorem c_ContF1_is:qCd Proofs.Tryz.prog Proofs.Tryz.f90=some (qCb qQj):=by kernel_rfl
theorem call_ContF1:qCh 90 qQj 9:=fun hl k=>qBh (by kernel_rfl) (by kernel_rfl) c_ContF1_is (by kernel_rfl) hl k
def qQi:AFn :=
⟨(O [T 4 false]
 (O [V 5 0,V 6 1,⟨some 7,none,.call 94 [(.tmp 5),(.tmp 6)],[]⟩,Bn 8 .geq 7 0,V 4 8]
 .ret)),[.tmp 4],9⟩
theorem c_ContF4_is:qCd Proofs.Tryz.prog Proofs.Tryz.f52=some (qCb qQi):=by kernel_rfl
theorem call_ContF4:qCh 52 qQi 9:=fun hl k=>qBh (by kernel_rfl) (by kernel_rfl) c_ContF4_is (by kernel_rfl) hl k
def qRr:AFn :=
⟨(O [N 4 0]
 (.seq (O [V 6 0,Ln 7 6,N 8 0]
 (.block 0 (.loop (O [B 9 .lss 8 7]
 (.seq (.cond (.tmp 9)
 .skip
 (.exit 0))
 (.seq (.block 1 (O [V 10 8,V 5 10]
 (O [V 11 1,V 12 0,V 13 5,X 14 4 12 13,LA 15 4 14,⟨some 16,none,.callv (.tmp 11) [(.tmp 15)],[]⟩]
 (.cond (.tmp 16)
 (O [V 17 5,V 4 17]
 .ret)
 .skip))))
 (.ops [Bn 18 .add 8 1,V 8 18])))))))
 (O [N 4 (-1)]
 .ret))),[.tmp 4],19⟩
theorem c_IdxF4_is:qCd Proofs.Tryz.prog Proofs.Tryz.f94=some (qCb qRr):=by kernel_rfl
theorem call_IdxF4:qCh 94 qRr 19:=fun hl k=>qBh (by kernel_rfl) (by kernel_rfl) c_IdxF4_is (by kernel_rfl) hl k
def qRp:AFn :=
⟨(O [⟨some 2,none,.e (.box 1 1 (.tmp 0)),[]⟩,⟨some 3,none,.e (.box 1 1 (.tmp 1)),[]⟩,T 4 false]
 (O [L 5 2,⟨some 6,none,.q (.ptrCk (.tmp 5)),[]⟩,FA 7 2 6,L 8 7,⟨some 9,none,.call 40 [(.tmp 8)],[]⟩,⟨some 10,none,.q (.fn (.func 91) [(.tmp 3),(.tmp 2)]),[]⟩,Z 1 9,⟨some 11,none,.call 90 [(.tmp 9),(.tmp 10)],[]⟩,V 4 11]
 .ret)),[.tmp 4],12⟩
theorem c_lfAny_is:qCd Proofs.Tryz.prog Proofs.Tryz.f47=some (qCb qRp):=by kernel_rfl
theorem call_lfAny:qCh 47 qRp 12:=fun hl k=>qBh (by kernel_rfl) (by kernel_rfl) c_lfAny_is (by kernel_rfl) hl k
def qPx:AFn :=
⟨(O [T 4 false]
 (O [L 5 1,V 6 0,L 7 2,⟨some 8,none,.q (.ptrCk (.tmp 7)),[]⟩,FA 9 0 8,L 10 9,V 11 0,X 12 4 10 11,LA 13 4 12,⟨some 14,none,.callv (.tmp 5) [(.tmp 6),(.tmp 13)],[]⟩,V 4 14]
 .ret)),[.tmp 4],15⟩
theorem c_lfAny1_is:qCd Proofs.Tryz.prog Proofs.Tryz.f91=some (qCb qPx):=by kernel_rfl
theorem call_lfAny1:qCh 91 qPx 15:=fun hl k=>qBh (by kernel_rfl) (by kernel_rfl) c_lfAny1_is (by kernel_rfl) hl k
def qNo:AFn :=
⟨(O [T 2 false]
 (O [V 3 0,⟨some 4,none,.call 92 [(.tmp 3)],[]⟩,V 5 4,Gd 5 false (V 6 0),Gd 5 false (Bk 7 .eql 6 .u8 10),⟨some 8,none,.q (.pick (.tmp 5) (.const (.bool true)) (.tmp 7)),[]⟩,V 9 8,Gd 9 false (V 10 0),Gd 9 false (Bk 11 .eql 10 .u8 11),⟨some 12,none,.q (.pick (.tmp 9) (.const (.bool true)) (.tmp 11)),[]⟩,V 13 12,Gd 13 false (V 14 0),Gd 13 false (Bk 15 .eql 14 .u8 9),⟨some 16,none,.q (.pick (.tmp 13) (.const (.bool true)) (.tmp 15)),[]⟩,V 2 16]
 .ret)),[.tmp 2],17⟩
theorem c_lfQuiet_is:qCd Proofs.Tryz.prog Proofs.Tryz.f49=some (qCb qNo):=by kernel_rfl
theorem call_lfQuiet:qCh 49 qNo 17:=fun hl k=>qBh (by kernel_rfl) (by kernel_rfl) c_lfQuiet_is (by kernel_rfl) hl k
def qLi:AFn :=
⟨(O [T 2 false]
 (O [V 3 0,⟨some 4,none,.q (.ptrCk (.tmp 3)),[]⟩,FA 5 2 4,L 6 5,V 7 0,⟨some 8,none,.q (.ptrCk (.tmp 7)),[]⟩,FA 9 1 8,L 10 9,Bn 11 .sub 10 1,⟨some 12,none,.call 50 [(.tmp 6),(.tmp 11)],[]⟩,V 13 12,Gd 13 true (V 14 0),⟨some 15,some (13,true),.q (.ptrCk (.tmp 14)),[]⟩,Gd 13 true (FA 16 0 15),Gd 13 true (L 17 16),Gd 13 true (V 18 0),⟨some 19,some (13,true),.q (.ptrCk (.tmp 18)),[]⟩,Gd 13 true (FA 20 1 19),Gd 13 true (L 21 20),Gd 13 true (Bn 22 .sub 21 1),Gd 13 true (X 23 4 17 22),Gd 13 true (FA 24 0 23),Gd 13 true (L 25 24),Gd 13 true (Bk 26 .neq 25 .u8 10),Pk 27 13 26 false,V 2 27]
 .ret)),[.tmp 2],28⟩
theorem c_lfClosed_is:qCd Proofs.Tryz.prog Proofs.Tryz.f46=some (qCb qLi):=by kernel_rfl
theorem call_lfClosed:qCh 46 qLi 28:=fun hl k=>qBh (by kernel_rfl) (by kernel_rfl) c_lfClosed_is (by kernel_rfl) hl k
def qNp:AFn :=
⟨(O [⟨some 3,none,.e (.box 1 1 (.tmp 1)),[]⟩,T 4 false]
 (O [V 6 0,⟨some 7,none,.q (.ptrCk (.tmp 6)),[]⟩,FA 8 0 7,L 9 8,L 10 3,X 11 4 9 10,LA 12 4 11,⟨some 5,none,.e (.new [(.int .u8 0),(.int .i64 0),(.int .i64 0),(.int .i64 0)] 4),[]⟩,⟨none,none,.e (.store 4 (.tmp 5) (.tmp 12)),[]⟩]
 (.seq (O [FA 13 0 5,L 14 13,Bk 15 .neq 14 .u8 7,V 16 15,Gd 16 false (V 17 0),⟨some 18,some (16,false),.q (.ptrCk (.tmp 17)),[]⟩,Gd 16 false (FA 19 1 18),Gd 16 false (L 20 19),Gd 16 false (L 21 3),Gd 16 false (B 22 .gtr 20 21),⟨some 23,none,.q (.pick (.tmp 16) (.const (.bool true)) (.tmp 22)),[]⟩,V 24 23,Gd 24 false (V 25 0),⟨some 26,some (24,false),.q (.ptrCk (.tmp 25)),[]⟩,Gd 24 false (FA 27 0 26),Gd 24 false (L 28 27),Gd 24 false (L 29 3),Gd 24 false (V 31 0),⟨some 32,some (24,false),.q (.ptrCk (.tmp 31)),[]⟩,Gd 24 false (FA 33 1 32),Gd 24 false (L 34 33),⟨some 30,some (24,false),.call 45 [(.tmp 28),(.tmp 29)],[.load (.tmp 33)]⟩,Gd 24 false (B 35 .neq 30 34),⟨some 36,none,.q (.pick (.tmp 24) (.const (.bool true)) (.tmp 35)),[]⟩,V 37 36,Gd 37 false (V 38 0),⟨some 39,some (37,false),.call 46 [(.tmp 38)],[]⟩,⟨some 40,none,.q (.pick (.tmp 37) (.const (.bool true)) (.tmp 39)),[]⟩]
 (.cond (.tmp 40)
 (O [T 4 false]
 .ret)
 .skip))
 (.seq (O [V 41 0,⟨some 42,none,.q (.fn (.func 48) [(.tmp 5),(.tmp 3)]),[]⟩,⟨some 43,none,.call 47 [(.tmp 41),(.tmp 42)],[]⟩]
 (.cond (.tmp 43)
 (O [T 4 false]
 .ret)
 .skip))
 (O [V 44 0,⟨some 45,none,.q (.ptrCk (.tmp 44)),[]⟩,FA 46 0 45,L 47 46,V 48 0,⟨some 49,none,.q (.ptrCk (.tmp 48)),[]⟩,FA 50 1 49,L 51 50,L 52 3,⟨some 53,none,.q (.cut 4 (.tmp 47) (some (.tmp 51)) (some (.tmp 52))),[]⟩,⟨some 54,none,.q (.fn (.func 53) [(.tmp 5)]),[]⟩,Z 4 53,⟨some 55,none,.call 52 [(.tmp 53),(.tmp 54)],[]⟩,Nt 56 55,V 4 56]
 .ret))))),[.tmp 4],57⟩
theorem c_lfMay_is:qCd Proofs.Tryz.prog Proofs.Tryz.f21=some (qCb qNp):=by kernel_rfl
theorem call_lfMay:qCh 21 qNp 57:=fun hl k=>qBh (by kernel_rfl) (by kernel_rfl) c_lfMay_is (by kernel_rfl) hl k
def qPv:AFn :=
⟨(O [⟨some 5,none,.e (.box 4 4 (.tmp 1)),[]⟩,T 6 false]
 (O [FA 7 0 5,L 8 7,⟨some 9,none,.call 49 [(.tmp 8)],[]⟩,Nt 10 9,V 11 10,Gd 11 false (FA 12 0 5),Gd 11 false (L 13 12),Gd 11 false (Bk 14 .eql 13 .u8 8),Gd 11 false (V 15 14),Gd 15 true (FA 16 1 5),Gd 15 true (L 17 16),Gd 15 true (FA 18 2 2),Gd 15 true (L 19 18),Gd 15 true (B 20 .eql 17 19),Gd 11 false (Pk 21 15 20 false),⟨some 22,none,.q (.pick (.tmp 11) (.const (.bool true)) (.tmp 21)),[]⟩,V 23 22,Gd 23 false (V 24 0),Gd 23 false (L 25 3),Gd 23 false (B 26 .neq 24 25),Gd 23 false (V 27 26),Gd 27 true (LA 28 4 5),Gd 27 true (FA 30 1 2),Gd 27 true (L 31 30),⟨some 29,some (27,true),.call 51 [(.tmp 28)],[.load (.tmp 30)]⟩,⟨some 32,some (27,true),.call 50 [(.tmp 29),(.tmp 31)],[]⟩,Gd 23 false (Pk 33 27 32 false),⟨some 34,none,.q (.pick (.tmp 23) (.const (.bool true)) (.tmp 33)),[]⟩,V 6 34]
 .ret)),[.tmp 6],35⟩
theorem c_lfMay1_is:qCd Proofs.Tryz.prog Proofs.Tryz.f48=some (qCb qPv):=by kernel_rfl
theorem call_lfMay1:qCh 48 qPv 35:=fun hl k=>qBh (by kernel_rfl) (by kernel_rfl) c_lfMay1_is (by kernel_rfl) hl k
def qPu:AFn :=
⟨(O [⟨some 2,none,.e (.box 4 4 (.tmp 0)),[]⟩,T 3 false]
 (O [LA 4 4 2,FA 6 1 1,L 7 6,⟨some 5,none,.call 54 [(.tmp 4)],[.load (.tmp 6)]⟩,⟨some 8,none,.call 50 [(.tmp 5),(.tmp 7)],[]⟩,V 3 8]
 .ret)),[.tmp 3],9⟩
theorem c_lfMay2_is:qCd Proofs.Tryz.prog Proofs.Tryz.f53=some (qCb qPu):=by kernel_rfl
theorem call_lfMay2:qCh 53 qPu 9:=fun hl k=>qBh (by kernel_rfl) (by kernel_rfl) c_lfMay2_is (by kernel_rfl) hl k
def qIh:AFn :=
⟨(O [⟨some 3,none,.e (.box 1 1 (.tmp 0)),[]⟩,⟨some 4,none,.e (.box 1 1 (.tmp 1)),[]⟩,⟨some 5,none,.e (.box 4 4 (.tmp 2)),[]⟩,⟨some 6,none,.e (.new [(.int .u8 0),(.int .i64 0),(.int .i64 0),(.int .i64 0)] 4),[]⟩]
 (O [⟨some 8,none,.q (.fn (.func 95) [(.tmp 3),(.tmp 4)]),[]⟩,V 7 8]
 (.seq (O [FA 9 0 5,L 10 9]
 (.block 0 (O [Bk 12 .eql 10 .u8 10,V 11 12]
 (.cond (.tmp 11)
 (.ops [V 13 7,FA 14 1 5,L 15 14,⟨some 16,none,.callv (.tmp 13) [(.tmp 15)],[]⟩,FA 17 1 5,S 17 16])
 (O [Bk 19 .eql 10 .u8 11,V 18 19]
 (.cond (.tmp 18)
 (.ops [V 20 7,FA 21 2 5,L 22 21,⟨some 23,none,.callv (.tmp 20) [(.tmp 22)],[]⟩,FA 24 2 5,S 24 23])
 .skip))))))
 (O [LA 25 4 5,⟨none,none,.e (.store 4 (.tmp 6) (.tmp 25)),[]⟩]
 .ret)))),[.cells 6 4],26⟩
theorem c_lfMoved_is:qCd Proofs.Tryz.prog Proofs.Tryz.f55=some (qCb qIh):=by kernel_rfl
theorem call_lfMoved:qCh 55 qIh 26:=fun hl k=>qBh (by kernel_rfl) (by kernel_rfl) c_lfMoved_is (by kernel_rfl) hl k
def qFv:AFn :=
⟨(O [N 4 0]
 (.seq (O [V 5 0,L 6 1,⟨some 7,none,.q (.ptrCk (.tmp 6)),[]⟩,FA 8 1 7,L 9 8,B 10 .gtr 5 9,V 11 10,Gd 11 false (V 12 0),Gd 11 false (L 13 1),⟨some 14,some (11,false),.q (.ptrCk (.tmp 13)),[]⟩,Gd 11 false (FA 15 1 14),Gd 11 false (L 16 15),Gd 11 false (B 17 .eql 12 16),Gd 11 false (V 18 17),Gd 18 true (L 19 1),⟨some 20,some (18,true),.q (.ptrCk (.tmp 19)),[]⟩,Gd 18 true (FA 21 2 20),Gd 18 true (L 22 21),Gd 18 true (L 23 2),⟨some 24,some (18,true),.call 50 [(.tmp 22),(.tmp 23)],[]⟩,Gd 11 false (Pk 25 18 24 false),⟨some 26,none,.q (.pick (.tmp 11) (.const (.bool true)) (.tmp 25)),[]⟩]
 (.cond (.tmp 26)
 (O [V 27 0,Bn 28 .add 27 1,V 4 28]
 .ret)
 .skip))
 (O [V 29 0,V 4 29]
 .ret))),[.tmp 4],30⟩
theorem c_lfMoved1_is:qCd Proofs.Tryz.prog Proofs.Tryz.f95=some (qCb qFv):=by kernel_rfl
theorem call_lfMoved1:qCh 95 qFv 30:=fun hl k=>qBh (by kernel_rfl) (by kernel_rfl) c_lfMoved1_is (by kernel_rfl) hl k
def qPw:AFn :=
⟨(O [⟨some 4,none,.e (.new [(.slice none 0 0),(.slice none 0 0)] 2),[]⟩]
 (O [V 8 0,⟨some 9,none,.q (.ptrCk (.tmp 8)),[]⟩,FA 10 0 9,L 11 10,⟨some 12,none,.call 23 [(.tmp 11)],[]⟩,⟨some 5,none,.e (.new [(.slice none 0 0),(.slice none 0 0)] 2),[]⟩,⟨none,none,.e (.store 2 (.tmp 5) (.tmp 12)),[]⟩]
 (.seq (O [FA 13 0 5,L 14 13,Ln 15 14,N 16 0]
 (.block 0 (.loop (O [B 17 .lss 16 15]
 (.seq (.cond (.tmp 17)
 .skip
 (.exit 0))
 (.seq (.block 1 (O [V 18 16,X 19 4 14 16,LA 20 4 19,⟨some 7,none,.e (.new [(.int .u8 0),(.int .i64 0),(.int .i64 0),(.int .i64 0)] 4),[]⟩,V 6 18,⟨none,none,.e (.store 4 (.tmp 7) (.tmp 20)),[]⟩]
 (.ops [FA 21 0 5,L 22 21,V 23 6,V 24 0,V 25 6,LA 26 4 7,⟨some 27,none,.call 55 [(.tmp 24),(.tmp 25),(.tmp 26)],[.load (.tmp 21)]⟩,X 28 4 22 23,⟨none,none,.e (.store 4 (.tmp 28) (.tmp 27)),[]⟩])))
 (.ops [Bn 29 .add 16 1,V 16 29])))))))
 (O [FA 30 0 5,L 31 30,V 32 1,⟨some 33,none,.q (.build [(.int .u8 0),(.int .i64 0),(.int .i64 0),(.int .i64 0)] []),[]⟩,X 34 4 31 32,⟨none,none,.e (.store 4 (.tmp 34) (.tmp 33)),[]⟩]
 (O [FA 35 0 5,L 36 35,V 37 0,⟨some 38,none,.q (.ptrCk (.tmp 37)),[]⟩,FA 39 1 38,L 40 39,V 41 0,⟨some 42,none,.q (.ptrCk (.tmp 41)),[]⟩,FA 43 0 42,L 44 43,V 45 1,X 46 4 44 45,LA 47 4 46,⟨some 48,none,.e (.lit [(.int .u8 0),(.int .i64 0),(.int .i64 0),(.int .i64 0)] 4 1 [(0,4,(.tmp 47))]),[]⟩,⟨some 49,none,.call 56 [(.tmp 36),(.tmp 40),(.tmp 48)],[]⟩,FA 50 0 5,S 50 49]
 (O [FA 51 1 5,L 52 51,V 53 0,⟨some 54,none,.q (.ptrCk (.tmp 53)),[]⟩,FA 55 1 54,L 56 55,V 57 1,⟨some 58,none,.e (.lit [(.int .i64 0)] 1 1 [(0,1,(.tmp 57))]),[]⟩,⟨some 59,none,.call 57 [(.tmp 52),(.tmp 56),(.tmp 58)],[]⟩,FA 60 1 5,S 60 59]
 (O [LA 61 2 5,⟨none,none,.e (.store 2 (.tmp 4) (.tmp 61)),[]⟩]
 .ret))))))),[.cells 4 2],62⟩
theorem c_lfLift_is:qCd Proofs.Tryz.prog Proofs.Tryz.f22=some (qCb qPw):=by kernel_rfl
theorem call_lfLift:qCh 22 qPw 62:=fun hl k=>qBh (by kernel_rfl) (by kernel_rfl) c_lfLift_is (by kernel_rfl) hl k
def qPt:AFn :=
⟨(O [⟨some 2,none,.e (.new [(.slice none 0 0),(.slice none 0 0)] 2),[]⟩]
 (O [V 5 0,⟨some 6,none,.call 58 [(.tmp 5)],[]⟩,⟨some 7,none,.q (.build [(.slice none 0 0),(.slice none 0 0)] [(0,1,(.tmp 6))]),[]⟩,⟨some 3,none,.e (.new [(.slice none 0 0),(.slice none 0 0)] 2),[]⟩,⟨none,none,.e (.store 2 (.tmp 3) (.tmp 7)),[]⟩]
 (.seq (O [V 8 0,Ln 9 8,N 10 0]
 (.block 0 (.loop (O [B 11 .lss 10 9]
 (.seq (.cond (.tmp 11)
 .skip
 (.exit 0))
 (.seq (.block 1 (O [V 12 10,V 4 12]
 (.ops [FA 13 1 3,L 14 13,V 15 4,⟨some 16,none,.e (.lit [(.int .i64 0)] 1 1 [(0,1,(.tmp 15))]),[]⟩,Ap 17 1 14 16,FA 18 1 3,S 18 17])))
 (.ops [Bn 19 .add 10 1,V 10 19])))))))
 (O [LA 20 2 3,⟨none,none,.e (.store 2 (.tmp 2) (.tmp 20)),[]⟩]
 .ret)))),[.cells 2 2],21⟩
theorem c_lfOwn_is:qCd Proofs.Tryz.prog Proofs.Tryz.f23=some (qCb qPt):=by kernel_rfl
theorem call_lfOwn:qCh 23 qPt 21:=fun hl k=>qBh (by kernel_rfl) (by kernel_rfl) c_lfOwn_is (by kernel_rfl) hl k
def qNr:AFn :=
⟨(O [T 2 false]
 (O [V 6 0,⟨some 7,none,.call 128 [(.tmp 6)],[]⟩,V 5 7,⟨some 8,none,.q (.ext (.tmp 5) 0),[]⟩,⟨some 9,none,.q (.ext (.tmp 5) 1),[]⟩,⟨some 3,none,.e (.new [(.string ⟨#[]⟩),(.int .u8 0),(.int .u8 0),(.int .u8 0),(.bool false),(.bool false),(.bool false)] 7),[]⟩,⟨none,none,.e (.store 7 (.tmp 3) (.tmp 8)),[]⟩,V 4 9]
 (O [FA 10 4 3,L 11 10,V 2 11]
 .ret))),[.tmp 2],12⟩
theorem c_irPlain_is:qCd Proofs.Tryz.prog Proofs.Tryz.f92=some (qCb qNr):=by kernel_rfl
theorem call_irPlain:qCh 92 qNr 12:=fun hl k=>qBh (by kernel_rfl) (by kernel_rfl) c_irPlain_is (by kernel_rfl) hl k
def qMf:AFn :=
⟨(O [⟨some 2,none,.e (.new [(.slice none 0 0),(.slice none 0 0)] 2),[]⟩]
 (.seq (O [V 7 0,Ln 8 7,Bn 9 .gtr 8 60]
 (.cond (.tmp 9)
 (O [⟨some 10,none,.q (.build [(.slice none 0 0),(.slice none 0 0)] []),[]⟩,⟨none,none,.e (.store 2 (.tmp 2) (.tmp 10)),[]⟩]
 .ret)
 .skip))
 (.seq (O [V 11 0,Ln 12 11,Bn 13 .lss 12 60]
 (.cond (.tmp 13)
 (O [V 14 0,⟨some 15,none,.call 18 [(.tmp 14)],[]⟩,Z 1 15,⟨some 16,none,.call 17 [(.tmp 15)],[]⟩,Ln 17 16,N 18 0]
 (.block 0 (.loop (O [B 19 .lss 18 17]
 (.seq (.cond (.tmp 19)
 .skip
 (.exit 0))
 (.seq (.block 1 (O [X 20 2 16 18,LA 21 2 20,⟨some 4,none,.e (.new [(.int .i64 0),(.slice none 0 0)] 2),[]⟩,⟨none,none,.e (.store 2 (.tmp 4) (.tmp 21)),[]⟩]
 (O [V 22 0,FA 23 0 4,L 24 23,FA 25 1 4,L 26 25,Z 1 26,⟨some 27,none,.call 19 [(.const (.int .u64 0)),(.tmp 26)],[.load (.tmp 23)]⟩,⟨some 28,none,.q (.build [(.slice none 0 0),(.int .i64 0),(.int .u64 0)] [(0,1,(.tmp 22)),(1,1,(.tmp 24)),(2,1,(.tmp 27))]),[]⟩,⟨some 29,none,.e (.box 3 3 (.tmp 28)),[]⟩,V 5 29]
 (O [FA 30 1 4,L 31 30,V 32 5,⟨some 33,none,.q (.mfn (.func 21) [(.tmp 32)]),[]⟩,Z 1 31,⟨some 34,none,.call 20 [(.tmp 31),(.tmp 33)],[]⟩,V 6 34]
 (O [V 35 6,Bn 36 .geq 35 0]
 (.cond (.tmp 36)
 (O [V 37 5,FA 38 1 4,L 39 38,V 40 6,X 41 1 39 40,L 42 41,⟨some 43,none,.call 22 [(.tmp 37),(.tmp 42)],[]⟩,⟨none,none,.e (.store 2 (.tmp 2) (.tmp 43)),[]⟩]
 .ret)
 .skip))))))
 (.ops [Bn 44 .add 18 1,V 18 44])))))))
 .skip))
 (O [V 45 0,⟨some 46,none,.call 23 [(.tmp 45)],[]⟩,⟨none,none,.e (.store 2 (.tmp 2) (.tmp 46)),[]⟩]
 .ret)))),[.cells 2 2],47⟩
theorem c_lfCode_is:qCd Proofs.Tryz.prog Proofs.Tryz.f9=some (qCb qMf):=by kernel_rfl
theorem call_lfCode:qCh 9 qMf 47:=fun hl k=>qBh (by kernel_rfl) (by kernel_rfl) c_lfCode_is (by kernel_rfl) hl k
end Pm

/- Codes of the program's functions, as a program printed them, and that they are what the program's functions are compiled to.
   No condition: plain facts. -/
namespace Pm
set_option linter.unusedSimpArgs false
set_option linter.unusedVariables false
open Go Am
set_option maxRecDepth 100000
def qKk:AFn :=
⟨(O [T 2 false]
 (O [V 3 0,Bk 4 .leq 3 .u8 8,V 2 4]
 .ret)),[.tmp 2],5⟩
theorem c_R2Plain_is:qCd Proofs.Tryz.prog Proofs.Tryz.f73=some (qCb qKk):=by kernel_rfl
theorem call_R2Plain:qCh 73 qKk 5:=fun hl k=>qBh (by kernel_rfl) (by kernel_rfl) c_R2Plain_is (by kernel_rfl) hl k
def qKj:AFn :=
⟨(O [T 4 false]
 (.seq (O [V 6 1,Bn 7 .eql 6 0,V 8 7,Gd 8 false (V 9 0),Gd 8 false (V 10 1),Gd 8 false (X 11 4 9 10),Gd 8 false (FA 12 0 11),Gd 8 false (L 13 12),⟨some 14,some (8,false),.call 73 [(.tmp 13)],[]⟩,Gd 8 false (Nt 15 14),⟨some 16,none,.q (.pick (.tmp 8) (.const (.bool true)) (.tmp 15)),[]⟩,V 17 16,Gd 17 false (V 18 0),Gd 17 false (V 19 1),Gd 17 false (Bn 20 .sub 19 1),Gd 17 false (X 21 4 18 20),Gd 17 false (FA 22 0 21),Gd 17 false (L 23 22),⟨some 24,some (17,false),.call 73 [(.tmp 23)],[]⟩,Gd 17 false (Nt 25 24),⟨some 26,none,.q (.pick (.tmp 17) (.const (.bool true)) (.tmp 25)),[]⟩]
 (.cond (.tmp 26)
 (O [T 4 true]
 .ret)
 .skip))
 (.seq (O [N 5 0]
 (.block 0 (.loop (.seq (O [V 27 5,V 28 0,Ln 29 28,B 30 .lss 27 29]
 (.cond (.tmp 30)
 .skip
 (.exit 0)))
 (.seq (.block 1 (O [V 33 0,V 34 5,X 35 4 33 34,FA 36 0 35,L 37 36,Bk 38 .eql 37 .u8 10,V 39 38,Gd 39 true (V 40 0),Gd 39 true (V 41 5),Gd 39 true (X 42 4 40 41),Gd 39 true (FA 43 1 42),Gd 39 true (L 44 43),Gd 39 true (V 45 1),Gd 39 true (B 46 .eql 44 45),Pk 47 39 46 false,V 48 47,Gd 48 false (V 49 0),Gd 48 false (V 50 5),Gd 48 false (X 51 4 49 50),Gd 48 false (FA 52 0 51),Gd 48 false (L 53 52),Gd 48 false (Bk 54 .eql 53 .u8 11),Gd 48 false (V 55 54),Gd 55 true (V 56 0),Gd 55 true (V 57 5),Gd 55 true (X 58 4 56 57),Gd 55 true (FA 59 2 58),Gd 55 true (L 60 59),Gd 55 true (V 61 1),Gd 55 true (B 62 .eql 60 61),Gd 48 false (Pk 63 55 62 false),⟨some 64,none,.q (.pick (.tmp 48) (.const (.bool true)) (.tmp 63)),[]⟩]
 (.cond (.tmp 64)
 (O [T 4 true]
 .ret)
 .skip)))
 (.ops [V 31 5,Bn 32 .add 31 1,V 5 32]))))))
 (O [T 4 false]
 .ret)))),[.tmp 4],65⟩
theorem c_r11head_is:qCd Proofs.Tryz.prog Proofs.Tryz.f110=some (qCb qKj):=by kernel_rfl
theorem call_r11head:qCh 110 qKj 65:=fun hl k=>qBh (by kernel_rfl) (by kernel_rfl) c_r11head_is (by kernel_rfl) hl k
def qNm:AFn :=
⟨(O [N 4 0]
 (.seq (O [V 5 1,Bn 6 .lss 5 0,V 7 6,Gd 7 false (V 8 1),Gd 7 false (V 9 0),Gd 7 false (Ln 10 9),Gd 7 false (B 11 .geq 8 10),⟨some 12,none,.q (.pick (.tmp 7) (.const (.bool true)) (.tmp 11)),[]⟩]
 (.cond (.tmp 12)
 (O [V 13 1,V 4 13]
 .ret)
 .skip))
 (.seq (.block 0 (.loop (.seq (O [V 14 0,V 15 1,⟨some 16,none,.call 110 [(.tmp 14),(.tmp 15)],[]⟩,Nt 17 16]
 (.cond (.tmp 17)
 .skip
 (.exit 0)))
 (.block 1 (.ops [V 18 1,Bn 19 .sub 18 1,V 1 19])))))
 (O [V 20 1,V 4 20]
 .ret)))),[.tmp 4],21⟩
theorem c_r11Head_is:qCd Proofs.Tryz.prog Proofs.Tryz.f71=some (qCb qNm):=by kernel_rfl
theorem call_r11Head:qCh 71 qNm 21:=fun hl k=>qBh (by kernel_rfl) (by kernel_rfl) c_r11Head_is (by kernel_rfl) hl k
def qNl:AFn :=
⟨(O [E 8]
 (O [V 16 0,Ln 17 16,⟨some 18,none,.e (.make [(.int .i64 0)] 1 (.tmp 17) (.tmp 17)),[]⟩,V 9 18]
 (.seq (O [N 10 0]
 (.block 0 (.loop (.seq (O [V 19 10,V 20 0,Ln 21 20,B 22 .lss 19 21]
 (.cond (.tmp 22)
 .skip
 (.exit 0)))
 (.seq (.block 1 (O [N 11 0]
 (.block 2 (.loop (.seq (O [V 25 11,V 26 0,V 27 10,X 28 1 26 27,L 29 28,Ln 30 29,B 31 .lss 25 30]
 (.cond (.tmp 31)
 .skip
 (.exit 2)))
 (.seq (.block 3 (O [V 34 2,V 35 10,X 36 1 34 35,L 37 36,V 38 37,Gd 38 true (V 39 0),Gd 38 true (V 40 10),Gd 38 true (X 41 1 39 40),Gd 38 true (L 42 41),Gd 38 true (V 43 11),Gd 38 true (X 44 1 42 43),Gd 38 true (L 45 44),Gd 38 true (V 46 3),Gd 38 true (B 47 .eql 45 46),Pk 48 38 47 false,V 49 48,Gd 49 true (V 50 1),Gd 49 true (V 51 10),Gd 49 true (X 52 1 50 51),Gd 49 true (L 53 52),Gd 49 true (V 54 3),⟨some 55,some (49,true),.call 74 [(.tmp 53),(.tmp 54)],[]⟩,Pk 56 49 55 false]
 (.cond (.tmp 56)
 (O [V 57 9,V 58 10,X 59 1 57 58,⟨none,none,.e (.store 1 (.tmp 59) (.const (.int .i64 1))),[]⟩]
 (.ops [V 60 9,V 61 3,X 62 1 60 61,⟨none,none,.e (.store 1 (.tmp 62) (.const (.int .i64 1))),[]⟩]))
 .skip)))
 (.ops [V 32 11,Bn 33 .add 32 1,V 11 33])))))))
 (.ops [V 23 10,Bn 24 .add 23 1,V 10 24]))))))
 (.seq (O [T 12 true]
 (.block 4 (.loop (.seq (O [V 63 12]
 (.cond (.tmp 63)
 .skip
 (.exit 4)))
 (.block 5 (O [T 12 false]
 (O [N 13 0]
 (.block 6 (.loop (.seq (O [V 64 13,V 65 0,Ln 66 65,B 67 .lss 64 66]
 (.cond (.tmp 67)
 .skip
 (.exit 6)))
 (.seq (.block 7 (O [N 14 0]
 (.block 8 (.loop (.seq (O [V 70 14,V 71 0,V 72 13,X 73 1 71 72,L 74 73,Ln 75 74,B 76 .lss 70 75,V 77 76,Gd 77 true (V 78 2),Gd 77 true (V 79 13),Gd 77 true (X 80 1 78 79),Gd 77 true (L 81 80),Pk 82 77 81 false,V 83 82,Gd 83 true (V 84 9),Gd 83 true (V 85 13),Gd 83 true (X 86 1 84 85),Gd 83 true (L 87 86),Gd 83 true (Bn 88 .eql 87 0),Pk 89 83 88 false]
 (.cond (.tmp 89)
 .skip
 (.exit 8)))
 (.seq (.block 9 (O [V 92 0,V 93 13,X 94 1 92 93,L 95 94,V 96 14,X 97 1 95 96,L 98 97,V 15 98]
 (O [V 99 15,Bn 100 .geq 99 0,V 101 100,Gd 101 true (V 102 15),Gd 101 true (V 103 0),Gd 101 true (Ln 104 103),Gd 101 true (B 105 .lss 102 104),Pk 106 101 105 false,V 107 106,Gd 107 true (V 108 15),Gd 107 true (V 109 3),Gd 107 true (B 110 .neq 108 109),Pk 111 107 110 false,V 112 111,Gd 112 true (V 113 9),Gd 112 true (V 114 15),Gd 112 true (X 115 1 113 114),Gd 112 true (L 116 115),Gd 112 true (Bn 117 .eql 116 1),Pk 118 112 117 false]
 (.cond (.tmp 118)
 (O [V 119 9,V 120 13,X 121 1 119 120,⟨none,none,.e (.store 1 (.tmp 121) (.const (.int .i64 1))),[]⟩]
 (.ops [T 12 true]))
 .skip))))
 (.ops [V 90 14,Bn 91 .add 90 1,V 14 91])))))))
 (.ops [V 68 13,Bn 69 .add 68 1,V 13 69]))))))))))))
 (O [V 122 9,V 8 122]
 .ret))))),[.tmp 8],123⟩
theorem c_r12body_is:qCd Proofs.Tryz.prog Proofs.Tryz.f70=some (qCb qNl):=by kernel_rfl
theorem call_r12body:qCh 70 qNl 123:=fun hl k=>qBh (by kernel_rfl) (by kernel_rfl) c_r12body_is (by kernel_rfl) hl k
def qRo:AFn :=
⟨(O [E 2]
 (.seq (O [V 10 0,Ln 11 10,Bn 12 .gtr 11 64]
 (.cond (.tmp 12)
 (O [E 2]
 .ret)
 .skip))
 (O [V 13 0,⟨some 14,none,.call 68 [(.tmp 13)],[]⟩,V 3 14]
 (O [V 15 0,⟨some 16,none,.call 69 [(.tmp 15)],[]⟩,V 4 16]
 (O [E 5]
 (.seq (O [N 6 0]
 (.block 0 (.loop (.seq (O [V 17 6,V 18 0,Ln 19 18,B 20 .lss 17 19]
 (.cond (.tmp 20)
 .skip
 (.exit 0)))
 (.seq (.block 1 (O [V 23 0,V 24 3,V 25 4,V 26 6,⟨some 27,none,.call 70 [(.tmp 23),(.tmp 24),(.tmp 25),(.tmp 26)],[]⟩,V 7 27]
 (.seq (O [V 28 7,V 29 6,X 30 1 28 29,L 31 30,Bn 32 .eql 31 0]
 (.cond (.tmp 32)
 (.exit 1)
 .skip))
 (O [E 8]
 (.seq (O [N 9 0]
 (.block 2 (.loop (.seq (O [V 33 9,V 34 7,Ln 35 34,B 36 .lss 33 35]
 (.cond (.tmp 36)
 .skip
 (.exit 2)))
 (.seq (.block 3 (O [V 39 7,V 40 9,X 41 1 39 40,L 42 41,Bn 43 .eql 42 1]
 (.cond (.tmp 43)
 (.ops [V 44 8,V 45 9,⟨some 46,none,.e (.lit [(.int .i64 0)] 1 1 [(0,1,(.tmp 45))]),[]⟩,Ap 47 1 44 46,V 8 47])
 .skip)))
 (.ops [V 37 9,Bn 38 .add 37 1,V 9 38]))))))
 (.ops [V 48 5,V 49 6,V 50 8,Z 1 50,⟨some 51,none,.q (.build [(.int .i64 0),(.slice none 0 0)] [(0,1,(.tmp 49)),(1,1,(.tmp 50))]),[]⟩,⟨some 52,none,.e (.lit [(.int .i64 0),(.slice none 0 0)] 2 1 [(0,2,(.tmp 51))]),[]⟩,Ap 53 2 48 52,V 5 53]))))))
 (.ops [V 21 6,Bn 22 .add 21 1,V 6 22]))))))
 (O [V 54 5,V 2 54]
 .ret))))))),[.tmp 2],55⟩
theorem c_r12Of_is:qCd Proofs.Tryz.prog Proofs.Tryz.f31=some (qCb qRo):=by kernel_rfl
theorem call_r12Of:qCh 31 qRo 55:=fun hl k=>qBh (by kernel_rfl) (by kernel_rfl) c_r12Of_is (by kernel_rfl) hl k
def qPp:AFn :=
⟨(O [T 4 false]
 (.seq (O [N 5 0]
 (.block 0 (.loop (.seq (O [V 6 5,V 7 0,Ln 8 7,B 9 .lss 6 8]
 (.cond (.tmp 9)
 .skip
 (.exit 0)))
 (.seq (.block 1 (O [V 12 0,V 13 5,X 14 1 12 13,L 15 14,V 16 1,B 17 .eql 15 16]
 (.cond (.tmp 17)
 (O [T 4 true]
 .ret)
 .skip)))
 (.ops [V 10 5,Bn 11 .add 10 1,V 5 11]))))))
 (O [T 4 false]
 .ret))),[.tmp 4],18⟩
theorem c_r20has_is:qCd Proofs.Tryz.prog Proofs.Tryz.f72=some (qCb qPp):=by kernel_rfl
theorem call_r20has:qCh 72 qPp 18:=fun hl k=>qBh (by kernel_rfl) (by kernel_rfl) c_r20has_is (by kernel_rfl) hl k
def qPo:AFn :=
⟨(O [⟨some 4,none,.e (.box 2 2 (.tmp 1)),[]⟩,T 6 false]
 (O [V 14 0,V 15 2,X 16 4 14 15,LA 17 4 16,⟨some 7,none,.e (.new [(.int .u8 0),(.int .i64 0),(.int .i64 0),(.int .i64 0)] 4),[]⟩,⟨none,none,.e (.store 4 (.tmp 7) (.tmp 17)),[]⟩]
 (O [FA 18 0 4,L 19 18,V 8 19]
 (.seq (O [FA 20 0 7,L 21 20,Bk 22 .neq 21 .u8 7,V 23 22,Gd 23 false (V 24 8),Gd 23 false (V 25 2),Gd 23 false (B 26 .gtr 24 25),⟨some 27,none,.q (.pick (.tmp 23) (.const (.bool true)) (.tmp 26)),[]⟩,V 28 27,Gd 28 false (V 29 0),Gd 28 false (V 30 2),⟨some 31,some (28,false),.call 71 [(.tmp 29),(.tmp 30)],[]⟩,Gd 28 false (V 32 8),Gd 28 false (B 33 .neq 31 32),⟨some 34,none,.q (.pick (.tmp 28) (.const (.bool true)) (.tmp 33)),[]⟩,V 35 34,Gd 35 false (V 36 0),Gd 35 false (Ln 37 36),Gd 35 false (Bn 38 .geq 37 60),⟨some 39,none,.q (.pick (.tmp 35) (.const (.bool true)) (.tmp 38)),[]⟩,V 40 39,Gd 40 false (FA 41 1 4),Gd 40 false (L 42 41),Gd 40 false (V 43 8),Gd 40 false (Bn 44 .sub 43 1),⟨some 45,some (40,false),.call 72 [(.tmp 42),(.tmp 44)],[]⟩,Gd 40 false (V 46 45),Gd 46 true (V 47 0),Gd 46 true (V 48 8),Gd 46 true (Bn 49 .sub 48 1),Gd 46 true (X 50 4 47 49),Gd 46 true (FA 51 0 50),Gd 46 true (L 52 51),Gd 46 true (Bk 53 .neq 52 .u8 10),Gd 40 false (Pk 54 46 53 false),⟨some 55,none,.q (.pick (.tmp 40) (.const (.bool true)) (.tmp 54)),[]⟩]
 (.cond (.tmp 55)
 (O [T 6 false]
 .ret)
 .skip))
 (.seq (O [N 9 0]
 (.block 0 (.loop (.seq (O [V 56 9,FA 57 1 4,L 58 57,Ln 59 58,B 60 .lss 56 59]
 (.cond (.tmp 60)
 .skip
 (.exit 0)))
 (.seq (.block 1 (O [FA 63 1 4,L 64 63,V 65 9,X 66 1 64 65,L 67 66,V 10 67]
 (O [V 68 0,V 69 10,X 70 4 68 69,LA 71 4 70,⟨some 11,none,.e (.new [(.int .u8 0),(.int .i64 0),(.int .i64 0),(.int .i64 0)] 4),[]⟩,⟨none,none,.e (.store 4 (.tmp 11) (.tmp 71)),[]⟩]
 (O [FA 72 0 11,L 73 72,⟨some 74,none,.call 73 [(.tmp 73)],[]⟩,V 75 74,Gd 75 false (FA 76 0 11),Gd 75 false (L 77 76),Gd 75 false (Bk 78 .eql 77 .u8 10),⟨some 79,none,.q (.pick (.tmp 75) (.const (.bool true)) (.tmp 78)),[]⟩,V 80 79,Gd 80 false (FA 81 0 11),Gd 80 false (L 82 81),Gd 80 false (Bk 83 .eql 82 .u8 11),⟨some 84,none,.q (.pick (.tmp 80) (.const (.bool true)) (.tmp 83)),[]⟩,V 85 84,Gd 85 false (FA 86 0 11),Gd 85 false (L 87 86),Gd 85 false (Bk 88 .eql 87 .u8 9),⟨some 89,none,.q (.pick (.tmp 85) (.const (.bool true)) (.tmp 88)),[]⟩,V 12 89]
 (O [V 90 12,Nt 91 90,V 92 91,Gd 92 false (FA 93 0 11),Gd 92 false (L 94 93),Gd 92 false (Bk 95 .eql 94 .u8 8),Gd 92 false (V 96 95),Gd 96 true (FA 97 1 11),Gd 96 true (L 98 97),Gd 96 true (FA 99 2 7),Gd 96 true (L 100 99),Gd 96 true (B 101 .eql 98 100),Gd 92 false (Pk 102 96 101 false),⟨some 103,none,.q (.pick (.tmp 92) (.const (.bool true)) (.tmp 102)),[]⟩,V 104 103,Gd 104 false (V 105 10),Gd 104 false (V 106 2),Gd 104 false (B 107 .neq 105 106),Gd 104 false (V 108 107),Gd 108 true (LA 109 4 11),Gd 108 true (FA 111 1 7),Gd 108 true (L 112 111),⟨some 110,some (108,true),.call 75 [(.tmp 109)],[.load (.tmp 111)]⟩,⟨some 113,some (108,true),.call 74 [(.tmp 110),(.tmp 112)],[]⟩,Gd 104 false (Pk 114 108 113 false),⟨some 115,none,.q (.pick (.tmp 104) (.const (.bool true)) (.tmp 114)),[]⟩]
 (.cond (.tmp 115)
 (O [T 6 false]
 .ret)
 .skip))))))
 (.ops [V 61 9,Bn 62 .add 61 1,V 9 62]))))))
 (.seq (O [V 116 8,V 13 116]
 (.block 2 (.loop (.seq (O [V 117 13,V 118 2,B 119 .lss 117 118]
 (.cond (.tmp 119)
 .skip
 (.exit 2)))
 (.seq (.block 3 (O [V 122 0,V 123 13,X 124 4 122 123,LA 125 4 124,FA 127 1 7,L 128 127,⟨some 126,none,.call 76 [(.tmp 125)],[.load (.tmp 127)]⟩,⟨some 129,none,.call 74 [(.tmp 126),(.tmp 128)],[]⟩]
 (.cond (.tmp 129)
 (O [T 6 false]
 .ret)
 .skip)))
 (.ops [V 120 13,Bn 121 .add 120 1,V 13 121]))))))
 (O [T 6 true]
 .ret))))))),[.tmp 6],130⟩
theorem c_r20may_is:qCd Proofs.Tryz.prog Proofs.Tryz.f33=some (qCb qPo):=by kernel_rfl
theorem call_r20may:qCh 33 qPo 130:=fun hl k=>qBh (by kernel_rfl) (by kernel_rfl) c_r20may_is (by kernel_rfl) hl k
def qFu:AFn :=
⟨(O [N 6 0]
 (.seq (O [V 7 0,V 8 1,B 9 .gtr 7 8,V 10 9,Gd 10 false (V 11 0),Gd 10 false (V 12 1),Gd 10 false (B 13 .eql 11 12),Gd 10 false (V 14 13),Gd 14 true (V 15 2),Gd 10 false (Pk 16 14 15 false),⟨some 17,none,.q (.pick (.tmp 10) (.const (.bool true)) (.tmp 16)),[]⟩]
 (.cond (.tmp 17)
 (O [V 18 0,Bn 19 .add 18 1,V 6 19]
 .ret)
 .skip))
 (O [V 20 0,V 6 20]
 .ret))),[.tmp 6],21⟩
theorem c_r20place_is:qCd Proofs.Tryz.prog Proofs.Tryz.f77=some (qCb qFu):=by kernel_rfl
theorem call_r20place:qCh 77 qFu 21:=fun hl k=>qBh (by kernel_rfl) (by kernel_rfl) c_r20place_is (by kernel_rfl) hl k
def qJv:AFn :=
⟨(O [⟨some 4,none,.e (.box 2 2 (.tmp 1)),[]⟩,⟨some 6,none,.e (.new [(.slice none 0 0),(.slice none 0 0)] 2),[]⟩]
 (O [⟨some 10,none,.q (.build [(.slice none 0 0),(.slice none 0 0)] []),[]⟩,⟨some 7,none,.e (.new [(.slice none 0 0),(.slice none 0 0)] 2),[]⟩,⟨none,none,.e (.store 2 (.tmp 7) (.tmp 10)),[]⟩]
 (.seq (O [N 8 0]
 (.block 0 (.loop (.seq (O [V 11 8,V 12 0,Ln 13 12,B 14 .lss 11 13]
 (.cond (.tmp 14)
 .skip
 (.exit 0)))
 (.seq (.block 1 (.seq (O [V 17 8,FA 18 0 4,L 19 18,B 20 .eql 17 19]
 (.cond (.tmp 20)
 (O [FA 21 0 7,L 22 21,V 23 0,V 24 2,X 25 4 23 24,LA 26 4 25,⟨some 27,none,.e (.lit [(.int .u8 0),(.int .i64 0),(.int .i64 0),(.int .i64 0)] 4 1 [(0,4,(.tmp 26))]),[]⟩,Ap 28 4 22 27,FA 29 0 7,S 29 28]
 (.ops [FA 30 1 7,L 31 30,V 32 2,⟨some 33,none,.e (.lit [(.int .i64 0)] 1 1 [(0,1,(.tmp 32))]),[]⟩,Ap 34 1 31 33,FA 35 1 7,S 35 34]))
 .skip))
 (O [V 36 0,V 37 8,X 38 4 36 37,LA 39 4 38,⟨some 9,none,.e (.new [(.int .u8 0),(.int .i64 0),(.int .i64 0),(.int .i64 0)] 4),[]⟩,⟨none,none,.e (.store 4 (.tmp 9) (.tmp 39)),[]⟩]
 (.seq (O [V 40 8,V 41 2,B 42 .eql 40 41]
 (.cond (.tmp 42)
 (.ops [⟨some 43,none,.q (.build [(.int .u8 0),(.int .i64 0),(.int .i64 0),(.int .i64 0)] []),[]⟩,⟨none,none,.e (.store 4 (.tmp 9) (.tmp 43)),[]⟩])
 .skip))
 (.seq (O [FA 44 0 9,L 45 44,Bk 46 .eql 45 .u8 10]
 (.cond (.tmp 46)
 (.ops [FA 47 1 9,L 48 47,FA 49 0 4,L 50 49,FA 51 1 4,L 52 51,V 53 8,⟨some 54,none,.call 72 [(.tmp 52),(.tmp 53)],[.load (.tmp 47),.load (.tmp 49)]⟩,⟨some 55,none,.call 77 [(.tmp 48),(.tmp 50),(.tmp 54)],[]⟩,FA 56 1 9,S 56 55])
 .skip))
 (.seq (O [FA 57 0 9,L 58 57,Bk 59 .eql 58 .u8 11]
 (.cond (.tmp 59)
 (.ops [FA 60 2 9,L 61 60,FA 62 0 4,L 63 62,FA 64 1 4,L 65 64,V 66 8,⟨some 67,none,.call 72 [(.tmp 65),(.tmp 66)],[.load (.tmp 60),.load (.tmp 62)]⟩,⟨some 68,none,.call 77 [(.tmp 61),(.tmp 63),(.tmp 67)],[]⟩,FA 69 2 9,S 69 68])
 .skip))
 (O [FA 70 0 7,L 71 70,LA 72 4 9,⟨some 73,none,.e (.lit [(.int .u8 0),(.int .i64 0),(.int .i64 0),(.int .i64 0)] 4 1 [(0,4,(.tmp 72))]),[]⟩,Ap 74 4 71 73,FA 75 0 7,S 75 74]
 (.ops [FA 76 1 7,L 77 76,V 78 8,⟨some 79,none,.e (.lit [(.int .i64 0)] 1 1 [(0,1,(.tmp 78))]),[]⟩,Ap 80 1 77 79,FA 81 1 7,S 81 80]))))))))
 (.ops [V 15 8,Bn 16 .add 15 1,V 8 16]))))))
 (O [LA 82 2 7,⟨none,none,.e (.store 2 (.tmp 6) (.tmp 82)),[]⟩]
 .ret)))),[.cells 6 2],83⟩
theorem c_r20lifted_is:qCd Proofs.Tryz.prog Proofs.Tryz.f34=some (qCb qJv):=by kernel_rfl
theorem call_r20lifted:qCh 34 qJv 83:=fun hl k=>qBh (by kernel_rfl) (by kernel_rfl) c_r20lifted_is (by kernel_rfl) hl k
def qKi:AFn :=
⟨(O [⟨some 2,none,.e (.new [(.slice none 0 0),(.slice none 0 0)] 2),[]⟩]
 (.seq (O [V 7 0,Ln 8 7,Bn 9 .gtr 8 60]
 (.cond (.tmp 9)
 (O [⟨some 10,none,.q (.build [(.slice none 0 0),(.slice none 0 0)] []),[]⟩,⟨none,none,.e (.store 2 (.tmp 2) (.tmp 10)),[]⟩]
 .ret)
 .skip))
 (O [V 11 0,⟨some 12,none,.call 32 [(.tmp 11)],[]⟩,⟨some 13,none,.call 31 [(.tmp 12)],[]⟩,V 3 13]
 (.seq (O [N 4 0]
 (.block 0 (.loop (.seq (O [V 14 4,V 15 3,Ln 16 15,B 17 .lss 14 16]
 (.cond (.tmp 17)
 .skip
 (.exit 0)))
 (.seq (.block 1 (O [N 5 0]
 (.block 2 (.loop (.seq (O [V 20 5,V 21 3,V 22 4,X 23 2 21 22,FA 24 1 23,L 25 24,Ln 26 25,B 27 .lss 20 26]
 (.cond (.tmp 27)
 .skip
 (.exit 2)))
 (.seq (.block 3 (O [V 30 0,V 31 3,V 32 4,X 33 2 31 32,LA 34 2 33,V 35 3,V 36 4,X 37 2 35 36,FA 38 1 37,L 39 38,V 40 5,X 41 1 39 40,L 42 41,⟨some 43,none,.call 33 [(.tmp 30),(.tmp 34),(.tmp 42)],[]⟩]
 (.cond (.tmp 43)
 (O [V 44 0,V 45 3,V 46 4,X 47 2 45 46,LA 48 2 47,V 49 3,V 50 4,X 51 2 49 50,FA 52 1 51,L 53 52,V 54 5,X 55 1 53 54,L 56 55,⟨some 57,none,.call 34 [(.tmp 44),(.tmp 48),(.tmp 56)],[]⟩,⟨none,none,.e (.store 2 (.tmp 2) (.tmp 57)),[]⟩]
 .ret)
 .skip)))
 (.ops [V 28 5,Bn 29 .add 28 1,V 5 29])))))))
 (.ops [V 18 4,Bn 19 .add 18 1,V 4 19]))))))
 (O [E 6]
 (O [V 58 6,V 59 0,Ap 60 4 58 59,V 6 60]
 (O [V 61 6,V 62 0,Ln 63 62,⟨some 64,none,.call 35 [(.tmp 63)],[]⟩,⟨some 65,none,.q (.build [(.slice none 0 0),(.slice none 0 0)] [(0,1,(.tmp 61)),(1,1,(.tmp 64))]),[]⟩,⟨none,none,.e (.store 2 (.tmp 2) (.tmp 65)),[]⟩]
 .ret))))))),[.cells 2 2],66⟩
theorem c_r20Code_is:qCd Proofs.Tryz.prog Proofs.Tryz.f14=some (qCb qKi):=by kernel_rfl
theorem call_r20Code:qCh 14 qKi 66:=fun hl k=>qBh (by kernel_rfl) (by kernel_rfl) c_r20Code_is (by kernel_rfl) hl k
def qJb:AFn :=
⟨(O [T 10 false]
 (.seq (O [V 14 0,Ln 15 14,Bn 16 .gtr 15 61,V 17 16,⟨some 18,some (17,false),.call 5 [],[]⟩,Gd 17 false (Nt 19 18),⟨some 20,none,.q (.pick (.tmp 17) (.const (.bool true)) (.tmp 19)),[]⟩]
 (.cond (.tmp 20)
 (O [⟨some 21,none,.call 5 [],[]⟩,V 10 21]
 .ret)
 .skip))
 (O [V 22 1,⟨some 23,none,.call 6 [(.tmp 22)],[]⟩,⟨some 11,none,.e (.new [(.int .i64 0),(.int .i64 0),(.int .i64 0),(.slice none 0 0),(.int .i64 0),(.int .i64 0),(.slice none 0 0)] 7),[]⟩,⟨none,none,.e (.store 7 (.tmp 11) (.tmp 23)),[]⟩]
 (O [V 24 0,⟨some 25,none,.call 7 [(.tmp 24)],[]⟩,V 12 25]
 (O [FA 26 6 11,L 27 26,V 28 2,Cv' 29 .i64 28,FA 30 6 11,L 31 30,Ln 32 31,B 33 .rem 29 32,X 34 1 27 33,L 35 34,⟨some 36,none,.call 7 [(.tmp 35)],[]⟩,V 13 36]
 (O [V 37 12,V 38 37,Gd 38 true (V 39 13),Pk 40 38 39 false,V 41 40,Gd 41 true (V 42 3),Gd 41 true (V 43 4),⟨some 44,some (41,true),.call 8 [(.tmp 42),(.tmp 43)],[]⟩,⟨some 45,some (41,true),.call 7 [(.tmp 44)],[]⟩,Pk 46 41 45 false,V 10 46]
 .ret)))))),[.tmp 10],47⟩
theorem c_LiftCode_is:qCd Proofs.Tryz.prog Proofs.Tryz.f3=some (qCb qJb):=by kernel_rfl
theorem call_LiftCode:qCh 3 qJb 47:=fun hl k=>qBh (by kernel_rfl) (by kernel_rfl) c_LiftCode_is (by kernel_rfl) hl k
def qNj:AFn :=
⟨(O [T 2 false]
 (O [V 5 0,⟨some 6,none,.call 9 [(.tmp 5)],[]⟩,⟨some 3,none,.e (.new [(.slice none 0 0),(.slice none 0 0)] 2),[]⟩,⟨none,none,.e (.store 2 (.tmp 3) (.tmp 6)),[]⟩]
 (O [V 7 0,⟨some 8,none,.call 14 [(.tmp 7)],[]⟩,⟨some 4,none,.e (.new [(.slice none 0 0),(.slice none 0 0)] 2),[]⟩,⟨none,none,.e (.store 2 (.tmp 4) (.tmp 8)),[]⟩]
 (O [FA 9 0 3,L 10 9,FA 11 0 4,L 12 11,⟨some 13,none,.call 15 [(.tmp 10),(.tmp 12)],[]⟩,V 14 13,Gd 14 true (FA 15 1 3),Gd 14 true (L 16 15),Gd 14 true (FA 17 1 4),Gd 14 true (L 18 17),⟨some 19,some (14,true),.call 16 [(.tmp 16),(.tmp 18)],[]⟩,Pk 20 14 19 false,V 2 20]
 .ret)))),[.tmp 2],21⟩
theorem c_tells20_is:qCd Proofs.Tryz.prog Proofs.Tryz.f7=some (qCb qNj):=by kernel_rfl
theorem call_tells20:qCh 7 qNj 21:=fun hl k=>qBh (by kernel_rfl) (by kernel_rfl) c_tells20_is (by kernel_rfl) hl k
end Pm

/- Codes of the program's functions, as a program printed them, and that they are what the program's functions are compiled to.
   No condition: plain facts. -/
namespace Pm
set_option linter.unusedSimpArgs false
set_option linter.unusedVariables false
open Go Am
set_option maxRecDepth 100000
def qUh:AFn :=
⟨(O [E 4]
 (O [⟨some 12,none,.e (.lit [(.int .u8 0),(.int .u8 0),(.int .u8 0),(.int .u8 0),(.int .u8 0),(.int .u8 0),(.int .u8 0),(.int .u8 0)] 1 8 [(0,1,(.const (.int .u8 7))),(1,1,(.const (.int .u8 7))),(2,1,(.const (.int .u8 1))),(3,1,(.const (.int .u8 3))),(4,1,(.const (.int .u8 8))),(5,1,(.const (.int .u8 9))),(6,1,(.const (.int .u8 0))),(7,1,(.const (.int .u8 2)))]),[]⟩,V 5 12]
 (O [E 6]
 (.seq (O [N 7 0]
 (.block 0 (.loop (.seq (O [V 13 7,Bn 14 .add 13 1,V 15 0,Ln 16 15,B 17 .lss 14 16,V 18 17,Gd 18 true (V 19 7),Gd 18 true (Bn 20 .lss 19 16),Pk 21 18 20 false]
 (.cond (.tmp 21)
 .skip
 (.exit 0)))
 (.seq (.block 1 (O [V 24 0,V 25 7,Bn 26 .add 25 1,X 27 1 24 26,L 28 27,V 8 28]
 (O [V 29 5,V 30 0,V 31 7,X 32 1 30 31,L 33 32,Bk 34 .rem 33 .u8 8,X 35 1 29 34,L 36 35,V 37 8,Bk 38 .rem 37 .u8 4,Cv' 39 .i64 38,V 40 8,Bk 41 .quo 40 .u8 4,Bk 42 .rem 41 .u8 2,Cv' 43 .i64 42,V 44 8,Bk 45 .quo 44 .u8 16,Bk 46 .rem 45 .u8 4,Cv' 47 .i64 46,⟨some 48,none,.q (.build [(.int .u8 0),(.int .i64 0),(.int .i64 0),(.int .i64 0)] [(0,1,(.tmp 36)),(1,1,(.tmp 39)),(2,1,(.tmp 43)),(3,1,(.tmp 47))]),[]⟩,⟨some 9,none,.e (.new [(.int .u8 0),(.int .i64 0),(.int .i64 0),(.int .i64 0)] 4),[]⟩,⟨none,none,.e (.store 4 (.tmp 9) (.tmp 48)),[]⟩]
 (.seq (O [FA 49 0 9,L 50 49,Bk 51 .eql 50 .u8 8]
 (.cond (.tmp 51)
 (O [V 52 8,Bk 53 .quo 52 .u8 4,Bk 54 .rem 53 .u8 2,Cv' 55 .i64 54,FA 56 1 9,S 56 55]
 (.ops [V 57 8,Bk 58 .rem 57 .u8 4,Cv' 59 .i64 58,FA 60 2 9,S 60 59]))
 .skip))
 (.seq (O [FA 61 0 9,L 62 61,Bk 63 .eql 62 .u8 9,V 64 63,Gd 64 false (FA 65 0 9),Gd 64 false (L 66 65),Gd 64 false (Bk 67 .eql 66 .u8 0),⟨some 68,none,.q (.pick (.tmp 64) (.const (.bool true)) (.tmp 67)),[]⟩]
 (.cond (.tmp 68)
 (.ops [FA 69 2 9,⟨none,none,.e (.store 1 (.tmp 69) (.const (.int .i64 0))),[]⟩])
 .skip))
 (.seq (O [FA 70 0 9,L 71 70,Bk 72 .eql 71 .u8 0]
 (.cond (.tmp 72)
 (.ops [FA 73 1 9,⟨none,none,.e (.store 1 (.tmp 73) (.const (.int .i64 0))),[]⟩])
 .skip))
 (.seq (O [FA 74 0 9,L 75 74,Bk 76 .neq 75 .u8 3]
 (.cond (.tmp 76)
 (.ops [FA 77 3 9,⟨none,none,.e (.store 1 (.tmp 77) (.const (.int .i64 0))),[]⟩])
 .skip))
 (.ops [V 78 6,LA 79 4 9,⟨some 80,none,.e (.lit [(.int .u8 0),(.int .i64 0),(.int .i64 0),(.int .i64 0)] 4 1 [(0,4,(.tmp 79))]),[]⟩,Ap 81 4 78 80,V 6 81]))))))))
 (.ops [V 22 7,Bn 23 .add 22 2,V 7 23]))))))
 (O [V 82 6,Ln 83 82,V 10 83]
 (.seq (O [V 84 10,Bn 85 .eql 84 0]
 (.cond (.tmp 85)
 (O [V 86 6,V 4 86]
 .ret)
 .skip))
 (O [V 87 1,Cv' 88 .i64 87,V 89 10,B 90 .rem 88 89,V 11 90]
 (O [V 91 6,⟨some 92,none,.q (.build [(.int .u8 0),(.int .i64 0),(.int .i64 0),(.int .i64 0)] [(0,1,(.const (.int .u8 1))),(1,1,(.const (.int .i64 3))),(2,1,(.const (.int .i64 1)))]),[]⟩,V 93 1,Bk 94 .quo 93 .u8 64,Cv' 95 .i64 94,V 96 11,⟨some 97,none,.q (.build [(.int .u8 0),(.int .i64 0),(.int .i64 0),(.int .i64 0)] [(0,1,(.const (.int .u8 11))),(1,1,(.tmp 95)),(2,1,(.tmp 96))]),[]⟩,⟨some 98,none,.e (.lit [(.int .u8 0),(.int .i64 0),(.int .i64 0),(.int .i64 0),(.int .u8 0),(.int .i64 0),(.int .i64 0),(.int .i64 0)] 4 2 [(0,4,(.tmp 92)),(4,4,(.tmp 97))]),[]⟩,Ap 99 4 91 98,V 6 99]
 (O [V 100 6,V 4 100]
 .ret))))))))),[.tmp 4],101⟩
theorem c_L20_is:qCd Proofs.Tryz.prog Proofs.Tryz.f8=some (qCb qUh):=by kernel_rfl
theorem call_L20:qCh 8 qUh 101:=fun hl k=>qBh (by kernel_rfl) (by kernel_rfl) c_L20_is (by kernel_rfl) hl k
def qNq:AFn :=
⟨(O [T 0 false]
 (O [⟨some 2,none,.q (.build [(.int .u8 0),(.int .i64 0),(.int .i64 0),(.int .i64 0)] [(0,1,(.const (.int .u8 7))),(2,1,(.const (.int .i64 1)))]),[]⟩,⟨some 3,none,.q (.build [(.int .u8 0),(.int .i64 0),(.int .i64 0),(.int .i64 0)] [(0,1,(.const (.int .u8 11)))]),[]⟩,⟨some 4,none,.e (.lit [(.int .u8 0),(.int .i64 0),(.int .i64 0),(.int .i64 0),(.int .u8 0),(.int .i64 0),(.int .i64 0),(.int .i64 0)] 4 2 [(0,4,(.tmp 2)),(4,4,(.tmp 3))]),[]⟩,Z 4 4,⟨some 5,none,.call 9 [(.tmp 4)],[]⟩,⟨some 1,none,.e (.new [(.slice none 0 0),(.slice none 0 0)] 2),[]⟩,⟨none,none,.e (.store 2 (.tmp 1) (.tmp 5)),[]⟩]
 (O [FA 6 0 1,L 7 6,Ln 8 7,Bn 9 .eql 8 3,V 10 9,Gd 10 true (FA 11 1 1),Gd 10 true (L 12 11),Gd 10 true (Ln 13 12),Gd 10 true (Bn 14 .eql 13 3),Pk 15 10 14 false,V 16 15,Gd 16 true (FA 17 0 1),Gd 16 true (L 18 17),⟨some 19,some (16,true),.q (.idxA 4 (.tmp 18) (.const (.int .i64 0))),[]⟩,Gd 16 true (LA 20 4 19),⟨some 21,some (16,true),.q (.build [(.int .u8 0),(.int .i64 0),(.int .i64 0),(.int .i64 0)] [(0,1,(.const (.int .u8 7))),(2,1,(.const (.int .i64 1)))]),[]⟩,⟨some 22,some (16,true),.q (.eqA [0,0,0,0] false (.tmp 20) (.tmp 21)),[]⟩,Pk 23 16 22 false,V 24 23,Gd 24 true (FA 25 0 1),Gd 24 true (L 26 25),⟨some 27,some (24,true),.q (.idxA 4 (.tmp 26) (.const (.int .i64 1))),[]⟩,Gd 24 true (LA 28 4 27),⟨some 29,some (24,true),.q (.build [(.int .u8 0),(.int .i64 0),(.int .i64 0),(.int .i64 0)] []),[]⟩,⟨some 30,some (24,true),.q (.eqA [0,0,0,0] false (.tmp 28) (.tmp 29)),[]⟩,Pk 31 24 30 false,V 32 31,Gd 32 true (FA 33 0 1),Gd 32 true (L 34 33),⟨some 35,some (32,true),.q (.idxA 4 (.tmp 34) (.const (.int .i64 2))),[]⟩,Gd 32 true (LA 36 4 35),⟨some 37,some (32,true),.q (.build [(.int .u8 0),(.int .i64 0),(.int .i64 0),(.int .i64 0)] [(0,1,(.const (.int .u8 11))),(2,1,(.const (.int .i64 1)))]),[]⟩,⟨some 38,some (32,true),.q (.eqA [0,0,0,0] false (.tmp 36) (.tmp 37)),[]⟩,Pk 39 32 38 false,V 40 39,Gd 40 true (FA 41 1 1),Gd 40 true (L 42 41),⟨some 43,some (40,true),.q (.idxA 1 (.tmp 42) (.const (.int .i64 0))),[]⟩,Gd 40 true (L 44 43),Gd 40 true (Bn 45 .eql 44 0),Pk 46 40 45 false,V 47 46,Gd 47 true (FA 48 1 1),Gd 47 true (L 49 48),⟨some 50,some (47,true),.q (.idxA 1 (.tmp 49) (.const (.int .i64 1))),[]⟩,Gd 47 true (L 51 50),Gd 47 true (Bn 52 .eql 51 0),Pk 53 47 52 false,V 54 53,Gd 54 true (FA 55 1 1),Gd 54 true (L 56 55),⟨some 57,some (54,true),.q (.idxA 1 (.tmp 56) (.const (.int .i64 2))),[]⟩,Gd 54 true (L 58 57),Gd 54 true (Bn 59 .eql 58 1),Pk 60 54 59 false,V 0 60]
 .ret))),[.tmp 0],61⟩
theorem c_known20_is:qCd Proofs.Tryz.prog Proofs.Tryz.f5=some (qCb qNq):=by kernel_rfl
theorem call_known20:qCh 5 qNq 61:=fun hl k=>qBh (by kernel_rfl) (by kernel_rfl) c_known20_is (by kernel_rfl) hl k
end Pm
