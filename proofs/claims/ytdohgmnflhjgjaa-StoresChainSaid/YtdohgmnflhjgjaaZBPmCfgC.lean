/- Codes of the program's functions, as a program printed them, and that they are what the program's functions are compiled to.
   No condition: plain facts. -/

import Derived.KernelRfl
import Derived.Test.YtdohgmnflhjgjaaZBPm5
import Derived.Test.YtdohgmnflhjgjaaProg
namespace Pm
set_option linter.unusedSimpArgs false
set_option linter.unusedVariables false
open Go Am
set_option maxRecDepth 100000
def c_RSame01 : AFn :=
⟨(O [T 4 false]
 (.seq (O [V 6 0, Ln 7 6, V 8 1, Ln 9 8, B 10 .neq 7 9]
 (.cond (.tmp 10)
 (O [T 4 false]
 .ret)
 .skip))
 (.seq (O [N 5 0]
 (.block 0 (.loop (.seq (O [V 11 5, V 12 0, Ln 13 12, B 14 .lss 11 13]
 (.cond (.tmp 14)
 .skip
 (.exit 0)))
 (.seq (.block 1 (O [V 17 0, V 18 5, X 19 1 17 18, L 20 19, V 21 1, V 22 5, X 23 1 21 22, L 24 23, B 25 .neq 20 24]
 (.cond (.tmp 25)
 (O [T 4 false]
 .ret)
 .skip)))
 (.ops [V 15 5, Bn 16 .add 15 1, V 5 16]))))))
 (O [T 4 true]
 .ret)))), [.tmp 4], 26⟩
theorem call_RSame01 {args : List Value} {h : Heap} {K : Value → Heap → Prop} (hl : args.length ≤ 26) (k : pwp Proofs.Try.prog c_RSame01.body (BodyK c_RSame01.results K) (enterF args) h) : PCall Proofs.Try.prog 33 args h K :=
  pcall_of (fn := Proofs.Try.f33) (by kernel_rfl) (by kernel_rfl) (by kernel_rfl) (by kernel_rfl) hl k
def c_without : AFn :=
⟨(O [E 4]
 (O [V 10 0, Ln 11 10, ⟨some 12, none, .e (.make [(.bool false)] 1 (.tmp 11) (.tmp 11)), []⟩, V 5 12]
 (.seq (O [V 13 0, Ln 14 13, Bn 15 .gtr 14 0, V 16 15, Gd 16 true (V 17 1), Gd 16 true (Bn 18 .neq 17 0), Pk 19 16 18 false]
 (.cond (.tmp 19)
 (.ops [V 20 5, ⟨some 21, none, .q (.idxA 1 (.tmp 20) (.const (.int .i64 0))), []⟩, ⟨none, none, .e (.store 1 (.tmp 21) (.const (.bool true))), []⟩])
 .skip))
 (.seq (O [T 6 true]
 (.block 0 (.loop (.seq (O [V 22 6]
 (.cond (.tmp 22)
 .skip
 (.exit 0)))
 (.block 1 (O [T 6 false]
 (O [N 7 0]
 (.block 2 (.loop (.seq (O [V 23 7, V 24 0, Ln 25 24, B 26 .lss 23 25]
 (.cond (.tmp 26)
 .skip
 (.exit 2)))
 (.seq (.block 3 (O [N 8 0]
 (.block 4 (.loop (.seq (O [V 29 8, V 30 0, V 31 7, X 32 1 30 31, L 33 32, Ln 34 33, B 35 .lss 29 34, V 36 35, Gd 36 true (V 37 5), Gd 36 true (V 38 7), Gd 36 true (X 39 1 37 38), Gd 36 true (L 40 39), Pk 41 36 40 false]
 (.cond (.tmp 41)
 .skip
 (.exit 4)))
 (.seq (.block 5 (O [V 44 0, V 45 7, X 46 1 44 45, L 47 46, V 48 8, X 49 1 47 48, L 50 49, V 9 50]
 (O [V 51 9, Bn 52 .geq 51 0, V 53 52, Gd 53 true (V 54 9), Gd 53 true (V 55 0), Gd 53 true (Ln 56 55), Gd 53 true (B 57 .lss 54 56), Pk 58 53 57 false, V 59 58, Gd 59 true (V 60 9), Gd 59 true (V 61 1), Gd 59 true (B 62 .neq 60 61), Pk 63 59 62 false, V 64 63, Gd 64 true (V 65 5), Gd 64 true (V 66 9), Gd 64 true (X 67 1 65 66), Gd 64 true (L 68 67), Gd 64 true (Nt 69 68), Pk 70 64 69 false]
 (.cond (.tmp 70)
 (O [V 71 5, V 72 9, X 73 1 71 72, ⟨none, none, .e (.store 1 (.tmp 73) (.const (.bool true))), []⟩]
 (.ops [T 6 true]))
 .skip))))
 (.ops [V 42 8, Bn 43 .add 42 1, V 8 43])))))))
 (.ops [V 27 7, Bn 28 .add 27 1, V 7 28]))))))))))))
 (O [V 74 5, V 4 74]
 .ret))))), [.tmp 4], 75⟩
theorem call_without {args : List Value} {h : Heap} {K : Value → Heap → Prop} (hl : args.length ≤ 75) (k : pwp Proofs.Try.prog c_without.body (BodyK c_without.results K) (enterF args) h) : PCall Proofs.Try.prog 83 args h K :=
  pcall_of (fn := Proofs.Try.f83) (by kernel_rfl) (by kernel_rfl) (by kernel_rfl) (by kernel_rfl) hl k
def c_RReach : AFn :=
⟨(O [E 2]
 (O [V 3 0, ⟨some 4, none, .call 83 [(.tmp 3), (.const (.int .i64 (-1)))], []⟩, V 2 4]
 .ret)), [.tmp 2], 5⟩
theorem call_RReach {args : List Value} {h : Heap} {K : Value → Heap → Prop} (hl : args.length ≤ 5) (k : pwp Proofs.Try.prog c_RReach.body (BodyK c_RReach.results K) (enterF args) h) : PCall Proofs.Try.prog 51 args h K :=
  pcall_of (fn := Proofs.Try.f51) (by kernel_rfl) (by kernel_rfl) (by kernel_rfl) (by kernel_rfl) hl k
def c_RHas : AFn :=
⟨(O [T 4 false]
 (O [V 5 1, Bn 6 .geq 5 0, V 7 6, Gd 7 true (V 8 1), Gd 7 true (Bn 9 .lss 8 64), Pk 10 7 9 false, V 11 10, Gd 11 true (V 12 0), Gd 11 true (V 13 1), ⟨some 14, some (11, true), .call 65 [(.tmp 13)], []⟩, Gd 11 true (B 15 .quo 12 14), Gd 11 true (Bk 16 .rem 15 .u64 2), Gd 11 true (Bk 17 .eql 16 .u64 1), Pk 18 11 17 false, V 4 18]
 .ret)), [.tmp 4], 19⟩
theorem call_RHas {args : List Value} {h : Heap} {K : Value → Heap → Prop} (hl : args.length ≤ 19) (k : pwp Proofs.Try.prog c_RHas.body (BodyK c_RHas.results K) (enterF args) h) : PCall Proofs.Try.prog 27 args h K :=
  pcall_of (fn := Proofs.Try.f27) (by kernel_rfl) (by kernel_rfl) (by kernel_rfl) (by kernel_rfl) hl k
def c_RWith : AFn :=
⟨(O [⟨some 4, none, .q (.val (.const (.int .u64 0))), []⟩]
 (.seq (O [N 5 0]
 (.block 0 (.loop (.seq (O [V 6 5, V 7 1, Ln 8 7, B 9 .lss 6 8]
 (.cond (.tmp 9)
 .skip
 (.exit 0)))
 (.seq (.block 1 (O [V 12 1, V 13 5, X 14 1 12 13, L 15 14, Bn 16 .geq 15 0, V 17 16, Gd 17 true (V 18 1), Gd 17 true (V 19 5), Gd 17 true (X 20 1 18 19), Gd 17 true (L 21 20), Gd 17 true (Bn 22 .lss 21 64), Pk 23 17 22 false, V 24 23, Gd 24 true (V 25 0), Gd 24 true (V 26 1), Gd 24 true (V 27 5), Gd 24 true (X 28 1 26 27), Gd 24 true (L 29 28), ⟨some 30, some (24, true), .call 27 [(.tmp 25), (.tmp 29)], []⟩, Gd 24 true (Nt 31 30), Pk 32 24 31 false]
 (.cond (.tmp 32)
 (.ops [V 33 0, V 34 1, V 35 5, X 36 1 34 35, L 37 36, ⟨some 38, none, .call 65 [(.tmp 37)], []⟩, B 39 .add 33 38, V 0 39])
 .skip)))
 (.ops [V 10 5, Bn 11 .add 10 1, V 5 11]))))))
 (O [V 40 0, V 4 40]
 .ret))), [.tmp 4], 41⟩
theorem call_RWith {args : List Value} {h : Heap} {K : Value → Heap → Prop} (hl : args.length ≤ 41) (k : pwp Proofs.Try.prog c_RWith.body (BodyK c_RWith.results K) (enterF args) h) : PCall Proofs.Try.prog 68 args h K :=
  pcall_of (fn := Proofs.Try.f68) (by kernel_rfl) (by kernel_rfl) (by kernel_rfl) (by kernel_rfl) hl k
def c_RSuccs : AFn :=
⟨(O [E 2]
 (O [E 3]
 (.seq (O [N 4 0]
 (.block 0 (.loop (.seq (O [V 5 4, V 6 0, Ln 7 6, B 8 .lss 5 7]
 (.cond (.tmp 8)
 .skip
 (.exit 0)))
 (.seq (.block 1 (.block 2 (O [V 18 0, V 19 4, X 20 4 18 19, FA 21 0 20, L 22 21, Bk 23 .eql 22 .u8 10, V 17 23]
 (.cond (.tmp 17)
 (.ops [V 24 3, V 25 0, V 26 4, X 27 4 25 26, FA 28 1 27, L 29 28, ⟨some 30, none, .e (.lit [(.int .i64 0)] 1 1 [(0, 1, (.tmp 29))]), []⟩, Z 1 30, ⟨some 31, none, .e (.lit [(.slice none 0 0)] 1 1 [(0, 1, (.tmp 30))]), []⟩, Ap 32 1 24 31, V 3 32])
 (O [V 34 0, V 35 4, X 36 4 34 35, FA 37 0 36, L 38 37, Bk 39 .eql 38 .u8 11, V 40 39, Gd 40 true (V 41 0), Gd 40 true (V 42 4), Gd 40 true (X 43 4 41 42), Gd 40 true (FA 44 2 43), Gd 40 true (L 45 44), Gd 40 true (V 46 4), Gd 40 true (Bn 47 .add 46 1), Gd 40 true (B 48 .lss 45 47), Pk 49 40 48 false, V 33 49]
 (.cond (.tmp 33)
 (.ops [V 50 3, V 51 0, V 52 4, X 53 4 51 52, FA 54 2 53, L 55 54, V 56 4, Bn 57 .add 56 1, ⟨some 58, none, .e (.lit [(.int .i64 0), (.int .i64 0)] 1 2 [(0, 1, (.tmp 55)), (1, 1, (.tmp 57))]), []⟩, Z 1 58, ⟨some 59, none, .e (.lit [(.slice none 0 0)] 1 1 [(0, 1, (.tmp 58))]), []⟩, Ap 60 1 50 59, V 3 60])
 (O [V 62 0, V 63 4, X 64 4 62 63, FA 65 0 64, L 66 65, Bk 67 .eql 66 .u8 11, V 68 67, Gd 68 true (V 69 0), Gd 68 true (V 70 4), Gd 68 true (X 71 4 69 70), Gd 68 true (FA 72 2 71), Gd 68 true (L 73 72), Gd 68 true (V 74 4), Gd 68 true (Bn 75 .add 74 1), Gd 68 true (B 76 .gtr 73 75), Pk 77 68 76 false, V 61 77]
 (.cond (.tmp 61)
 (.ops [V 78 3, V 79 4, Bn 80 .add 79 1, V 81 0, V 82 4, X 83 4 81 82, FA 84 2 83, L 85 84, ⟨some 86, none, .e (.lit [(.int .i64 0), (.int .i64 0)] 1 2 [(0, 1, (.tmp 80)), (1, 1, (.tmp 85))]), []⟩, Z 1 86, ⟨some 87, none, .e (.lit [(.slice none 0 0)] 1 1 [(0, 1, (.tmp 86))]), []⟩, Ap 88 1 78 87, V 3 88])
 (.ops [V 11 3, V 12 4, Bn 13 .add 12 1, ⟨some 14, none, .e (.lit [(.int .i64 0)] 1 1 [(0, 1, (.tmp 13))]), []⟩, Z 1 14, ⟨some 15, none, .e (.lit [(.slice none 0 0)] 1 1 [(0, 1, (.tmp 14))]), []⟩, Ap 16 1 11 15, V 3 16])))))))))
 (.ops [V 9 4, Bn 10 .add 9 1, V 4 10]))))))
 (O [V 89 3, V 2 89]
 .ret)))), [.tmp 2], 90⟩
theorem call_RSuccs {args : List Value} {h : Heap} {K : Value → Heap → Prop} (hl : args.length ≤ 90) (k : pwp Proofs.Try.prog c_RSuccs.body (BodyK c_RSuccs.results K) (enterF args) h) : PCall Proofs.Try.prog 66 args h K :=
  pcall_of (fn := Proofs.Try.f66) (by kernel_rfl) (by kernel_rfl) (by kernel_rfl) (by kernel_rfl) hl k
end Pm
/- Codes of the program's functions, as a program printed them, and that they are what the program's functions are compiled to.
   No condition: plain facts. -/
namespace Pm
set_option linter.unusedSimpArgs false
set_option linter.unusedVariables false
open Go Am
set_option maxRecDepth 100000
@[irreducible] def len8tab : ByteArray := ⟨#[0, 1, 2, 2, 3, 3, 3, 3, 4, 4, 4, 4, 4, 4, 4, 4, 5, 5, 5, 5, 5, 5, 5, 5, 5, 5, 5, 5, 5, 5, 5, 5, 6, 6, 6, 6, 6, 6, 6, 6, 6, 6, 6, 6, 6, 6, 6, 6, 6, 6, 6, 6, 6, 6, 6, 6, 6, 6, 6, 6, 6, 6, 6, 6, 7, 7, 7, 7, 7, 7, 7, 7, 7, 7, 7, 7, 7, 7, 7, 7, 7, 7, 7, 7, 7, 7, 7, 7, 7, 7, 7, 7, 7, 7, 7, 7, 7, 7, 7, 7, 7, 7, 7, 7, 7, 7, 7, 7, 7, 7, 7, 7, 7, 7, 7, 7, 7, 7, 7, 7, 7, 7, 7, 7, 7, 7, 7, 7, 8, 8, 8, 8, 8, 8, 8, 8, 8, 8, 8, 8, 8, 8, 8, 8, 8, 8, 8, 8, 8, 8, 8, 8, 8, 8, 8, 8, 8, 8, 8, 8, 8, 8, 8, 8, 8, 8, 8, 8, 8, 8, 8, 8, 8, 8, 8, 8, 8, 8, 8, 8, 8, 8, 8, 8, 8, 8, 8, 8, 8, 8, 8, 8, 8, 8, 8, 8, 8, 8, 8, 8, 8, 8, 8, 8, 8, 8, 8, 8, 8, 8, 8, 8, 8, 8, 8, 8, 8, 8, 8, 8, 8, 8, 8, 8, 8, 8, 8, 8, 8, 8, 8, 8, 8, 8, 8, 8, 8, 8, 8, 8, 8, 8, 8, 8, 8, 8, 8, 8, 8, 8, 8, 8, 8, 8, 8, 8]⟩
def c_SortI : AFn :=
⟨(O [V 3 0, Ln 4 3, V 2 4]
 (.ops [V 5 0, V 6 2, V 7 2, Cv' 8 .u64 7, ⟨some 9, none, .call 103 [(.tmp 8)], []⟩, ⟨some 10, none, .call 102 [(.tmp 5), (.const (.int .i64 0)), (.tmp 6), (.tmp 9)], []⟩])), [], 11⟩
theorem call_SortI {args : List Value} {h : Heap} {K : Value → Heap → Prop} (hl : args.length ≤ 11) (k : pwp Proofs.Try.prog c_SortI.body (BodyK c_SortI.results K) (enterF args) h) : PCall Proofs.Try.prog 80 args h K :=
  pcall_of (fn := Proofs.Try.f80) (by kernel_rfl) (by kernel_rfl) (by kernel_rfl) (by kernel_rfl) hl k
def c_pdqI : AFn :=
⟨(O [T 8 true]
 (O [T 9 true]
 (.block 0 (.loop (.block 1 (O [V 19 2, V 20 1, B 21 .sub 19 20, V 10 21]
 (.seq (O [V 22 10, Bn 23 .leq 22 12]
 (.cond (.tmp 23)
 (O [V 24 0, V 25 1, V 26 2, ⟨some 27, none, .call 111 [(.tmp 24), (.tmp 25), (.tmp 26)], []⟩]
 .ret)
 .skip))
 (.seq (O [V 28 3, Bn 29 .eql 28 0]
 (.cond (.tmp 29)
 (O [V 30 0, V 31 1, V 32 2, ⟨some 33, none, .call 112 [(.tmp 30), (.tmp 31), (.tmp 32)], []⟩]
 .ret)
 .skip))
 (.seq (O [V 34 8, Nt 35 34]
 (.cond (.tmp 35)
 (O [V 36 0, V 37 1, V 38 2, ⟨some 39, none, .call 113 [(.tmp 36), (.tmp 37), (.tmp 38)], []⟩]
 (.ops [V 40 3, Bn 41 .sub 40 1, V 3 41]))
 .skip))
 (O [V 43 0, V 44 1, V 45 2, ⟨some 46, none, .call 114 [(.tmp 43), (.tmp 44), (.tmp 45)], []⟩, V 42 46, ⟨some 47, none, .q (.ext (.tmp 42) 0), []⟩, ⟨some 48, none, .q (.ext (.tmp 42) 1), []⟩, V 11 47, V 12 48]
 (.seq (O [V 49 12, Bn 50 .eql 49 2]
 (.cond (.tmp 50)
 (O [V 51 0, V 52 1, V 53 2, ⟨some 54, none, .call 115 [(.tmp 51), (.tmp 52), (.tmp 53)], []⟩]
 (O [V 55 2, Bn 56 .sub 55 1, V 57 11, V 58 1, B 59 .sub 57 58, B 60 .sub 56 59, V 11 60]
 (.ops [N 12 1])))
 .skip))
 (.seq (O [V 61 8, V 62 61, Gd 62 true (V 63 9), Pk 64 62 63 false, V 65 64, Gd 65 true (V 66 12), Gd 65 true (Bn 67 .eql 66 1), Pk 68 65 67 false]
 (.cond (.tmp 68)
 (O [V 69 0, V 70 1, V 71 2, ⟨some 72, none, .call 116 [(.tmp 69), (.tmp 70), (.tmp 71)], []⟩]
 (.cond (.tmp 72)
 .ret
 .skip))
 .skip))
 (.seq (O [V 73 1, Bn 74 .gtr 73 0, V 75 74, Gd 75 true (V 76 0), Gd 75 true (V 77 1), Gd 75 true (Bn 78 .sub 77 1), Gd 75 true (X 79 1 76 78), Gd 75 true (L 80 79), Gd 75 true (V 81 0), Gd 75 true (V 82 11), Gd 75 true (X 83 1 81 82), Gd 75 true (L 84 83), ⟨some 85, some (75, true), .call 117 [(.tmp 80), (.tmp 84)], []⟩, Gd 75 true (Nt 86 85), Pk 87 75 86 false]
 (.cond (.tmp 87)
 (O [V 88 0, V 89 1, V 90 2, V 91 11, ⟨some 92, none, .call 118 [(.tmp 88), (.tmp 89), (.tmp 90), (.tmp 91)], []⟩, V 13 92]
 (O [V 93 13, V 1 93]
 (.exit 1)))
 .skip))
 (O [V 95 0, V 96 1, V 97 2, V 98 11, ⟨some 99, none, .call 119 [(.tmp 95), (.tmp 96), (.tmp 97), (.tmp 98)], []⟩, V 94 99, ⟨some 100, none, .q (.ext (.tmp 94) 0), []⟩, ⟨some 101, none, .q (.ext (.tmp 94) 1), []⟩, V 14 100, V 15 101]
 (O [V 102 15, V 9 102]
 (O [V 103 14, V 104 1, B 105 .sub 103 104, V 106 2, V 107 14, B 108 .sub 106 107, V 16 105, V 17 108]
 (O [V 109 10, Bn 110 .quo 109 8, V 18 110]
 (O [V 111 16, V 112 17, B 113 .lss 111 112]
 (.cond (.tmp 113)
 (O [V 114 16, V 115 18, B 116 .geq 114 115, V 8 116]
 (O [V 117 0, V 118 1, V 119 14, V 120 3, ⟨some 121, none, .call 102 [(.tmp 117), (.tmp 118), (.tmp 119), (.tmp 120)], []⟩]
 (.ops [V 122 14, Bn 123 .add 122 1, V 1 123])))
 (O [V 124 17, V 125 18, B 126 .geq 124 125, V 8 126]
 (O [V 127 0, V 128 14, Bn 129 .add 128 1, V 130 2, V 131 3, ⟨some 132, none, .call 102 [(.tmp 127), (.tmp 129), (.tmp 130), (.tmp 131)], []⟩]
 (.ops [V 133 14, V 2 133])))))))))))))))))))))), [], 134⟩
theorem call_pdqI {args : List Value} {h : Heap} {K : Value → Heap → Prop} (hl : args.length ≤ 134) (k : pwp Proofs.Try.prog c_pdqI.body (BodyK c_pdqI.results K) (enterF args) h) : PCall Proofs.Try.prog 102 args h K :=
  pcall_of (fn := Proofs.Try.f102) (by kernel_rfl) (by kernel_rfl) (by kernel_rfl) (by kernel_rfl) hl k
def c_insI : AFn :=
⟨(O [V 8 1, Bn 9 .add 8 1, V 6 9]
 (.block 0 (.loop (.seq (O [V 10 6, V 11 2, B 12 .lss 10 11]
 (.cond (.tmp 12)
 .skip
 (.exit 0)))
 (.seq (.block 1 (O [V 15 6, V 7 15]
 (.block 2 (.loop (.seq (O [V 16 7, V 17 1, B 18 .gtr 16 17, V 19 18, Gd 19 true (V 20 0), Gd 19 true (V 21 7), Gd 19 true (X 22 1 20 21), Gd 19 true (L 23 22), Gd 19 true (V 24 0), Gd 19 true (V 25 7), Gd 19 true (Bn 26 .sub 25 1), Gd 19 true (X 27 1 24 26), Gd 19 true (L 28 27), ⟨some 29, some (19, true), .call 117 [(.tmp 23), (.tmp 28)], []⟩, Pk 30 19 29 false]
 (.cond (.tmp 30)
 .skip
 (.exit 2)))
 (.seq (.block 3 (.ops [V 33 0, V 34 7, V 35 0, V 36 7, Bn 37 .sub 36 1, V 38 0, V 39 7, Bn 40 .sub 39 1, X 41 1 38 40, L 42 41, V 43 0, V 44 7, X 45 1 43 44, L 46 45, X 47 1 33 34, S 47 42, X 48 1 35 37, S 48 46]))
 (.ops [V 31 7, Bn 32 .sub 31 1, V 7 32])))))))
 (.ops [V 13 6, Bn 14 .add 13 1, V 6 14])))))), [], 49⟩
theorem call_insI {args : List Value} {h : Heap} {K : Value → Heap → Prop} (hl : args.length ≤ 49) (k : pwp Proofs.Try.prog c_insI.body (BodyK c_insI.results K) (enterF args) h) : PCall Proofs.Try.prog 111 args h K :=
  pcall_of (fn := Proofs.Try.f111) (by kernel_rfl) (by kernel_rfl) (by kernel_rfl) (by kernel_rfl) hl k
def c_LessI : AFn :=
⟨(O [T 4 false]
 (O [V 5 0, ⟨some 6, none, .call 139 [(.tmp 5)], []⟩, V 7 6, Gd 7 true (V 8 1), ⟨some 9, some (7, true), .call 139 [(.tmp 8)], []⟩, Gd 7 true (Nt 10 9), Pk 11 7 10 false, V 12 11, Gd 12 false (V 13 0), Gd 12 false (V 14 1), Gd 12 false (B 15 .lss 13 14), ⟨some 16, none, .q (.pick (.tmp 12) (.const (.bool true)) (.tmp 15)), []⟩, V 4 16]
 .ret)), [.tmp 4], 17⟩
theorem call_LessI {args : List Value} {h : Heap} {K : Value → Heap → Prop} (hl : args.length ≤ 17) (k : pwp Proofs.Try.prog c_LessI.body (BodyK c_LessI.results K) (enterF args) h) : PCall Proofs.Try.prog 117 args h K :=
  pcall_of (fn := Proofs.Try.f117) (by kernel_rfl) (by kernel_rfl) (by kernel_rfl) (by kernel_rfl) hl k
def c_isNaNI : AFn :=
⟨(O [T 2 false]
 (O [V 3 0, V 4 0, B 5 .neq 3 4, V 2 5]
 .ret)), [.tmp 2], 6⟩
theorem call_isNaNI {args : List Value} {h : Heap} {K : Value → Heap → Prop} (hl : args.length ≤ 6) (k : pwp Proofs.Try.prog c_isNaNI.body (BodyK c_isNaNI.results K) (enterF args) h) : PCall Proofs.Try.prog 139 args h K :=
  pcall_of (fn := Proofs.Try.f139) (by kernel_rfl) (by kernel_rfl) (by kernel_rfl) (by kernel_rfl) hl k
def c_LenU : AFn :=
⟨(O [N 2 0]
 (.seq (.cond (.const (.bool false))
 (O [V 3 0, Cv' 4 .u32 3, ⟨some 5, none, .call 120 [(.tmp 4)], []⟩, V 2 5]
 .ret)
 .skip)
 (O [V 6 0, ⟨some 7, none, .call 121 [(.tmp 6)], []⟩, V 2 7]
 .ret))), [.tmp 2], 8⟩
theorem call_LenU {args : List Value} {h : Heap} {K : Value → Heap → Prop} (hl : args.length ≤ 8) (k : pwp Proofs.Try.prog c_LenU.body (BodyK c_LenU.results K) (enterF args) h) : PCall Proofs.Try.prog 103 args h K :=
  pcall_of (fn := Proofs.Try.f103) (by kernel_rfl) (by kernel_rfl) (by kernel_rfl) (by kernel_rfl) hl k
def c_Len64 : AFn :=
⟨(O [N 2 0]
 (.seq (O [V 3 0, Bk 4 .geq 3 .u64 4294967296]
 (.cond (.tmp 4)
 (O [V 5 0, Bk 6 .shr 5 .u64 32, V 0 6]
 (.ops [N 2 32]))
 .skip))
 (.seq (O [V 7 0, Bk 8 .geq 7 .u64 65536]
 (.cond (.tmp 8)
 (O [V 9 0, Bk 10 .shr 9 .u64 16, V 0 10]
 (.ops [V 11 2, Bn 12 .add 11 16, V 2 12]))
 .skip))
 (.seq (O [V 13 0, Bk 14 .geq 13 .u64 256]
 (.cond (.tmp 14)
 (O [V 15 0, Bk 16 .shr 15 .u64 8, V 0 16]
 (.ops [V 17 2, Bn 18 .add 17 8, V 2 18]))
 .skip))
 (O [V 19 2, V 20 0, Cv' 21 .u8 20, ⟨some 22, none, .q (.idxS (.const (.string len8tab)) (.tmp 21)), []⟩, Cv' 23 .i64 22, B 24 .add 19 23, V 2 24]
 .ret))))), [.tmp 2], 25⟩
theorem call_Len64 {args : List Value} {h : Heap} {K : Value → Heap → Prop} (hl : args.length ≤ 25) (k : pwp Proofs.Try.prog c_Len64.body (BodyK c_Len64.results K) (enterF args) h) : PCall Proofs.Try.prog 121 args h K :=
  pcall_of (fn := Proofs.Try.f121) (by kernel_rfl) (by kernel_rfl) (by kernel_rfl) (by kernel_rfl) hl k
def c_CompactI : AFn :=
⟨(O [E 2]
 (.seq (O [V 6 0, Ln 7 6, Bn 8 .lss 7 2]
 (.cond (.tmp 8)
 (O [V 9 0, V 2 9]
 .ret)
 .skip))
 (.seq (O [N 3 1]
 (.block 0 (.loop (.seq (O [V 10 3, V 11 0, Ln 12 11, B 13 .lss 10 12]
 (.cond (.tmp 13)
 .skip
 (.exit 0)))
 (.seq (.block 1 (O [V 16 0, V 17 3, X 18 1 16 17, L 19 18, V 20 0, V 21 3, Bn 22 .sub 21 1, X 23 1 20 22, L 24 23, B 25 .eql 19 24]
 (.cond (.tmp 25)
 (O [V 26 0, V 27 3, ⟨some 28, none, .q (.cut 1 (.tmp 26) (some (.tmp 27)) none), []⟩, V 4 28]
 (.seq (O [N 5 1]
 (.block 2 (.loop (.seq (O [V 29 5, V 30 4, Ln 31 30, B 32 .lss 29 31]
 (.cond (.tmp 32)
 .skip
 (.exit 2)))
 (.seq (.block 3 (O [V 35 4, V 36 5, X 37 1 35 36, L 38 37, V 39 4, V 40 5, Bn 41 .sub 40 1, X 42 1 39 41, L 43 42, B 44 .neq 38 43]
 (.cond (.tmp 44)
 (O [V 45 0, V 46 3, V 47 4, V 48 5, X 49 1 47 48, L 50 49, X 51 1 45 46, S 51 50]
 (.ops [V 52 3, Bn 53 .add 52 1, V 3 53]))
 .skip)))
 (.ops [V 33 5, Bn 34 .add 33 1, V 5 34]))))))
 (O [V 54 0, V 55 3, ⟨some 56, none, .q (.cut 1 (.tmp 54) (some (.tmp 55)) none), []⟩, ⟨none, none, .e (.clear [(.int .i64 0)] (.tmp 56)), []⟩]
 (O [V 57 0, V 58 3, ⟨some 59, none, .q (.cut 1 (.tmp 57) none (some (.tmp 58))), []⟩, V 2 59]
 .ret))))
 .skip)))
 (.ops [V 14 3, Bn 15 .add 14 1, V 3 15]))))))
 (O [V 60 0, V 2 60]
 .ret)))), [.tmp 2], 61⟩
theorem call_CompactI {args : List Value} {h : Heap} {K : Value → Heap → Prop} (hl : args.length ≤ 61) (k : pwp Proofs.Try.prog c_CompactI.body (BodyK c_CompactI.results K) (enterF args) h) : PCall Proofs.Try.prog 81 args h K :=
  pcall_of (fn := Proofs.Try.f81) (by kernel_rfl) (by kernel_rfl) (by kernel_rfl) (by kernel_rfl) hl k
def c_Succs : AFn :=
⟨(O [E 2]
 (O [V 7 0, Ln 8 7, ⟨some 9, none, .e (.make [(.slice none 0 0)] 1 (.tmp 8) (.tmp 8)), []⟩, V 3 9]
 (.seq (O [V 10 0, Ln 11 10, N 12 0]
 (.block 0 (.loop (O [B 13 .lss 12 11]
 (.seq (.cond (.tmp 13)
 .skip
 (.exit 0))
 (.seq (.block 1 (O [V 14 12, X 15 4 10 12, LA 16 4 15, ⟨some 5, none, .e (.new [(.int .u8 0), (.int .i64 0), (.int .i64 0), (.int .i64 0)] 4), []⟩, V 4 14, ⟨none, none, .e (.store 4 (.tmp 5) (.tmp 16)), []⟩]
 (O [V 17 4, Bn 18 .add 17 1, ⟨some 19, none, .e (.lit [(.int .i64 0)] 1 1 [(0, 1, (.tmp 18))]), []⟩, V 6 19]
 (.seq (O [FA 20 0 5, L 21 20]
 (.block 2 (O [Bk 23 .eql 21 .u8 10, V 22 23]
 (.cond (.tmp 22)
 (.ops [V 24 6, FA 25 1 5, L 26 25, ⟨some 27, none, .q (.idxA 1 (.tmp 24) (.const (.int .i64 0))), []⟩, S 27 26])
 (O [Bk 29 .eql 21 .u8 11, V 28 29]
 (.cond (.tmp 28)
 (.ops [V 30 6, FA 31 2 5, L 32 31, ⟨some 33, none, .e (.lit [(.int .i64 0)] 1 1 [(0, 1, (.tmp 32))]), []⟩, Ap 34 1 30 33, V 6 34])
 .skip))))))
 (O [V 35 6, ⟨some 36, none, .call 80 [(.tmp 35)], []⟩]
 (.ops [V 37 3, V 38 4, V 39 6, ⟨some 40, none, .call 81 [(.tmp 39)], []⟩, Z 1 40, X 41 1 37 38, S 41 40]))))))
 (.ops [Bn 42 .add 12 1, V 12 42])))))))
 (O [V 43 3, V 2 43]
 .ret)))), [.tmp 2], 44⟩
theorem call_Succs {args : List Value} {h : Heap} {K : Value → Heap → Prop} (hl : args.length ≤ 44) (k : pwp Proofs.Try.prog c_Succs.body (BodyK c_Succs.results K) (enterF args) h) : PCall Proofs.Try.prog 45 args h K :=
  pcall_of (fn := Proofs.Try.f45) (by kernel_rfl) (by kernel_rfl) (by kernel_rfl) (by kernel_rfl) hl k
end Pm
/- Codes of the program's functions, as a program printed them, and that they are what the program's functions are compiled to.
   No condition: plain facts. -/
namespace Pm
set_option linter.unusedSimpArgs false
set_option linter.unusedVariables false
open Go Am
set_option maxRecDepth 100000
def c_MkIns : AFn :=
⟨(O [⟨some 8, none, .e (.new [(.int .u8 0), (.int .i64 0), (.int .i64 0), (.int .i64 0)] 4), []⟩]
 (O [⟨some 14, none, .e (.lit [(.int .u8 0), (.int .u8 0), (.int .u8 0), (.int .u8 0), (.int .u8 0), (.int .u8 0), (.int .u8 0), (.int .u8 0), (.int .u8 0), (.int .u8 0), (.int .u8 0), (.int .u8 0), (.int .u8 0), (.int .u8 0), (.int .u8 0), (.int .u8 0), (.int .u8 0), (.int .u8 0), (.int .u8 0), (.int .u8 0), (.int .u8 0), (.int .u8 0), (.int .u8 0), (.int .u8 0), (.int .u8 0), (.int .u8 0), (.int .u8 0), (.int .u8 0), (.int .u8 0), (.int .u8 0), (.int .u8 0), (.int .u8 0), (.int .u8 0), (.int .u8 0), (.int .u8 0), (.int .u8 0)] 1 36 [(0, 1, (.const (.int .u8 7))), (1, 1, (.const (.int .u8 8))), (2, 1, (.const (.int .u8 9))), (3, 1, (.const (.int .u8 1))), (4, 1, (.const (.int .u8 3))), (5, 1, (.const (.int .u8 7))), (6, 1, (.const (.int .u8 8))), (7, 1, (.const (.int .u8 9))), (8, 1, (.const (.int .u8 13))), (9, 1, (.const (.int .u8 14))), (10, 1, (.const (.int .u8 15))), (11, 1, (.const (.int .u8 16))), (12, 1, (.const (.int .u8 17))), (13, 1, (.const (.int .u8 18))), (14, 1, (.const (.int .u8 19))), (15, 1, (.const (.int .u8 20))), (16, 1, (.const (.int .u8 21))), (17, 1, (.const (.int .u8 22))), (18, 1, (.const (.int .u8 23))), (19, 1, (.const (.int .u8 24))), (20, 1, (.const (.int .u8 25))), (21, 1, (.const (.int .u8 26))), (22, 1, (.const (.int .u8 27))), (23, 1, (.const (.int .u8 11))), (24, 1, (.const (.int .u8 10))), (25, 1, (.const (.int .u8 0))), (26, 1, (.const (.int .u8 2))), (27, 1, (.const (.int .u8 4))), (28, 1, (.const (.int .u8 5))), (29, 1, (.const (.int .u8 6))), (30, 1, (.const (.int .u8 7))), (31, 1, (.const (.int .u8 8))), (32, 1, (.const (.int .u8 13))), (33, 1, (.const (.int .u8 14))), (34, 1, (.const (.int .u8 9))), (35, 1, (.const (.int .u8 8)))]), []⟩, V 9 14]
 (O [V 15 9, V 16 0, Cv' 17 .i64 16, V 18 9, Ln 19 18, B 20 .rem 17 19, X 21 1 15 20, L 22 21, V 10 22]
 (O [V 23 1, Bk 24 .rem 23 .u8 4, Cv' 25 .i64 24, V 11 25]
 (O [V 26 1, Bk 27 .quo 26 .u8 4, Bk 28 .rem 27 .u8 4, Cv' 29 .i64 28, V 12 29]
 (O [V 30 1, Bk 31 .quo 30 .u8 16, Bk 32 .rem 31 .u8 2, Cv' 33 .i64 32, V 13 33]
 (.seq (O [V 34 10]
 (.block 0 (O [Bk 36 .eql 34 .u8 1, V 35 36]
 (.cond (.tmp 35)
 (O [V 37 10, V 38 11, V 39 1, Bk 40 .quo 39 .u8 4, Bk 41 .rem 40 .u8 8, Cv' 42 .i64 41, ⟨some 43, none, .q (.build [(.int .u8 0), (.int .i64 0), (.int .i64 0), (.int .i64 0)] [(0, 1, (.tmp 37)), (1, 1, (.tmp 38)), (2, 1, (.tmp 42))]), []⟩, ⟨none, none, .e (.store 4 (.tmp 8) (.tmp 43)), []⟩]
 .ret)
 (O [Bk 45 .eql 34 .u8 2, V 44 45]
 (.cond (.tmp 44)
 (O [V 46 10, V 47 11, V 48 12, ⟨some 49, none, .q (.build [(.int .u8 0), (.int .i64 0), (.int .i64 0), (.int .i64 0)] [(0, 1, (.tmp 46)), (1, 1, (.tmp 47)), (2, 1, (.tmp 48))]), []⟩, ⟨none, none, .e (.store 4 (.tmp 8) (.tmp 49)), []⟩]
 .ret)
 (.seq (O [Bk 51 .eql 34 .u8 3, V 50 51]
 (.cond (.tmp 50)
 .skip
 (O [Bk 52 .eql 34 .u8 4, V 50 52]
 (.cond (.tmp 50)
 .skip
 (O [Bk 53 .eql 34 .u8 5, V 50 53]
 (.cond (.tmp 50)
 .skip
 (.ops [Bk 54 .eql 34 .u8 6, V 50 54])))))))
 (.cond (.tmp 50)
 (O [V 55 10, V 56 11, V 57 12, V 58 1, Bk 59 .quo 58 .u8 16, Bk 60 .rem 59 .u8 4, Cv' 61 .i64 60, ⟨some 62, none, .q (.build [(.int .u8 0), (.int .i64 0), (.int .i64 0), (.int .i64 0)] [(0, 1, (.tmp 55)), (1, 1, (.tmp 56)), (2, 1, (.tmp 57)), (3, 1, (.tmp 61))]), []⟩, ⟨none, none, .e (.store 4 (.tmp 8) (.tmp 62)), []⟩]
 .ret)
 (O [Bk 64 .eql 34 .u8 7, V 63 64]
 (.cond (.tmp 63)
 (O [V 65 10, V 66 11, V 67 13, ⟨some 68, none, .q (.build [(.int .u8 0), (.int .i64 0), (.int .i64 0), (.int .i64 0)] [(0, 1, (.tmp 65)), (1, 1, (.tmp 66)), (2, 1, (.tmp 67))]), []⟩, ⟨none, none, .e (.store 4 (.tmp 8) (.tmp 68)), []⟩]
 .ret)
 (O [Bk 70 .eql 34 .u8 8, V 69 70]
 (.cond (.tmp 69)
 (O [V 71 10, V 72 13, V 73 11, ⟨some 74, none, .q (.build [(.int .u8 0), (.int .i64 0), (.int .i64 0), (.int .i64 0)] [(0, 1, (.tmp 71)), (1, 1, (.tmp 72)), (2, 1, (.tmp 73))]), []⟩, ⟨none, none, .e (.store 4 (.tmp 8) (.tmp 74)), []⟩]
 .ret)
 (O [Bk 76 .eql 34 .u8 9, V 75 76]
 (.cond (.tmp 75)
 (O [V 77 10, V 78 11, ⟨some 79, none, .q (.build [(.int .u8 0), (.int .i64 0), (.int .i64 0), (.int .i64 0)] [(0, 1, (.tmp 77)), (1, 1, (.tmp 78))]), []⟩, ⟨none, none, .e (.store 4 (.tmp 8) (.tmp 79)), []⟩]
 .ret)
 (O [Bk 81 .eql 34 .u8 10, V 80 81]
 (.cond (.tmp 80)
 (O [V 82 10, V 83 2, Bn 84 .add 83 1, V 85 12, B 86 .add 84 85, V 87 3, ⟨some 88, none, .q (.mm false (.tmp 86) [(.tmp 87)]), []⟩, ⟨some 89, none, .q (.build [(.int .u8 0), (.int .i64 0), (.int .i64 0), (.int .i64 0)] [(0, 1, (.tmp 82)), (1, 1, (.tmp 88))]), []⟩, ⟨none, none, .e (.store 4 (.tmp 8) (.tmp 89)), []⟩]
 .ret)
 (O [Bk 91 .eql 34 .u8 11, V 90 91]
 (.cond (.tmp 90)
 (.seq (O [V 92 1, Bk 93 .geq 92 .u8 200]
 (.cond (.tmp 93)
 (O [V 94 10, V 95 11, V 96 2, V 97 12, B 98 .sub 96 97, ⟨some 99, none, .q (.mm true (.tmp 98) [(.const (.int .i64 0))]), []⟩, ⟨some 100, none, .q (.build [(.int .u8 0), (.int .i64 0), (.int .i64 0), (.int .i64 0)] [(0, 1, (.tmp 94)), (1, 1, (.tmp 95)), (2, 1, (.tmp 99))]), []⟩, ⟨none, none, .e (.store 4 (.tmp 8) (.tmp 100)), []⟩]
 .ret)
 .skip))
 (O [V 101 10, V 102 11, V 103 2, Bn 104 .add 103 1, V 105 12, B 106 .add 104 105, V 107 3, ⟨some 108, none, .q (.mm false (.tmp 106) [(.tmp 107)]), []⟩, ⟨some 109, none, .q (.build [(.int .u8 0), (.int .i64 0), (.int .i64 0), (.int .i64 0)] [(0, 1, (.tmp 101)), (1, 1, (.tmp 102)), (2, 1, (.tmp 108))]), []⟩, ⟨none, none, .e (.store 4 (.tmp 8) (.tmp 109)), []⟩]
 .ret))
 (O [Bk 111 .eql 34 .u8 18, V 110 111]
 (.cond (.tmp 110)
 (O [V 112 10, V 113 11, ⟨some 114, none, .q (.build [(.int .u8 0), (.int .i64 0), (.int .i64 0), (.int .i64 0)] [(0, 1, (.tmp 112)), (2, 1, (.tmp 113))]), []⟩, ⟨none, none, .e (.store 4 (.tmp 8) (.tmp 114)), []⟩]
 .ret)
 (O [Bk 116 .eql 34 .u8 19, V 115 116]
 (.cond (.tmp 115)
 (O [V 117 10, V 118 11, V 119 12, ⟨some 120, none, .q (.build [(.int .u8 0), (.int .i64 0), (.int .i64 0), (.int .i64 0)] [(0, 1, (.tmp 117)), (1, 1, (.tmp 118)), (3, 1, (.tmp 119))]), []⟩, ⟨none, none, .e (.store 4 (.tmp 8) (.tmp 120)), []⟩]
 .ret)
 (O [Bk 122 .eql 34 .u8 20, V 121 122]
 (.cond (.tmp 121)
 (O [V 123 10, V 124 11, ⟨some 125, none, .q (.build [(.int .u8 0), (.int .i64 0), (.int .i64 0), (.int .i64 0)] [(0, 1, (.tmp 123)), (2, 1, (.tmp 124))]), []⟩, ⟨none, none, .e (.store 4 (.tmp 8) (.tmp 125)), []⟩]
 .ret)
 (.seq (O [Bk 127 .eql 34 .u8 17, V 126 127]
 (.cond (.tmp 126)
 .skip
 (O [Bk 128 .eql 34 .u8 21, V 126 128]
 (.cond (.tmp 126)
 .skip
 (.ops [Bk 129 .eql 34 .u8 26, V 126 129])))))
 (.cond (.tmp 126)
 (O [V 130 10, V 131 11, ⟨some 132, none, .q (.build [(.int .u8 0), (.int .i64 0), (.int .i64 0), (.int .i64 0)] [(0, 1, (.tmp 130)), (1, 1, (.tmp 131))]), []⟩, ⟨none, none, .e (.store 4 (.tmp 8) (.tmp 132)), []⟩]
 .ret)
 (O [Bk 134 .eql 34 .u8 22, V 133 134]
 (.cond (.tmp 133)
 (O [V 135 10, V 136 11, V 137 12, ⟨some 138, none, .q (.build [(.int .u8 0), (.int .i64 0), (.int .i64 0), (.int .i64 0)] [(0, 1, (.tmp 135)), (1, 1, (.tmp 136)), (3, 1, (.tmp 137))]), []⟩, ⟨none, none, .e (.store 4 (.tmp 8) (.tmp 138)), []⟩]
 .ret)
 (O [Bk 140 .eql 34 .u8 24, V 139 140]
 (.cond (.tmp 139)
 (O [V 141 10, V 142 1, Bk 143 .rem 142 .u8 3, Cv' 144 .i64 143, Bn 145 .sub 144 1, ⟨some 146, none, .q (.build [(.int .u8 0), (.int .i64 0), (.int .i64 0), (.int .i64 0)] [(0, 1, (.tmp 141)), (2, 1, (.tmp 145))]), []⟩, ⟨none, none, .e (.store 4 (.tmp 8) (.tmp 146)), []⟩]
 .ret)
 .skip))))))))))))))))))))))))))))))
 (O [V 147 10, ⟨some 148, none, .q (.build [(.int .u8 0), (.int .i64 0), (.int .i64 0), (.int .i64 0)] [(0, 1, (.tmp 147))]), []⟩, ⟨none, none, .e (.store 4 (.tmp 8) (.tmp 148)), []⟩]
 .ret)))))))), [.cells 8 4], 149⟩
theorem call_MkIns {args : List Value} {h : Heap} {K : Value → Heap → Prop} (hl : args.length ≤ 149) (k : pwp Proofs.Try.prog c_MkIns.body (BodyK c_MkIns.results K) (enterF args) h) : PCall Proofs.Try.prog 56 args h K :=
  pcall_of (fn := Proofs.Try.f56) (by kernel_rfl) (by kernel_rfl) (by kernel_rfl) (by kernel_rfl) hl k
def c_Make : AFn :=
⟨(O [⟨some 2, none, .e (.new [(.int .i64 0), (.int .i64 0), (.int .i64 0), (.slice none 0 0), (.int .i64 0), (.int .i64 0), (.slice none 0 0)] 7), []⟩]
 (O [⟨some 12, none, .e (.lit [(.int .i64 0)] 1 1 [(0, 1, (.const (.int .i64 1)))]), []⟩, ⟨some 13, none, .q (.build [(.int .i64 0), (.int .i64 0), (.int .i64 0), (.slice none 0 0), (.int .i64 0), (.int .i64 0), (.slice none 0 0)] [(0, 1, (.const (.int .i64 2))), (1, 1, (.const (.int .i64 1))), (2, 1, (.const (.int .i64 1))), (3, 1, (.tmp 12)), (4, 1, (.const (.int .i64 1))), (5, 1, (.const (.int .i64 1)))]), []⟩, ⟨some 3, none, .e (.new [(.int .i64 0), (.int .i64 0), (.int .i64 0), (.slice none 0 0), (.int .i64 0), (.int .i64 0), (.slice none 0 0)] 7), []⟩, ⟨none, none, .e (.store 7 (.tmp 3) (.tmp 13)), []⟩]
 (O [V 14 0, Ln 15 14, ⟨some 16, none, .q (.mm false (.tmp 15) [(.const (.int .i64 3))]), []⟩, ⟨some 17, none, .q (.mm true (.tmp 16) [(.const (.int .i64 1))]), []⟩, V 4 17]
 (.seq (O [N 5 0]
 (.block 0 (.loop (.seq (O [V 18 5, V 19 4, B 20 .lss 18 19]
 (.cond (.tmp 20)
 .skip
 (.exit 0)))
 (.seq (.block 1 (O [E 6]
 (.seq (O [N 7 1]
 (.block 2 (.loop (.seq (O [V 23 7, V 24 4, B 25 .lss 23 24, V 26 25, Gd 26 true (V 27 5), Gd 26 true (Bn 28 .eql 27 0), Pk 29 26 28 false]
 (.cond (.tmp 29)
 .skip
 (.exit 2)))
 (.seq (.block 3 (.ops [V 32 6, V 33 7, ⟨some 34, none, .q (.build [(.int .u8 0), (.int .i64 0), (.int .i64 0), (.int .i64 0)] [(0, 1, (.const (.int .u8 12))), (1, 1, (.tmp 33))]), []⟩, ⟨some 35, none, .e (.lit [(.int .u8 0), (.int .i64 0), (.int .i64 0), (.int .i64 0)] 4 1 [(0, 4, (.tmp 34))]), []⟩, Ap 36 4 32 35, V 6 36]))
 (.ops [V 30 7, Bn 31 .add 30 1, V 7 31]))))))
 (O [V 37 6, Ln 38 37, V 8 38]
 (O [E 9]
 (.seq (O [V 39 5, V 40 0, Ln 41 40, B 42 .lss 39 41]
 (.cond (.tmp 42)
 (.ops [V 43 0, V 44 5, X 45 1 43 44, L 46 45, V 9 46])
 .skip))
 (O [V 47 9, Ln 48 47, Bn 49 .quo 48 2, ⟨some 50, none, .q (.mm false (.tmp 49) [(.const (.int .i64 9))]), []⟩, V 10 50]
 (.seq (O [N 11 0]
 (.block 4 (.loop (.seq (O [V 51 11, V 52 10, B 53 .lss 51 52]
 (.cond (.tmp 53)
 .skip
 (.exit 4)))
 (.seq (.block 5 (.ops [V 56 6, V 57 9, V 58 11, ⟨some 59, none, .q (.bin .mul (.const (.int .i64 2)) (.tmp 58)), []⟩, X 60 1 57 59, L 61 60, V 62 9, V 63 11, ⟨some 64, none, .q (.bin .mul (.const (.int .i64 2)) (.tmp 63)), []⟩, Bn 65 .add 64 1, X 66 1 62 65, L 67 66, V 68 8, V 69 11, B 70 .add 68 69, V 71 8, V 72 10, B 73 .add 71 72, ⟨some 74, none, .call 56 [(.tmp 61), (.tmp 67), (.tmp 70), (.tmp 73)], []⟩, ⟨some 75, none, .e (.lit [(.int .u8 0), (.int .i64 0), (.int .i64 0), (.int .i64 0)] 4 1 [(0, 4, (.tmp 74))]), []⟩, Ap 76 4 56 75, V 6 76]))
 (.ops [V 54 11, Bn 55 .add 54 1, V 11 55]))))))
 (.ops [FA 77 6 3, L 78 77, V 79 6, Z 4 79, ⟨some 80, none, .e (.lit [(.slice none 0 0)] 1 1 [(0, 1, (.tmp 79))]), []⟩, Ap 81 1 78 80, FA 82 6 3, S 82 81])))))))))
 (.ops [V 21 5, Bn 22 .add 21 1, V 5 22]))))))
 (O [LA 83 7 3, ⟨none, none, .e (.store 7 (.tmp 2) (.tmp 83)), []⟩]
 .ret))))), [.cells 2 7], 84⟩
theorem call_Make {args : List Value} {h : Heap} {K : Value → Heap → Prop} (hl : args.length ≤ 84) (k : pwp Proofs.Try.prog c_Make.body (BodyK c_Make.results K) (enterF args) h) : PCall Proofs.Try.prog 19 args h K :=
  pcall_of (fn := Proofs.Try.f19) (by kernel_rfl) (by kernel_rfl) (by kernel_rfl) (by kernel_rfl) hl k
end Pm

/- Codes of the program's functions, as a program printed them, and that they are what the program's functions are compiled to.
   No condition: plain facts. -/
namespace Pm
set_option linter.unusedSimpArgs false
set_option linter.unusedVariables false
open Go Am
set_option maxRecDepth 100000
@[irreducible] def z196 : List Value := [(.string ⟨#[]⟩), (.int .u8 0), (.int .u8 0), (.int .u8 0), (.bool false), (.bool false), (.bool false), (.string ⟨#[]⟩), (.int .u8 0), (.int .u8 0), (.int .u8 0), (.bool false), (.bool false), (.bool false), (.string ⟨#[]⟩), (.int .u8 0), (.int .u8 0), (.int .u8 0), (.bool false), (.bool false), (.bool false), (.string ⟨#[]⟩), (.int .u8 0), (.int .u8 0), (.int .u8 0), (.bool false), (.bool false), (.bool false), (.string ⟨#[]⟩), (.int .u8 0), (.int .u8 0), (.int .u8 0), (.bool false), (.bool false), (.bool false), (.string ⟨#[]⟩), (.int .u8 0), (.int .u8 0), (.int .u8 0), (.bool false), (.bool false), (.bool false), (.string ⟨#[]⟩), (.int .u8 0), (.int .u8 0), (.int .u8 0), (.bool false), (.bool false), (.bool false), (.string ⟨#[]⟩), (.int .u8 0), (.int .u8 0), (.int .u8 0), (.bool false), (.bool false), (.bool false), (.string ⟨#[]⟩), (.int .u8 0), (.int .u8 0), (.int .u8 0), (.bool false), (.bool false), (.bool false), (.string ⟨#[]⟩), (.int .u8 0), (.int .u8 0), (.int .u8 0), (.bool false), (.bool false), (.bool false), (.string ⟨#[]⟩), (.int .u8 0), (.int .u8 0), (.int .u8 0), (.bool false), (.bool false), (.bool false), (.string ⟨#[]⟩), (.int .u8 0), (.int .u8 0), (.int .u8 0), (.bool false), (.bool false), (.bool false), (.string ⟨#[]⟩), (.int .u8 0), (.int .u8 0), (.int .u8 0), (.bool false), (.bool false), (.bool false), (.string ⟨#[]⟩), (.int .u8 0), (.int .u8 0), (.int .u8 0), (.bool false), (.bool false), (.bool false), (.string ⟨#[]⟩), (.int .u8 0), (.int .u8 0), (.int .u8 0), (.bool false), (.bool false), (.bool false), (.string ⟨#[]⟩), (.int .u8 0), (.int .u8 0), (.int .u8 0), (.bool false), (.bool false), (.bool false), (.string ⟨#[]⟩), (.int .u8 0), (.int .u8 0), (.int .u8 0), (.bool false), (.bool false), (.bool false), (.string ⟨#[]⟩), (.int .u8 0), (.int .u8 0), (.int .u8 0), (.bool false), (.bool false), (.bool false), (.string ⟨#[]⟩), (.int .u8 0), (.int .u8 0), (.int .u8 0), (.bool false), (.bool false), (.bool false), (.string ⟨#[]⟩), (.int .u8 0), (.int .u8 0), (.int .u8 0), (.bool false), (.bool false), (.bool false), (.string ⟨#[]⟩), (.int .u8 0), (.int .u8 0), (.int .u8 0), (.bool false), (.bool false), (.bool false), (.string ⟨#[]⟩), (.int .u8 0), (.int .u8 0), (.int .u8 0), (.bool false), (.bool false), (.bool false), (.string ⟨#[]⟩), (.int .u8 0), (.int .u8 0), (.int .u8 0), (.bool false), (.bool false), (.bool false), (.string ⟨#[]⟩), (.int .u8 0), (.int .u8 0), (.int .u8 0), (.bool false), (.bool false), (.bool false), (.string ⟨#[]⟩), (.int .u8 0), (.int .u8 0), (.int .u8 0), (.bool false), (.bool false), (.bool false), (.string ⟨#[]⟩), (.int .u8 0), (.int .u8 0), (.int .u8 0), (.bool false), (.bool false), (.bool false), (.string ⟨#[]⟩), (.int .u8 0), (.int .u8 0), (.int .u8 0), (.bool false), (.bool false), (.bool false), (.string ⟨#[]⟩), (.int .u8 0), (.int .u8 0), (.int .u8 0), (.bool false), (.bool false), (.bool false)]
def c_shapes : AFn :=
⟨(O [⟨some 0, none, .e (.new [(.string ⟨#[]⟩), (.int .u8 0), (.int .u8 0), (.int .u8 0), (.bool false), (.bool false), (.bool false), (.string ⟨#[]⟩), (.int .u8 0), (.int .u8 0), (.int .u8 0), (.bool false), (.bool false), (.bool false), (.string ⟨#[]⟩), (.int .u8 0), (.int .u8 0), (.int .u8 0), (.bool false), (.bool false), (.bool false), (.string ⟨#[]⟩), (.int .u8 0), (.int .u8 0), (.int .u8 0), (.bool false), (.bool false), (.bool false), (.string ⟨#[]⟩), (.int .u8 0), (.int .u8 0), (.int .u8 0), (.bool false), (.bool false), (.bool false), (.string ⟨#[]⟩), (.int .u8 0), (.int .u8 0), (.int .u8 0), (.bool false), (.bool false), (.bool false), (.string ⟨#[]⟩), (.int .u8 0), (.int .u8 0), (.int .u8 0), (.bool false), (.bool false), (.bool false), (.string ⟨#[]⟩), (.int .u8 0), (.int .u8 0), (.int .u8 0), (.bool false), (.bool false), (.bool false), (.string ⟨#[]⟩), (.int .u8 0), (.int .u8 0), (.int .u8 0), (.bool false), (.bool false), (.bool false), (.string ⟨#[]⟩), (.int .u8 0), (.int .u8 0), (.int .u8 0), (.bool false), (.bool false), (.bool false), (.string ⟨#[]⟩), (.int .u8 0), (.int .u8 0), (.int .u8 0), (.bool false), (.bool false), (.bool false), (.string ⟨#[]⟩), (.int .u8 0), (.int .u8 0), (.int .u8 0), (.bool false), (.bool false), (.bool false), (.string ⟨#[]⟩), (.int .u8 0), (.int .u8 0), (.int .u8 0), (.bool false), (.bool false), (.bool false), (.string ⟨#[]⟩), (.int .u8 0), (.int .u8 0), (.int .u8 0), (.bool false), (.bool false), (.bool false), (.string ⟨#[]⟩), (.int .u8 0), (.int .u8 0), (.int .u8 0), (.bool false), (.bool false), (.bool false), (.string ⟨#[]⟩), (.int .u8 0), (.int .u8 0), (.int .u8 0), (.bool false), (.bool false), (.bool false), (.string ⟨#[]⟩), (.int .u8 0), (.int .u8 0), (.int .u8 0), (.bool false), (.bool false), (.bool false), (.string ⟨#[]⟩), (.int .u8 0), (.int .u8 0), (.int .u8 0), (.bool false), (.bool false), (.bool false), (.string ⟨#[]⟩), (.int .u8 0), (.int .u8 0), (.int .u8 0), (.bool false), (.bool false), (.bool false), (.string ⟨#[]⟩), (.int .u8 0), (.int .u8 0), (.int .u8 0), (.bool false), (.bool false), (.bool false), (.string ⟨#[]⟩), (.int .u8 0), (.int .u8 0), (.int .u8 0), (.bool false), (.bool false), (.bool false), (.string ⟨#[]⟩), (.int .u8 0), (.int .u8 0), (.int .u8 0), (.bool false), (.bool false), (.bool false), (.string ⟨#[]⟩), (.int .u8 0), (.int .u8 0), (.int .u8 0), (.bool false), (.bool false), (.bool false), (.string ⟨#[]⟩), (.int .u8 0), (.int .u8 0), (.int .u8 0), (.bool false), (.bool false), (.bool false), (.string ⟨#[]⟩), (.int .u8 0), (.int .u8 0), (.int .u8 0), (.bool false), (.bool false), (.bool false), (.string ⟨#[]⟩), (.int .u8 0), (.int .u8 0), (.int .u8 0), (.bool false), (.bool false), (.bool false), (.string ⟨#[]⟩), (.int .u8 0), (.int .u8 0), (.int .u8 0), (.bool false), (.bool false), (.bool false), (.string ⟨#[]⟩), (.int .u8 0), (.int .u8 0), (.int .u8 0), (.bool false), (.bool false), (.bool false)] 7), []⟩]
 (O [⟨some 1, none, .q (.val (.func 144)), []⟩]
 (O [⟨some 2, none, .q (.val (.func 145)), []⟩]
 (O [⟨some 3, none, .q (.build [(.string ⟨#[]⟩), (.int .u8 0), (.int .u8 0), (.int .u8 0), (.bool false), (.bool false), (.bool false)] [(0, 1, (.const (.string ⟨#[110, 111, 112]⟩))), (4, 1, (.const (.bool true)))]), []⟩, ⟨some 4, none, .q (.build [(.int .u8 0), (.int .u8 0), (.int .u8 0)] [(0, 1, (.const (.int .u8 2))), (1, 1, (.const (.int .u8 1)))]), []⟩, ⟨some 5, none, .q (.build [(.string ⟨#[]⟩), (.int .u8 0), (.int .u8 0), (.int .u8 0), (.bool false), (.bool false), (.bool false)] [(0, 1, (.const (.string ⟨#[99, 111, 110, 115, 116]⟩))), (1, 3, (.tmp 4)), (4, 1, (.const (.bool true)))]), []⟩, ⟨some 6, none, .q (.build [(.int .u8 0), (.int .u8 0), (.int .u8 0)] [(0, 1, (.const (.int .u8 2))), (1, 1, (.const (.int .u8 3)))]), []⟩, ⟨some 7, none, .q (.build [(.string ⟨#[]⟩), (.int .u8 0), (.int .u8 0), (.int .u8 0), (.bool false), (.bool false), (.bool false)] [(0, 1, (.const (.string ⟨#[109, 111, 118, 101]⟩))), (1, 3, (.tmp 6)), (4, 1, (.const (.bool true)))]), []⟩, V 8 1, ⟨some 9, none, .callv (.tmp 8) [(.const (.string ⟨#[97, 100, 100]⟩))], []⟩, V 10 1, ⟨some 11, none, .callv (.tmp 10) [(.const (.string ⟨#[115, 117, 98]⟩))], []⟩, V 12 1, ⟨some 13, none, .callv (.tmp 12) [(.const (.string ⟨#[109, 117, 108]⟩))], []⟩, V 14 1, ⟨some 15, none, .callv (.tmp 14) [(.const (.string ⟨#[108, 101, 115, 115]⟩))], []⟩, ⟨some 16, none, .q (.build [(.int .u8 0), (.int .u8 0), (.int .u8 0)] [(0, 1, (.const (.int .u8 2))), (1, 1, (.const (.int .u8 4)))]), []⟩, ⟨some 17, none, .q (.build [(.string ⟨#[]⟩), (.int .u8 0), (.int .u8 0), (.int .u8 0), (.bool false), (.bool false), (.bool false)] [(0, 1, (.const (.string ⟨#[108, 111, 97, 100]⟩))), (1, 3, (.tmp 16)), (4, 1, (.const (.bool true)))]), []⟩, ⟨some 18, none, .q (.build [(.int .u8 0), (.int .u8 0), (.int .u8 0)] [(0, 1, (.const (.int .u8 4))), (1, 1, (.const (.int .u8 3)))]), []⟩, ⟨some 19, none, .q (.build [(.string ⟨#[]⟩), (.int .u8 0), (.int .u8 0), (.int .u8 0), (.bool false), (.bool false), (.bool false)] [(0, 1, (.const (.string ⟨#[115, 116, 111, 114, 101]⟩))), (1, 3, (.tmp 18)), (4, 1, (.const (.bool true)))]), []⟩, V 20 2, ⟨some 21, none, .callv (.tmp 20) [(.const (.string ⟨#[112, 114, 105, 110, 116]⟩)), (.const (.int .u8 3)), (.const (.bool false)), (.const (.bool false))], []⟩, V 22 2, ⟨some 23, none, .callv (.tmp 22) [(.const (.string ⟨#[106, 117, 109, 112]⟩)), (.const (.int .u8 5)), (.const (.bool false)), (.const (.bool false))], []⟩, ⟨some 24, none, .q (.build [(.int .u8 0), (.int .u8 0), (.int .u8 0)] [(0, 1, (.const (.int .u8 3))), (1, 1, (.const (.int .u8 5)))]), []⟩, ⟨some 25, none, .q (.build [(.string ⟨#[]⟩), (.int .u8 0), (.int .u8 0), (.int .u8 0), (.bool false), (.bool false), (.bool false)] [(0, 1, (.const (.string ⟨#[122, 101, 114, 111]⟩))), (1, 3, (.tmp 24))]), []⟩, V 26 2, ⟨some 27, none, .callv (.tmp 26) [(.const (.string ⟨#[103, 111]⟩)), (.const (.int .u8 6)), (.const (.bool false)), (.const (.bool true))], []⟩, V 28 2, ⟨some 29, none, .callv (.tmp 28) [(.const (.string ⟨#[108, 111, 99, 107]⟩)), (.const (.int .u8 7)), (.const (.bool true)), (.const (.bool false))], []⟩, V 30 2, ⟨some 31, none, .callv (.tmp 30) [(.const (.string ⟨#[117, 110, 108, 111, 99, 107]⟩)), (.const (.int .u8 7)), (.const (.bool false)), (.const (.bool true))], []⟩, V 32 2, ⟨some 33, none, .callv (.tmp 32) [(.const (.string ⟨#[114, 108, 111, 99, 107]⟩)), (.const (.int .u8 7)), (.const (.bool true)), (.const (.bool false))], []⟩, V 34 2, ⟨some 35, none, .callv (.tmp 34) [(.const (.string ⟨#[114, 117, 110, 108, 111, 99, 107]⟩)), (.const (.int .u8 7)), (.const (.bool false)), (.const (.bool true))], []⟩, ⟨some 36, none, .q (.build [(.int .u8 0), (.int .u8 0), (.int .u8 0)] [(0, 1, (.const (.int .u8 2))), (1, 1, (.const (.int .u8 8)))]), []⟩, ⟨some 37, none, .q (.build [(.string ⟨#[]⟩), (.int .u8 0), (.int .u8 0), (.int .u8 0), (.bool false), (.bool false), (.bool false)] [(0, 1, (.const (.string ⟨#[114, 101, 97, 100]⟩))), (1, 3, (.tmp 36)), (5, 1, (.const (.bool true)))]), []⟩, ⟨some 38, none, .q (.build [(.int .u8 0), (.int .u8 0), (.int .u8 0)] [(0, 1, (.const (.int .u8 8))), (1, 1, (.const (.int .u8 3)))]), []⟩, ⟨some 39, none, .q (.build [(.string ⟨#[]⟩), (.int .u8 0), (.int .u8 0), (.int .u8 0), (.bool false), (.bool false), (.bool false)] [(0, 1, (.const (.string ⟨#[119, 114, 105, 116, 101]⟩))), (1, 3, (.tmp 38)), (6, 1, (.const (.bool true)))]), []⟩, ⟨some 40, none, .q (.build [(.int .u8 0), (.int .u8 0), (.int .u8 0)] [(0, 1, (.const (.int .u8 2))), (1, 1, (.const (.int .u8 8))), (2, 1, (.const (.int .u8 3)))]), []⟩, ⟨some 41, none, .q (.build [(.string ⟨#[]⟩), (.int .u8 0), (.int .u8 0), (.int .u8 0), (.bool false), (.bool false), (.bool false)] [(0, 1, (.const (.string ⟨#[98, 117, 109, 112]⟩))), (1, 3, (.tmp 40)), (5, 1, (.const (.bool true))), (6, 1, (.const (.bool true)))]), []⟩, ⟨some 42, none, .q (.build [(.int .u8 0), (.int .u8 0), (.int .u8 0)] [(0, 1, (.const (.int .u8 9))), (1, 1, (.const (.int .u8 3)))]), []⟩, ⟨some 43, none, .q (.build [(.string ⟨#[]⟩), (.int .u8 0), (.int .u8 0), (.int .u8 0), (.bool false), (.bool false), (.bool false)] [(0, 1, (.const (.string ⟨#[115, 101, 110, 100]⟩))), (1, 3, (.tmp 42)), (5, 1, (.const (.bool true))), (6, 1, (.const (.bool true)))]), []⟩, ⟨some 44, none, .q (.build [(.int .u8 0), (.int .u8 0), (.int .u8 0)] [(0, 1, (.const (.int .u8 2))), (1, 1, (.const (.int .u8 9)))]), []⟩, ⟨some 45, none, .q (.build [(.string ⟨#[]⟩), (.int .u8 0), (.int .u8 0), (.int .u8 0), (.bool false), (.bool false), (.bool false)] [(0, 1, (.const (.string ⟨#[114, 101, 99, 118]⟩))), (1, 3, (.tmp 44)), (5, 1, (.const (.bool true))), (6, 1, (.const (.bool true)))]), []⟩, ⟨some 46, none, .q (.build [(.int .u8 0), (.int .u8 0), (.int .u8 0)] [(0, 1, (.const (.int .u8 2))), (1, 1, (.const (.int .u8 9))), (2, 1, (.const (.int .u8 2)))]), []⟩, ⟨some 47, none, .q (.build [(.string ⟨#[]⟩), (.int .u8 0), (.int .u8 0), (.int .u8 0), (.bool false), (.bool false), (.bool false)] [(0, 1, (.const (.string ⟨#[112, 111, 108, 108]⟩))), (1, 3, (.tmp 46)), (5, 1, (.const (.bool true))), (6, 1, (.const (.bool true)))]), []⟩, V 48 2, ⟨some 49, none, .callv (.tmp 48) [(.const (.string ⟨#[99, 108, 111, 115, 101]⟩)), (.const (.int .u8 9)), (.const (.bool false)), (.const (.bool true))], []⟩, ⟨some 50, none, .q (.build [(.int .u8 0), (.int .u8 0), (.int .u8 0)] [(0, 1, (.const (.int .u8 10))), (1, 1, (.const (.int .u8 1)))]), []⟩, ⟨some 51, none, .q (.build [(.string ⟨#[]⟩), (.int .u8 0), (.int .u8 0), (.int .u8 0), (.bool false), (.bool false), (.bool false)] [(0, 1, (.const (.string ⟨#[103, 114, 111, 119]⟩))), (1, 3, (.tmp 50)), (6, 1, (.const (.bool true)))]), []⟩, V 52 2, ⟨some 53, none, .callv (.tmp 52) [(.const (.string ⟨#[119, 97, 105, 116]⟩)), (.const (.int .u8 10)), (.const (.bool true)), (.const (.bool false))], []⟩, ⟨some 54, none, .q (.build [(.int .u8 0), (.int .u8 0), (.int .u8 0)] [(0, 1, (.const (.int .u8 2))), (1, 1, (.const (.int .u8 11)))]), []⟩, ⟨some 55, none, .q (.build [(.string ⟨#[]⟩), (.int .u8 0), (.int .u8 0), (.int .u8 0), (.bool false), (.bool false), (.bool false)] [(0, 1, (.const (.string ⟨#[98, 101, 103, 105, 110]⟩))), (1, 3, (.tmp 54)), (5, 1, (.const (.bool true)))]), []⟩, V 56 2, ⟨some 57, none, .callv (.tmp 56) [(.const (.string ⟨#[101, 110, 100]⟩)), (.const (.int .u8 11)), (.const (.bool false)), (.const (.bool true))], []⟩, ⟨some 58, none, .q (.build [(.string ⟨#[]⟩), (.int .u8 0), (.int .u8 0), (.int .u8 0), (.bool false), (.bool false), (.bool false), (.string ⟨#[]⟩), (.int .u8 0), (.int .u8 0), (.int .u8 0), (.bool false), (.bool false), (.bool false), (.string ⟨#[]⟩), (.int .u8 0), (.int .u8 0), (.int .u8 0), (.bool false), (.bool false), (.bool false), (.string ⟨#[]⟩), (.int .u8 0), (.int .u8 0), (.int .u8 0), (.bool false), (.bool false), (.bool false), (.string ⟨#[]⟩), (.int .u8 0), (.int .u8 0), (.int .u8 0), (.bool false), (.bool false), (.bool false), (.string ⟨#[]⟩), (.int .u8 0), (.int .u8 0), (.int .u8 0), (.bool false), (.bool false), (.bool false), (.string ⟨#[]⟩), (.int .u8 0), (.int .u8 0), (.int .u8 0), (.bool false), (.bool false), (.bool false), (.string ⟨#[]⟩), (.int .u8 0), (.int .u8 0), (.int .u8 0), (.bool false), (.bool false), (.bool false), (.string ⟨#[]⟩), (.int .u8 0), (.int .u8 0), (.int .u8 0), (.bool false), (.bool false), (.bool false), (.string ⟨#[]⟩), (.int .u8 0), (.int .u8 0), (.int .u8 0), (.bool false), (.bool false), (.bool false), (.string ⟨#[]⟩), (.int .u8 0), (.int .u8 0), (.int .u8 0), (.bool false), (.bool false), (.bool false), (.string ⟨#[]⟩), (.int .u8 0), (.int .u8 0), (.int .u8 0), (.bool false), (.bool false), (.bool false), (.string ⟨#[]⟩), (.int .u8 0), (.int .u8 0), (.int .u8 0), (.bool false), (.bool false), (.bool false), (.string ⟨#[]⟩), (.int .u8 0), (.int .u8 0), (.int .u8 0), (.bool false), (.bool false), (.bool false), (.string ⟨#[]⟩), (.int .u8 0), (.int .u8 0), (.int .u8 0), (.bool false), (.bool false), (.bool false), (.string ⟨#[]⟩), (.int .u8 0), (.int .u8 0), (.int .u8 0), (.bool false), (.bool false), (.bool false), (.string ⟨#[]⟩), (.int .u8 0), (.int .u8 0), (.int .u8 0), (.bool false), (.bool false), (.bool false), (.string ⟨#[]⟩), (.int .u8 0), (.int .u8 0), (.int .u8 0), (.bool false), (.bool false), (.bool false), (.string ⟨#[]⟩), (.int .u8 0), (.int .u8 0), (.int .u8 0), (.bool false), (.bool false), (.bool false), (.string ⟨#[]⟩), (.int .u8 0), (.int .u8 0), (.int .u8 0), (.bool false), (.bool false), (.bool false), (.string ⟨#[]⟩), (.int .u8 0), (.int .u8 0), (.int .u8 0), (.bool false), (.bool false), (.bool false), (.string ⟨#[]⟩), (.int .u8 0), (.int .u8 0), (.int .u8 0), (.bool false), (.bool false), (.bool false), (.string ⟨#[]⟩), (.int .u8 0), (.int .u8 0), (.int .u8 0), (.bool false), (.bool false), (.bool false), (.string ⟨#[]⟩), (.int .u8 0), (.int .u8 0), (.int .u8 0), (.bool false), (.bool false), (.bool false), (.string ⟨#[]⟩), (.int .u8 0), (.int .u8 0), (.int .u8 0), (.bool false), (.bool false), (.bool false), (.string ⟨#[]⟩), (.int .u8 0), (.int .u8 0), (.int .u8 0), (.bool false), (.bool false), (.bool false), (.string ⟨#[]⟩), (.int .u8 0), (.int .u8 0), (.int .u8 0), (.bool false), (.bool false), (.bool false), (.string ⟨#[]⟩), (.int .u8 0), (.int .u8 0), (.int .u8 0), (.bool false), (.bool false), (.bool false)] [(0, 7, (.tmp 3)), (7, 7, (.tmp 5)), (14, 7, (.tmp 7)), (21, 7, (.tmp 9)), (28, 7, (.tmp 11)), (35, 7, (.tmp 13)), (42, 7, (.tmp 15)), (49, 7, (.tmp 17)), (56, 7, (.tmp 19)), (63, 7, (.tmp 21)), (70, 7, (.tmp 23)), (77, 7, (.tmp 25)), (84, 7, (.tmp 27)), (91, 7, (.tmp 29)), (98, 7, (.tmp 31)), (105, 7, (.tmp 33)), (112, 7, (.tmp 35)), (119, 7, (.tmp 37)), (126, 7, (.tmp 39)), (133, 7, (.tmp 41)), (140, 7, (.tmp 43)), (147, 7, (.tmp 45)), (154, 7, (.tmp 47)), (161, 7, (.tmp 49)), (168, 7, (.tmp 51)), (175, 7, (.tmp 53)), (182, 7, (.tmp 55)), (189, 7, (.tmp 57))]), []⟩, ⟨none, none, .e (.store 196 (.tmp 0) (.tmp 58)), []⟩]
 .ret)))), [.cells 0 196], 59⟩
theorem c_shapes_is : cFunc Proofs.Try.prog Proofs.Try.f140 = some (eraseF c_shapes) := by kernel_rfl
def c_shapes1 : AFn :=
⟨(O [⟨some 2, none, .e (.new [(.string ⟨#[]⟩), (.int .u8 0), (.int .u8 0), (.int .u8 0), (.bool false), (.bool false), (.bool false)] 7), []⟩]
 (O [V 3 0, ⟨some 4, none, .q (.build [(.int .u8 0), (.int .u8 0), (.int .u8 0)] [(0, 1, (.const (.int .u8 2))), (1, 1, (.const (.int .u8 3))), (2, 1, (.const (.int .u8 3)))]), []⟩, ⟨some 5, none, .q (.build [(.string ⟨#[]⟩), (.int .u8 0), (.int .u8 0), (.int .u8 0), (.bool false), (.bool false), (.bool false)] [(0, 1, (.tmp 3)), (1, 3, (.tmp 4)), (4, 1, (.const (.bool true))), (5, 1, (.const (.bool false))), (6, 1, (.const (.bool false)))]), []⟩, ⟨none, none, .e (.store 7 (.tmp 2) (.tmp 5)), []⟩]
 .ret)), [.cells 2 7], 6⟩
theorem c_shapes1_is : cFunc Proofs.Try.prog Proofs.Try.f144 = some (eraseF c_shapes1) := by kernel_rfl
def c_shapes2 : AFn :=
⟨(O [⟨some 8, none, .e (.new [(.string ⟨#[]⟩), (.int .u8 0), (.int .u8 0), (.int .u8 0), (.bool false), (.bool false), (.bool false)] 7), []⟩]
 (O [V 9 0, V 10 1, ⟨some 11, none, .q (.build [(.int .u8 0), (.int .u8 0), (.int .u8 0)] [(0, 1, (.tmp 10))]), []⟩, V 12 2, V 13 3, ⟨some 14, none, .q (.build [(.string ⟨#[]⟩), (.int .u8 0), (.int .u8 0), (.int .u8 0), (.bool false), (.bool false), (.bool false)] [(0, 1, (.tmp 9)), (1, 3, (.tmp 11)), (4, 1, (.const (.bool false))), (5, 1, (.tmp 12)), (6, 1, (.tmp 13))]), []⟩, ⟨none, none, .e (.store 7 (.tmp 8) (.tmp 14)), []⟩]
 .ret)), [.cells 8 7], 15⟩
theorem c_shapes2_is : cFunc Proofs.Try.prog Proofs.Try.f145 = some (eraseF c_shapes2) := by kernel_rfl
def c_irOf : AFn :=
⟨(O [⟨some 2, none, .e (.new [(.string ⟨#[]⟩), (.int .u8 0), (.int .u8 0), (.int .u8 0), (.bool false), (.bool false), (.bool false)] 7), []⟩, T 3 false]
 (O [⟨some 5, none, .call 140 [], []⟩, ⟨some 4, none, .e (.new z196 7), []⟩, ⟨none, none, .e (.store 196 (.tmp 4) (.tmp 5)), []⟩]
 (.seq (O [V 6 0, Cv' 7 .i64 6, Bn 8 .geq 7 28]
 (.cond (.tmp 8)
 (O [⟨some 9, none, .q (.build [(.string ⟨#[]⟩), (.int .u8 0), (.int .u8 0), (.int .u8 0), (.bool false), (.bool false), (.bool false)] []), []⟩, ⟨none, none, .e (.store 7 (.tmp 2) (.tmp 9)), []⟩, T 3 false]
 .ret)
 .skip))
 (O [V 10 0, ⟨some 11, none, .q (.idxP 28 7 (.tmp 4) (.tmp 10)), []⟩, LA 12 7 11, ⟨none, none, .e (.store 7 (.tmp 2) (.tmp 12)), []⟩, T 3 true]
 .ret)))), [.cells 2 7, .tmp 3], 13⟩
theorem c_irOf_is : cFunc Proofs.Try.prog Proofs.Try.f122 = some (eraseF c_irOf) := by kernel_rfl
theorem call_irOf {args : List Value} {h : Heap} {K : Value → Heap → Prop} (hl : args.length ≤ 13) (k : pwp Proofs.Try.prog c_irOf.body (BodyK c_irOf.results K) (enterF args) h) : PCall Proofs.Try.prog 122 args h K :=
  pcall_of (by kernel_rfl) (by kernel_rfl) c_irOf_is (by kernel_rfl) hl k
def c_bHas : AFn :=
⟨(O [T 4 false]
 (O [V 5 0, V 6 1, ⟨some 7, none, .call 84 [(.tmp 6)], []⟩, B 8 .and 5 7, Bk 9 .neq 8 .u64 0, V 4 9]
 .ret)), [.tmp 4], 10⟩
theorem c_bHas_is : cFunc Proofs.Try.prog Proofs.Try.f74 = some (eraseF c_bHas) := by kernel_rfl
theorem call_bHas {args : List Value} {h : Heap} {K : Value → Heap → Prop} (hl : args.length ≤ 10) (k : pwp Proofs.Try.prog c_bHas.body (BodyK c_bHas.results K) (enterF args) h) : PCall Proofs.Try.prog 74 args h K :=
  pcall_of (by kernel_rfl) (by kernel_rfl) c_bHas_is (by kernel_rfl) hl k
end Pm

/- Codes of the program's functions, as a program printed them, and that they are what the program's functions are compiled to.
   No condition: plain facts. -/
namespace Pm
set_option linter.unusedSimpArgs false
set_option linter.unusedVariables false
open Go Am
set_option maxRecDepth 100000
def c_Clone1 : AFn :=
⟨(O [E 2]
 (.seq (O [V 3 0, ⟨some 4, none, .nilT false (.tmp 3), []⟩]
 (.cond (.tmp 4)
 (O [E 2]
 .ret)
 .skip))
 (O [⟨some 5, none, .e (.lit [] 1 0 []), []⟩, V 6 0, Ap 7 1 5 6, V 2 7]
 .ret))), [.tmp 2], 8⟩
theorem c_Clone1_is : cFunc Proofs.Try.prog Proofs.Try.f124 = some (eraseF c_Clone1) := by kernel_rfl
theorem call_Clone1 {args : List Value} {h : Heap} {K : Value → Heap → Prop} (hl : args.length ≤ 8) (k : pwp Proofs.Try.prog c_Clone1.body (BodyK c_Clone1.results K) (enterF args) h) : PCall Proofs.Try.prog 124 args h K :=
  pcall_of (by kernel_rfl) (by kernel_rfl) c_Clone1_is (by kernel_rfl) hl k
def c_Clone4 : AFn :=
⟨(O [E 2]
 (.seq (O [V 3 0, ⟨some 4, none, .nilT false (.tmp 3), []⟩]
 (.cond (.tmp 4)
 (O [E 2]
 .ret)
 .skip))
 (O [⟨some 5, none, .e (.lit [] 4 0 []), []⟩, V 6 0, Ap 7 4 5 6, V 2 7]
 .ret))), [.tmp 2], 8⟩
theorem c_Clone4_is : cFunc Proofs.Try.prog Proofs.Try.f73 = some (eraseF c_Clone4) := by kernel_rfl
theorem call_Clone4 {args : List Value} {h : Heap} {K : Value → Heap → Prop} (hl : args.length ≤ 8) (k : pwp Proofs.Try.prog c_Clone4.body (BodyK c_Clone4.results K) (enterF args) h) : PCall Proofs.Try.prog 73 args h K :=
  pcall_of (by kernel_rfl) (by kernel_rfl) c_Clone4_is (by kernel_rfl) hl k
def c_DelF1 : AFn :=
⟨(O [E 4]
 (O [V 8 0, V 9 1, ⟨some 10, none, .call 141 [(.tmp 8), (.tmp 9)], []⟩, V 5 10]
 (.seq (O [V 11 5, Bn 12 .eql 11 (-1)]
 (.cond (.tmp 12)
 (O [V 13 0, V 4 13]
 .ret)
 .skip))
 (.seq (O [V 14 5, Bn 15 .add 14 1, V 6 15]
 (.block 0 (.loop (.seq (O [V 16 6, V 17 0, Ln 18 17, B 19 .lss 16 18]
 (.cond (.tmp 19)
 .skip
 (.exit 0)))
 (.seq (.block 1 (O [V 22 0, V 23 6, X 24 1 22 23, L 25 24, V 7 25]
 (O [V 26 1, V 27 7, ⟨some 28, none, .callv (.tmp 26) [(.tmp 27)], []⟩, Nt 29 28]
 (.cond (.tmp 29)
 (O [V 30 0, V 31 5, V 32 7, X 33 1 30 31, S 33 32]
 (.ops [V 34 5, Bn 35 .add 34 1, V 5 35]))
 .skip))))
 (.ops [V 20 6, Bn 21 .add 20 1, V 6 21]))))))
 (O [V 36 0, V 37 5, ⟨some 38, none, .q (.cut 1 (.tmp 36) (some (.tmp 37)) none), []⟩, ⟨none, none, .e (.clear [(.int .i64 0)] (.tmp 38)), []⟩]
 (O [V 39 0, V 40 5, ⟨some 41, none, .q (.cut 1 (.tmp 39) none (some (.tmp 40))), []⟩, V 4 41]
 .ret)))))), [.tmp 4], 42⟩
theorem c_DelF1_is : cFunc Proofs.Try.prog Proofs.Try.f123 = some (eraseF c_DelF1) := by kernel_rfl
theorem call_DelF1 {args : List Value} {h : Heap} {K : Value → Heap → Prop} (hl : args.length ≤ 42) (k : pwp Proofs.Try.prog c_DelF1.body (BodyK c_DelF1.results K) (enterF args) h) : PCall Proofs.Try.prog 123 args h K :=
  pcall_of (by kernel_rfl) (by kernel_rfl) c_DelF1_is (by kernel_rfl) hl k
def c_IdxF1 : AFn :=
⟨(O [N 4 0]
 (.seq (O [V 6 0, Ln 7 6, N 8 0]
 (.block 0 (.loop (O [B 9 .lss 8 7]
 (.seq (.cond (.tmp 9)
 .skip
 (.exit 0))
 (.seq (.block 1 (O [V 10 8, V 5 10]
 (O [V 11 1, V 12 0, V 13 5, X 14 1 12 13, L 15 14, ⟨some 16, none, .callv (.tmp 11) [(.tmp 15)], []⟩]
 (.cond (.tmp 16)
 (O [V 17 5, V 4 17]
 .ret)
 .skip))))
 (.ops [Bn 18 .add 8 1, V 8 18])))))))
 (O [N 4 (-1)]
 .ret))), [.tmp 4], 19⟩
theorem c_IdxF1_is : cFunc Proofs.Try.prog Proofs.Try.f141 = some (eraseF c_IdxF1) := by kernel_rfl
theorem call_IdxF1 {args : List Value} {h : Heap} {K : Value → Heap → Prop} (hl : args.length ≤ 19) (k : pwp Proofs.Try.prog c_IdxF1.body (BodyK c_IdxF1.results K) (enterF args) h) : PCall Proofs.Try.prog 141 args h K :=
  pcall_of (by kernel_rfl) (by kernel_rfl) c_IdxF1_is (by kernel_rfl) hl k
def c_Idx1 : AFn :=
⟨(O [N 4 0]
 (.seq (O [V 6 0, Ln 7 6, N 8 0]
 (.block 0 (.loop (O [B 9 .lss 8 7]
 (.seq (.cond (.tmp 9)
 .skip
 (.exit 0))
 (.seq (.block 1 (O [V 10 8, V 5 10]
 (O [V 11 1, V 12 0, V 13 5, X 14 1 12 13, L 15 14, B 16 .eql 11 15]
 (.cond (.tmp 16)
 (O [V 17 5, V 4 17]
 .ret)
 .skip))))
 (.ops [Bn 18 .add 8 1, V 8 18])))))))
 (O [N 4 (-1)]
 .ret))), [.tmp 4], 19⟩
theorem c_Idx1_is : cFunc Proofs.Try.prog Proofs.Try.f146 = some (eraseF c_Idx1) := by kernel_rfl
theorem call_Idx1 {args : List Value} {h : Heap} {K : Value → Heap → Prop} (hl : args.length ≤ 19) (k : pwp Proofs.Try.prog c_Idx1.body (BodyK c_Idx1.results K) (enterF args) h) : PCall Proofs.Try.prog 146 args h K :=
  pcall_of (by kernel_rfl) (by kernel_rfl) c_Idx1_is (by kernel_rfl) hl k
def c_Cont1 : AFn :=
⟨(O [T 4 false]
 (O [V 5 0, V 6 1, ⟨some 7, none, .call 146 [(.tmp 5), (.tmp 6)], []⟩, Bn 8 .geq 7 0, V 4 8]
 .ret)), [.tmp 4], 9⟩
theorem c_Cont1_is : cFunc Proofs.Try.prog Proofs.Try.f142 = some (eraseF c_Cont1) := by kernel_rfl
theorem call_Cont1 {args : List Value} {h : Heap} {K : Value → Heap → Prop} (hl : args.length ≤ 9) (k : pwp Proofs.Try.prog c_Cont1.body (BodyK c_Cont1.results K) (enterF args) h) : PCall Proofs.Try.prog 142 args h K :=
  pcall_of (by kernel_rfl) (by kernel_rfl) c_Cont1_is (by kernel_rfl) hl k
def c_fInside : AFn :=
⟨(O [⟨some 1, none, .e (.box 1 1 (.tmp 0)), []⟩, E 2]
 (O [E 3]
 (.seq (O [L 6 1, Ln 7 6, N 8 0]
 (.block 0 (.loop (O [B 9 .lss 8 7]
 (.seq (.cond (.tmp 9)
 .skip
 (.exit 0))
 (.seq (.block 1 (O [X 10 1 6 8, L 11 10, V 5 11]
 (.ops [V 12 3, V 13 5, ⟨some 14, none, .call 124 [(.tmp 13)], []⟩, ⟨some 15, none, .q (.fn (.func 125) [(.tmp 1)]), []⟩, ⟨some 16, none, .call 123 [(.tmp 14), (.tmp 15)], []⟩, Z 1 16, ⟨some 17, none, .e (.lit [(.slice none 0 0)] 1 1 [(0, 1, (.tmp 16))]), []⟩, Ap 18 1 12 17, V 3 18])))
 (.ops [Bn 19 .add 8 1, V 8 19])))))))
 (O [V 20 3, V 2 20]
 .ret)))), [.tmp 2], 21⟩
theorem c_fInside_is : cFunc Proofs.Try.prog Proofs.Try.f105 = some (eraseF c_fInside) := by kernel_rfl
theorem call_fInside {args : List Value} {h : Heap} {K : Value → Heap → Prop} (hl : args.length ≤ 21) (k : pwp Proofs.Try.prog c_fInside.body (BodyK c_fInside.results K) (enterF args) h) : PCall Proofs.Try.prog 105 args h K :=
  pcall_of (by kernel_rfl) (by kernel_rfl) c_fInside_is (by kernel_rfl) hl k
def c_fInside1 : AFn :=
⟨(O [T 3 false]
 (O [V 4 0, Bn 5 .lss 4 0, V 6 5, Gd 6 false (V 7 0), Gd 6 false (L 8 1), Gd 6 false (Ln 9 8), Gd 6 false (B 10 .geq 7 9), ⟨some 11, none, .q (.pick (.tmp 6) (.const (.bool true)) (.tmp 10)), []⟩, V 3 11]
 .ret)), [.tmp 3], 12⟩
theorem c_fInside1_is : cFunc Proofs.Try.prog Proofs.Try.f125 = some (eraseF c_fInside1) := by kernel_rfl
theorem call_fInside1 {args : List Value} {h : Heap} {K : Value → Heap → Prop} (hl : args.length ≤ 12) (k : pwp Proofs.Try.prog c_fInside1.body (BodyK c_fInside1.results K) (enterF args) h) : PCall Proofs.Try.prog 125 args h K :=
  pcall_of (by kernel_rfl) (by kernel_rfl) c_fInside1_is (by kernel_rfl) hl k
def c_fAt : AFn :=
⟨(O [⟨some 4, none, .q (.val (.const (.int .u64 0))), []⟩]
 (.seq (O [V 5 1, V 6 0, Ln 7 6, B 8 .geq 5 7]
 (.cond (.tmp 8)
 (O [⟨some 4, none, .q (.val (.const (.int .u64 0))), []⟩]
 .ret)
 .skip))
 (O [V 9 0, V 10 1, X 11 1 9 10, L 12 11, V 4 12]
 .ret))), [.tmp 4], 13⟩
theorem c_fAt_is : cFunc Proofs.Try.prog Proofs.Try.f128 = some (eraseF c_fAt) := by kernel_rfl
theorem call_fAt {args : List Value} {h : Heap} {K : Value → Heap → Prop} (hl : args.length ≤ 13) (k : pwp Proofs.Try.prog c_fAt.body (BodyK c_fAt.results K) (enterF args) h) : PCall Proofs.Try.prog 128 args h K :=
  pcall_of (by kernel_rfl) (by kernel_rfl) c_fAt_is (by kernel_rfl) hl k
def c_fAll : AFn :=
⟨(O [⟨some 2, none, .q (.val (.const (.int .u64 0))), []⟩]
 (.seq (O [V 3 0, ⟨some 4, none, .q (.ptrCk (.tmp 3)), []⟩, FA 5 0 4, FA 6 4 5, L 7 6]
 (.cond (.tmp 7)
 (O [⟨some 8, none, .call 54 [(.const (.int .i64 64))], []⟩, V 2 8]
 .ret)
 .skip))
 (O [⟨some 2, none, .q (.val (.const (.int .u64 0))), []⟩]
 .ret))), [.tmp 2], 9⟩
theorem c_fAll_is : cFunc Proofs.Try.prog Proofs.Try.f106 = some (eraseF c_fAll) := by kernel_rfl
theorem call_fAll {args : List Value} {h : Heap} {K : Value → Heap → Prop} (hl : args.length ≤ 9) (k : pwp Proofs.Try.prog c_fAll.body (BodyK c_fAll.results K) (enterF args) h) : PCall Proofs.Try.prog 106 args h K :=
  pcall_of (by kernel_rfl) (by kernel_rfl) c_fAll_is (by kernel_rfl) hl k
def c_fMeet : AFn :=
⟨(O [⟨some 6, none, .q (.val (.const (.int .u64 0))), []⟩]
 (.seq (O [V 7 0, ⟨some 8, none, .q (.ptrCk (.tmp 7)), []⟩, FA 9 0 8, FA 10 4 9, L 11 10]
 (.cond (.tmp 11)
 (O [V 12 1, V 13 2, B 14 .and 12 13, V 6 14]
 .ret)
 .skip))
 (O [V 15 1, V 16 2, B 17 .or 15 16, V 6 17]
 .ret))), [.tmp 6], 18⟩
theorem c_fMeet_is : cFunc Proofs.Try.prog Proofs.Try.f127 = some (eraseF c_fMeet) := by kernel_rfl
theorem call_fMeet {args : List Value} {h : Heap} {K : Value → Heap → Prop} (hl : args.length ≤ 18) (k : pwp Proofs.Try.prog c_fMeet.body (BodyK c_fMeet.results K) (enterF args) h) : PCall Proofs.Try.prog 127 args h K :=
  pcall_of (by kernel_rfl) (by kernel_rfl) c_fMeet_is (by kernel_rfl) hl k
def c_fEdge : AFn :=
⟨(O [T 4 false]
 (.seq (O [V 5 0, ⟨some 6, none, .q (.ptrCk (.tmp 5)), []⟩, FA 7 0 6, FA 8 5 7, L 9 8]
 (.cond (.tmp 9)
 (O [V 10 0, ⟨some 11, none, .q (.ptrCk (.tmp 10)), []⟩, FA 12 0 11, FA 13 0 12, L 14 13, V 15 1, X 16 1 14 15, L 17 16, V 18 0, ⟨some 19, none, .q (.ptrCk (.tmp 18)), []⟩, FA 20 0 19, FA 21 0 20, L 22 21, Ln 23 22, Z 1 17, ⟨some 24, none, .call 142 [(.tmp 17), (.tmp 23)], []⟩, V 4 24]
 .ret)
 .skip))
 (O [V 25 1, Bn 26 .eql 25 0, V 4 26]
 .ret))), [.tmp 4], 27⟩
theorem c_fEdge_is : cFunc Proofs.Try.prog Proofs.Try.f126 = some (eraseF c_fEdge) := by kernel_rfl
theorem call_fEdge {args : List Value} {h : Heap} {K : Value → Heap → Prop} (hl : args.length ≤ 27) (k : pwp Proofs.Try.prog c_fEdge.body (BodyK c_fEdge.results K) (enterF args) h) : PCall Proofs.Try.prog 126 args h K :=
  pcall_of (by kernel_rfl) (by kernel_rfl) c_fEdge_is (by kernel_rfl) hl k
def c_fPush : AFn :=
⟨(O [V 4 0, ⟨some 5, none, .q (.ptrCk (.tmp 4)), []⟩, FA 6 11 5, L 7 6, V 8 1, X 9 1 7 8, L 10 9, Nt 11 10]
 (.cond (.tmp 11)
 (O [V 12 0, ⟨some 13, none, .q (.ptrCk (.tmp 12)), []⟩, FA 14 11 13, L 15 14, V 16 1, X 17 1 15 16, ⟨none, none, .e (.store 1 (.tmp 17) (.const (.bool true))), []⟩]
 (.ops [V 18 0, V 19 0, ⟨some 20, none, .q (.ptrCk (.tmp 19)), []⟩, FA 21 10 20, L 22 21, V 23 1, ⟨some 24, none, .e (.lit [(.int .i64 0)] 1 1 [(0, 1, (.tmp 23))]), []⟩, Ap 25 1 22 24, ⟨some 26, none, .q (.ptrCk (.tmp 18)), []⟩, FA 27 10 26, S 27 25]))
 .skip)), [], 28⟩
theorem c_fPush_is : cFunc Proofs.Try.prog Proofs.Try.f107 = some (eraseF c_fPush) := by kernel_rfl
theorem call_fPush {args : List Value} {h : Heap} {K : Value → Heap → Prop} (hl : args.length ≤ 28) (k : pwp Proofs.Try.prog c_fPush.body (BodyK c_fPush.results K) (enterF args) h) : PCall Proofs.Try.prog 107 args h K :=
  pcall_of (by kernel_rfl) (by kernel_rfl) c_fPush_is (by kernel_rfl) hl k
def c_fLook : AFn :=
⟨(O [V 10 0, ⟨some 11, none, .call 106 [(.tmp 10)], []⟩, V 4 11]
 (.seq (O [V 12 0, V 13 1, ⟨some 14, none, .call 126 [(.tmp 12), (.tmp 13)], []⟩]
 (.cond (.tmp 14)
 (.ops [V 15 0, V 16 4, V 17 0, ⟨some 18, none, .q (.ptrCk (.tmp 17)), []⟩, FA 19 0 18, FA 20 3 19, L 21 20, ⟨some 22, none, .call 127 [(.tmp 15), (.tmp 16), (.tmp 21)], []⟩, V 4 22])
 .skip))
 (.seq (O [V 23 0, ⟨some 24, none, .q (.ptrCk (.tmp 23)), []⟩, FA 25 6 24, L 26 25, V 27 1, X 28 1 26 27, L 29 28, Ln 30 29, N 31 0]
 (.block 0 (.loop (O [B 32 .lss 31 30]
 (.seq (.cond (.tmp 32)
 .skip
 (.exit 0))
 (.seq (.block 1 (O [X 33 1 29 31, L 34 33, V 6 34]
 (.ops [V 35 0, V 36 4, V 37 0, ⟨some 38, none, .q (.ptrCk (.tmp 37)), []⟩, FA 39 9 38, L 40 39, V 41 6, X 42 1 40 41, L 43 42, ⟨some 44, none, .call 127 [(.tmp 35), (.tmp 36), (.tmp 43)], []⟩, V 4 44])))
 (.ops [Bn 45 .add 31 1, V 31 45])))))))
 (O [V 46 0, ⟨some 47, none, .q (.ptrCk (.tmp 46)), []⟩, FA 48 8 47, L 49 48, V 50 1, V 51 4, X 52 1 49 50, S 52 51]
 (O [V 53 4, V 54 0, ⟨some 55, none, .q (.ptrCk (.tmp 54)), []⟩, FA 56 0 55, FA 57 2 56, L 58 57, V 59 1, V 62 0, ⟨some 63, none, .q (.ptrCk (.tmp 62)), []⟩, FA 64 0 63, FA 65 1 64, L 66 65, V 67 1, ⟨some 60, none, .st (.call 128 [(.tmp 58), (.tmp 59)]), [.load (.tmp 65)]⟩, B 61 .andNot 53 60, ⟨some 68, none, .call 128 [(.tmp 66), (.tmp 67)], []⟩, B 69 .or 61 68, V 7 69]
 (.seq (O [V 70 7, V 71 0, ⟨some 72, none, .q (.ptrCk (.tmp 71)), []⟩, FA 73 9 72, L 74 73, V 75 1, X 76 1 74 75, L 77 76, B 78 .eql 70 77]
 (.cond (.tmp 78)
 .ret
 .skip))
 (O [V 79 0, ⟨some 80, none, .q (.ptrCk (.tmp 79)), []⟩, FA 81 9 80, L 82 81, V 83 1, V 84 7, X 85 1 82 83, S 85 84]
 (O [V 86 0, ⟨some 87, none, .q (.ptrCk (.tmp 86)), []⟩, FA 88 7 87, L 89 88, V 90 1, X 91 1 89 90, L 92 91, Ln 93 92, N 94 0]
 (.block 2 (.loop (O [B 95 .lss 94 93]
 (.seq (.cond (.tmp 95)
 .skip
 (.exit 2))
 (.seq (.block 3 (O [X 96 1 92 94, L 97 96, V 9 97]
 (.ops [V 98 0, V 99 9, ⟨some 100, none, .call 107 [(.tmp 98), (.tmp 99)], []⟩])))
 (.ops [Bn 101 .add 94 1, V 94 101])))))))))))))), [], 102⟩
theorem c_fLook_is : cFunc Proofs.Try.prog Proofs.Try.f108 = some (eraseF c_fLook) := by kernel_rfl
theorem call_fLook {args : List Value} {h : Heap} {K : Value → Heap → Prop} (hl : args.length ≤ 102) (k : pwp Proofs.Try.prog c_fLook.body (BodyK c_fLook.results K) (enterF args) h) : PCall Proofs.Try.prog 108 args h K :=
  pcall_of (by kernel_rfl) (by kernel_rfl) c_fLook_is (by kernel_rfl) hl k
def c_fSolve : AFn :=
⟨(O [⟨some 1, none, .e (.box 6 6 (.tmp 0)), []⟩, E 2, E 3]
 (O [Z 6 1, FA 8 0 1, L 9 8, Ln 10 9, V 4 10]
 (.seq (O [V 11 4, Bn 12 .gtr 11 64]
 (.cond (.tmp 12)
 (O [E 2, E 3]
 .ret)
 .skip))
 (O [LA 13 6 1, V 14 4, V 16 4, V 18 4, ⟨some 15, none, .e (.make [(.int .u64 0)] 1 (.tmp 14) (.tmp 14)), []⟩, ⟨some 17, none, .e (.make [(.int .u64 0)] 1 (.tmp 16) (.tmp 16)), []⟩, ⟨some 19, none, .e (.make [(.bool false)] 1 (.tmp 18) (.tmp 18)), []⟩, ⟨some 20, none, .q (.build [(.slice none 0 0), (.slice none 0 0), (.slice none 0 0), (.int .u64 0), (.bool false), (.bool false), (.slice none 0 0), (.slice none 0 0), (.slice none 0 0), (.slice none 0 0), (.slice none 0 0), (.slice none 0 0)] [(0, 6, (.tmp 13)), (8, 1, (.tmp 15)), (9, 1, (.tmp 17)), (11, 1, (.tmp 19))]), []⟩, ⟨some 21, none, .e (.box 12 12 (.tmp 20)), []⟩, V 5 21]
 (O [V 22 5, V 23 5, FA 24 0 1, L 25 24, FA 27 0 1, L 28 27, ⟨some 26, none, .st (.call 105 [(.tmp 25)]), [.load (.tmp 27)]⟩, ⟨some 29, none, .call 47 [(.tmp 28)], []⟩, ⟨some 30, none, .q (.ptrCk (.tmp 22)), []⟩, FA 31 7 30, S 31 26, ⟨some 32, none, .q (.ptrCk (.tmp 23)), []⟩, FA 33 6 32, S 33 29]
 (.seq (O [FA 34 5 1, L 35 34]
 (.cond (.tmp 35)
 (.ops [V 36 5, V 37 5, V 38 5, ⟨some 39, none, .q (.ptrCk (.tmp 38)), []⟩, FA 40 6 39, L 41 40, V 42 5, ⟨some 43, none, .q (.ptrCk (.tmp 42)), []⟩, FA 44 7 43, L 45 44, ⟨some 46, none, .q (.ptrCk (.tmp 36)), []⟩, FA 47 7 46, S 47 41, ⟨some 48, none, .q (.ptrCk (.tmp 37)), []⟩, FA 49 6 48, S 49 45])
 .skip))
 (.seq (O [V 50 4, N 51 0]
 (.block 0 (.loop (O [B 52 .lss 51 50]
 (.seq (.cond (.tmp 52)
 .skip
 (.exit 0))
 (.seq (.block 1 (O [V 53 51, V 6 53]
 (O [V 54 5, ⟨some 55, none, .q (.ptrCk (.tmp 54)), []⟩, FA 56 8 55, L 57 56, V 58 6, V 59 5, ⟨some 60, none, .q (.ptrCk (.tmp 59)), []⟩, FA 61 9 60, L 62 61, V 63 6, V 64 5, V 66 5, ⟨some 65, none, .st (.call 106 [(.tmp 64)]), [.load (.tmp 56), .load (.tmp 61)]⟩, ⟨some 67, none, .st (.call 106 [(.tmp 66)]), [.load (.tmp 56), .load (.tmp 61)]⟩, X 68 1 57 58, S 68 65, X 69 1 62 63, S 69 67]
 (.ops [V 70 5, V 71 6, ⟨some 72, none, .call 107 [(.tmp 70), (.tmp 71)], []⟩]))))
 (.ops [Bn 73 .add 51 1, V 51 73])))))))
 (.seq (.block 2 (.loop (.seq (O [V 74 5, ⟨some 75, none, .q (.ptrCk (.tmp 74)), []⟩, FA 76 10 75, L 77 76, Ln 78 77, Bn 79 .gtr 78 0]
 (.cond (.tmp 79)
 .skip
 (.exit 2)))
 (.block 3 (O [V 80 5, ⟨some 81, none, .q (.ptrCk (.tmp 80)), []⟩, FA 82 10 81, L 83 82, ⟨some 84, none, .q (.idxA 1 (.tmp 83) (.const (.int .i64 0))), []⟩, L 85 84, V 7 85]
 (O [V 86 5, V 87 5, ⟨some 88, none, .q (.ptrCk (.tmp 87)), []⟩, FA 89 10 88, L 90 89, ⟨some 91, none, .q (.cut 1 (.tmp 90) (some (.const (.int .i64 1))) none), []⟩, ⟨some 92, none, .q (.ptrCk (.tmp 86)), []⟩, FA 93 10 92, S 93 91]
 (O [V 94 5, ⟨some 95, none, .q (.ptrCk (.tmp 94)), []⟩, FA 96 11 95, L 97 96, V 98 7, X 99 1 97 98, ⟨none, none, .e (.store 1 (.tmp 99) (.const (.bool false))), []⟩]
 (.ops [V 100 5, V 101 7, ⟨some 102, none, .call 108 [(.tmp 100), (.tmp 101)], []⟩]))))))))
 (.seq (O [FA 103 5 1, L 104 103]
 (.cond (.tmp 104)
 (O [V 105 5, ⟨some 106, none, .q (.ptrCk (.tmp 105)), []⟩, FA 107 9 106, L 108 107, V 109 5, ⟨some 110, none, .q (.ptrCk (.tmp 109)), []⟩, FA 111 8 110, L 112 111, V 2 108, V 3 112]
 .ret)
 .skip))
 (O [V 113 5, ⟨some 114, none, .q (.ptrCk (.tmp 113)), []⟩, FA 115 8 114, L 116 115, V 117 5, ⟨some 118, none, .q (.ptrCk (.tmp 117)), []⟩, FA 119 9 118, L 120 119, V 2 116, V 3 120]
 .ret)))))))))), [.tmp 2, .tmp 3], 121⟩
theorem c_fSolve_is : cFunc Proofs.Try.prog Proofs.Try.f92 = some (eraseF c_fSolve) := by kernel_rfl
theorem call_fSolve {args : List Value} {h : Heap} {K : Value → Heap → Prop} (hl : args.length ≤ 121) (k : pwp Proofs.Try.prog c_fSolve.body (BodyK c_fSolve.results K) (enterF args) h) : PCall Proofs.Try.prog 92 args h K :=
  pcall_of (by kernel_rfl) (by kernel_rfl) c_fSolve_is (by kernel_rfl) hl k
end Pm

/- Codes of the program's functions, as a program printed them, and that they are what the program's functions are compiled to.
   No condition: plain facts. -/
namespace Pm
set_option linter.unusedSimpArgs false
set_option linter.unusedVariables false
open Go Am
set_option maxRecDepth 100000
def c_irRel : AFn :=
⟨(O [T 2 false]
 (O [V 6 0, ⟨some 7, none, .call 122 [(.tmp 6)], []⟩, V 5 7, ⟨some 8, none, .q (.ext (.tmp 5) 0), []⟩, ⟨some 9, none, .q (.ext (.tmp 5) 1), []⟩, ⟨some 3, none, .e (.new [(.string ⟨#[]⟩), (.int .u8 0), (.int .u8 0), (.int .u8 0), (.bool false), (.bool false), (.bool false)] 7), []⟩, ⟨none, none, .e (.store 7 (.tmp 3) (.tmp 8)), []⟩, V 4 9]
 (O [FA 10 6 3, L 11 10, V 2 11]
 .ret))), [.tmp 2], 12⟩
theorem c_irRel_is : cFunc Proofs.Try.prog Proofs.Try.f109 = some (eraseF c_irRel) := by kernel_rfl
theorem call_irRel {args : List Value} {h : Heap} {K : Value → Heap → Prop} (hl : args.length ≤ 12) (k : pwp Proofs.Try.prog c_irRel.body (BodyK c_irRel.results K) (enterF args) h) : PCall Proofs.Try.prog 109 args h K :=
  pcall_of (by kernel_rfl) (by kernel_rfl) c_irRel_is (by kernel_rfl) hl k
def c_R2Rel : AFn :=
⟨(O [T 2 false]
 (O [V 3 0, Bk 4 .eql 3 .u8 12, V 5 4, Gd 5 false (V 6 0), Gd 5 false (Bk 7 .eql 6 .u8 14), ⟨some 8, none, .q (.pick (.tmp 5) (.const (.bool true)) (.tmp 7)), []⟩, V 9 8, Gd 9 false (V 10 0), Gd 9 false (Bk 11 .eql 10 .u8 16), ⟨some 12, none, .q (.pick (.tmp 9) (.const (.bool true)) (.tmp 11)), []⟩, V 13 12, Gd 13 false (V 14 0), Gd 13 false (Bk 15 .geq 14 .u8 18), Gd 13 false (V 16 15), Gd 16 true (V 17 0), Gd 16 true (Bk 18 .leq 17 .u8 24), Gd 13 false (Pk 19 16 18 false), ⟨some 20, none, .q (.pick (.tmp 13) (.const (.bool true)) (.tmp 19)), []⟩, V 21 20, Gd 21 false (V 22 0), Gd 21 false (Bk 23 .eql 22 .u8 27), ⟨some 24, none, .q (.pick (.tmp 21) (.const (.bool true)) (.tmp 23)), []⟩, V 2 24]
 .ret)), [.tmp 2], 25⟩
theorem c_R2Rel_is : cFunc Proofs.Try.prog Proofs.Try.f39 = some (eraseF c_R2Rel) := by kernel_rfl
theorem call_R2Rel {args : List Value} {h : Heap} {K : Value → Heap → Prop} (hl : args.length ≤ 25) (k : pwp Proofs.Try.prog c_R2Rel.body (BodyK c_R2Rel.results K) (enterF args) h) : PCall Proofs.Try.prog 39 args h K :=
  pcall_of (by kernel_rfl) (by kernel_rfl) c_R2Rel_is (by kernel_rfl) hl k
end Pm

/- Codes of the program's functions, as a program printed them, and that they are what the program's functions are compiled to.
   No condition: plain facts. -/
namespace Pm
set_option linter.unusedSimpArgs false
set_option linter.unusedVariables false
open Go Am
set_option maxRecDepth 100000
def c_sAsks : AFn :=
⟨(O [⟨some 1, none, .e (.box 4 4 (.tmp 0)), []⟩, ⟨some 2, none, .q (.val (.const (.int .u64 0))), []⟩]
 (O [⟨some 4, none, .call 54 [(.const (.int .i64 8))], []⟩, V 3 4]
 (.seq (.block 0 (O [FA 6 0 1, L 7 6, ⟨some 8, none, .call 109 [(.tmp 7)], []⟩, V 5 8]
 (.cond (.tmp 5)
 (O [V 9 3, V 2 9]
 .ret)
 (O [FA 11 0 1, L 12 11, Bk 13 .eql 12 .u8 7, V 10 13]
 (.cond (.tmp 10)
 (O [FA 14 2 1, L 15 14, ⟨some 16, none, .e (.lit [(.int .i64 0)] 1 1 [(0, 1, (.tmp 15))]), []⟩, Z 1 16, ⟨some 17, none, .call 55 [(.const (.int .u64 0)), (.tmp 16)], []⟩, V 18 3, B 19 .and 17 18, V 2 19]
 .ret)
 .skip)))))
 (O [⟨some 2, none, .q (.val (.const (.int .u64 0))), []⟩]
 .ret)))), [.tmp 2], 20⟩
theorem c_sAsks_is : cFunc Proofs.Try.prog Proofs.Try.f94 = some (eraseF c_sAsks) := by kernel_rfl
theorem call_sAsks {args : List Value} {h : Heap} {K : Value → Heap → Prop} (hl : args.length ≤ 20) (k : pwp Proofs.Try.prog c_sAsks.body (BodyK c_sAsks.results K) (enterF args) h) : PCall Proofs.Try.prog 94 args h K :=
  pcall_of (by kernel_rfl) (by kernel_rfl) c_sAsks_is (by kernel_rfl) hl k
def c_sNeeded : AFn :=
⟨(O [E 2]
 (.seq (O [V 9 0, Ln 10 9, Bn 11 .gtr 10 60]
 (.cond (.tmp 11)
 (O [E 2]
 .ret)
 .skip))
 (O [V 12 0, ⟨some 13, none, .call 45 [(.tmp 12)], []⟩, ⟨some 14, none, .q (.build [(.slice none 0 0), (.slice none 0 0), (.slice none 0 0), (.int .u64 0), (.bool false), (.bool false)] [(0, 1, (.tmp 13)), (5, 1, (.const (.bool true)))]), []⟩, ⟨some 3, none, .e (.new [(.slice none 0 0), (.slice none 0 0), (.slice none 0 0), (.int .u64 0), (.bool false), (.bool false)] 6), []⟩, ⟨none, none, .e (.store 6 (.tmp 3) (.tmp 14)), []⟩]
 (.seq (O [V 15 0, Ln 16 15, N 17 0]
 (.block 0 (.loop (O [B 18 .lss 17 16]
 (.seq (.cond (.tmp 18)
 .skip
 (.exit 0))
 (.seq (.block 1 (O [X 19 4 15 17, LA 20 4 19, ⟨some 5, none, .e (.new [(.int .u8 0), (.int .i64 0), (.int .i64 0), (.int .i64 0)] 4), []⟩, ⟨none, none, .e (.store 4 (.tmp 5) (.tmp 20)), []⟩]
 (O [⟨some 6, none, .q (.val (.const (.int .u64 0))), []⟩]
 (.seq (O [FA 21 0 5, L 22 21, Bk 23 .eql 22 .u8 8]
 (.cond (.tmp 23)
 (.ops [FA 24 1 5, L 25 24, ⟨some 26, none, .e (.lit [(.int .i64 0)] 1 1 [(0, 1, (.tmp 25))]), []⟩, Z 1 26, ⟨some 27, none, .call 55 [(.const (.int .u64 0)), (.tmp 26)], []⟩, V 6 27])
 .skip))
 (O [FA 28 1 3, L 29 28, LA 30 4 5, ⟨some 31, none, .st (.call 94 [(.tmp 30)]), [.load (.tmp 28)]⟩, ⟨some 32, none, .st (.e (.lit [(.int .u64 0)] 1 1 [(0, 1, (.tmp 31))])), [.load (.tmp 28)]⟩, Ap 33 1 29 32, FA 34 1 3, S 34 33]
 (.ops [FA 35 2 3, L 36 35, V 37 6, ⟨some 38, none, .e (.lit [(.int .u64 0)] 1 1 [(0, 1, (.tmp 37))]), []⟩, Ap 39 1 36 38, FA 40 2 3, S 40 39]))))))
 (.ops [Bn 41 .add 17 1, V 17 41])))))))
 (O [LA 43 6 3, Z 1 43, ⟨some 44, none, .call 92 [(.tmp 43)], []⟩, V 42 44, ⟨some 45, none, .q (.ext (.tmp 42) 0), []⟩, ⟨some 46, none, .q (.ext (.tmp 42) 1), []⟩, V 7 45, V 8 46]
 (O [V 47 8, V 2 47]
 .ret)))))), [.tmp 2], 48⟩
theorem c_sNeeded_is : cFunc Proofs.Try.prog Proofs.Try.f72 = some (eraseF c_sNeeded) := by kernel_rfl
theorem call_sNeeded {args : List Value} {h : Heap} {K : Value → Heap → Prop} (hl : args.length ≤ 48) (k : pwp Proofs.Try.prog c_sNeeded.body (BodyK c_sNeeded.results K) (enterF args) h) : PCall Proofs.Try.prog 72 args h K :=
  pcall_of (by kernel_rfl) (by kernel_rfl) c_sNeeded_is (by kernel_rfl) hl k
def c_sCode : AFn :=
⟨(O [⟨some 2, none, .e (.new [(.slice none 0 0), (.slice none 0 0)] 2), []⟩]
 (.seq (O [V 9 0, Ln 10 9, Bn 11 .gtr 10 60]
 (.cond (.tmp 11)
 (O [⟨some 12, none, .q (.build [(.slice none 0 0), (.slice none 0 0)] []), []⟩, ⟨none, none, .e (.store 2 (.tmp 2) (.tmp 12)), []⟩]
 .ret)
 .skip))
 (O [V 13 0, ⟨some 14, none, .call 73 [(.tmp 13)], []⟩, ⟨some 15, none, .q (.build [(.slice none 0 0), (.slice none 0 0)] [(0, 1, (.tmp 14))]), []⟩, ⟨some 3, none, .e (.new [(.slice none 0 0), (.slice none 0 0)] 2), []⟩, ⟨none, none, .e (.store 2 (.tmp 3) (.tmp 15)), []⟩]
 (O [V 16 0, ⟨some 17, none, .call 72 [(.tmp 16)], []⟩, V 18 0, ⟨some 19, none, .call 45 [(.tmp 18)], []⟩, ⟨some 20, none, .call 46 [(.tmp 19)], []⟩, V 4 17, V 5 20]
 (.seq (O [V 21 0, Ln 22 21, N 23 0]
 (.block 0 (.loop (O [B 24 .lss 23 22]
 (.seq (.cond (.tmp 24)
 .skip
 (.exit 0))
 (.seq (.block 1 (O [V 25 23, X 26 4 21 23, LA 27 4 26, ⟨some 7, none, .e (.new [(.int .u8 0), (.int .i64 0), (.int .i64 0), (.int .i64 0)] 4), []⟩, V 6 25, ⟨none, none, .e (.store 4 (.tmp 7) (.tmp 27)), []⟩]
 (O [FA 28 1 3, L 29 28, V 30 6, ⟨some 31, none, .e (.lit [(.int .i64 0)] 1 1 [(0, 1, (.tmp 30))]), []⟩, Ap 32 1 29 31, FA 33 1 3, S 33 32]
 (O [FA 34 1 7, L 35 34, Bn 36 .geq 35 0, V 37 36, Gd 37 true (FA 38 1 7), Gd 37 true (L 39 38), Gd 37 true (Bn 40 .lss 39 8), Pk 41 37 40 false, V 8 41]
 (O [FA 42 0 7, L 43 42, Bk 44 .eql 43 .u8 8, V 45 44, Gd 45 true (V 46 8), Pk 47 45 46 false, V 48 47, Gd 48 true (V 49 5), Gd 48 true (V 50 6), Gd 48 true (X 51 1 49 50), Gd 48 true (L 52 51), Pk 53 48 52 false, V 54 53, Gd 54 true (V 55 4), Gd 54 true (V 56 6), Gd 54 true (X 57 1 55 56), Gd 54 true (L 58 57), Gd 54 true (FA 59 1 7), Gd 54 true (L 60 59), ⟨some 61, some (54, true), .call 74 [(.tmp 58), (.tmp 60)], []⟩, Gd 54 true (Nt 62 61), Pk 63 54 62 false]
 (.cond (.tmp 63)
 (.ops [FA 64 0 3, L 65 64, V 66 6, ⟨some 67, none, .q (.build [(.int .u8 0), (.int .i64 0), (.int .i64 0), (.int .i64 0)] []), []⟩, X 68 4 65 66, ⟨none, none, .e (.store 4 (.tmp 68) (.tmp 67)), []⟩])
 .skip))))))
 (.ops [Bn 69 .add 23 1, V 23 69])))))))
 (O [LA 70 2 3, ⟨none, none, .e (.store 2 (.tmp 2) (.tmp 70)), []⟩]
 .ret)))))), [.cells 2 2], 71⟩
theorem c_sCode_is : cFunc Proofs.Try.prog Proofs.Try.f38 = some (eraseF c_sCode) := by kernel_rfl
theorem call_sCode {args : List Value} {h : Heap} {K : Value → Heap → Prop} (hl : args.length ≤ 71) (k : pwp Proofs.Try.prog c_sCode.body (BodyK c_sCode.results K) (enterF args) h) : PCall Proofs.Try.prog 38 args h K :=
  pcall_of (by kernel_rfl) (by kernel_rfl) c_sCode_is (by kernel_rfl) hl k
def c_r18need : AFn :=
⟨(O [T 8 false]
 (O [V 12 0, Ln 13 12, ⟨some 14, none, .e (.make [(.bool false)] 1 (.tmp 13) (.tmp 13)), []⟩, V 9 14]
 (O [V 15 3, ⟨some 16, none, .e (.lit [(.int .i64 0)] 1 1 [(0, 1, (.tmp 15))]), []⟩, V 10 16]
 (.seq (.block 0 (.loop (.seq (O [V 17 10, Ln 18 17, Bn 19 .gtr 18 0]
 (.cond (.tmp 19)
 .skip
 (.exit 0)))
 (.block 1 (O [V 20 10, V 21 10, Ln 22 21, Bn 23 .sub 22 1, X 24 1 20 23, L 25 24, V 11 25]
 (O [V 26 10, V 27 10, Ln 28 27, Bn 29 .sub 28 1, ⟨some 30, none, .q (.cut 1 (.tmp 26) none (some (.tmp 29))), []⟩, V 10 30]
 (.seq (O [V 31 11, Bn 32 .lss 31 0, V 33 32, Gd 33 false (V 34 11), Gd 33 false (V 35 0), Gd 33 false (Ln 36 35), Gd 33 false (B 37 .geq 34 36), ⟨some 38, none, .q (.pick (.tmp 33) (.const (.bool true)) (.tmp 37)), []⟩, V 39 38, Gd 39 false (V 40 9), Gd 39 false (V 41 11), Gd 39 false (X 42 1 40 41), Gd 39 false (L 43 42), ⟨some 44, none, .q (.pick (.tmp 39) (.const (.bool true)) (.tmp 43)), []⟩]
 (.cond (.tmp 44)
 (.exit 1)
 .skip))
 (O [V 45 9, V 46 11, X 47 1 45 46, ⟨none, none, .e (.store 1 (.tmp 47) (.const (.bool true))), []⟩]
 (.seq (O [V 48 0, V 49 11, X 50 4 48 49, FA 51 0 50, L 52 51, ⟨some 53, none, .call 39 [(.tmp 52)], []⟩, V 54 53, Gd 54 false (V 55 0), Gd 54 false (V 56 11), Gd 54 false (X 57 4 55 56), Gd 54 false (FA 58 0 57), Gd 54 false (L 59 58), Gd 54 false (Bk 60 .eql 59 .u8 7), Gd 54 false (V 61 60), Gd 61 true (V 62 0), Gd 61 true (V 63 11), Gd 61 true (X 64 4 62 63), Gd 61 true (FA 65 2 64), Gd 61 true (L 66 65), Gd 61 true (V 67 2), Gd 61 true (B 68 .eql 66 67), Gd 54 false (Pk 69 61 68 false), ⟨some 70, none, .q (.pick (.tmp 54) (.const (.bool true)) (.tmp 69)), []⟩]
 (.cond (.tmp 70)
 (O [T 8 true]
 .ret)
 .skip))
 (O [V 71 0, V 72 11, X 73 4 71 72, FA 74 0 73, L 75 74, Bk 76 .neq 75 .u8 8, V 77 76, Gd 77 false (V 78 0), Gd 77 false (V 79 11), Gd 77 false (X 80 4 78 79), Gd 77 false (FA 81 1 80), Gd 77 false (L 82 81), Gd 77 false (V 83 2), Gd 77 false (B 84 .neq 82 83), ⟨some 85, none, .q (.pick (.tmp 77) (.const (.bool true)) (.tmp 84)), []⟩]
 (.cond (.tmp 85)
 (.ops [V 86 10, V 87 1, V 88 11, X 89 1 87 88, L 90 89, Ap 91 1 86 90, V 10 91])
 .skip)))))))))))
 (O [T 8 false]
 .ret))))), [.tmp 8], 92⟩
theorem c_r18need_is : cFunc Proofs.Try.prog Proofs.Try.f96 = some (eraseF c_r18need) := by kernel_rfl
theorem call_r18need {args : List Value} {h : Heap} {K : Value → Heap → Prop} (hl : args.length ≤ 92) (k : pwp Proofs.Try.prog c_r18need.body (BodyK c_r18need.results K) (enterF args) h) : PCall Proofs.Try.prog 96 args h K :=
  pcall_of (by kernel_rfl) (by kernel_rfl) c_r18need_is (by kernel_rfl) hl k
def c_r18Needed : AFn :=
⟨(O [E 2]
 (.seq (O [V 8 0, Ln 9 8, Bn 10 .gtr 9 60]
 (.cond (.tmp 10)
 (O [E 2]
 .ret)
 .skip))
 (O [V 11 0, ⟨some 12, none, .call 66 [(.tmp 11)], []⟩, V 3 12]
 (O [V 13 0, Ln 14 13, ⟨some 15, none, .e (.make [(.int .u64 0)] 1 (.tmp 14) (.tmp 14)), []⟩, V 4 15]
 (.seq (O [N 5 0]
 (.block 0 (.loop (.seq (O [V 16 5, V 17 0, Ln 18 17, B 19 .lss 16 18]
 (.cond (.tmp 19)
 .skip
 (.exit 0)))
 (.seq (.block 1 (O [N 6 0]
 (.block 2 (.loop (.seq (O [V 22 6, Bn 23 .lss 22 8]
 (.cond (.tmp 23)
 .skip
 (.exit 2)))
 (.seq (.block 3 (O [N 7 0]
 (.block 4 (.loop (.seq (O [V 26 7, V 27 3, V 28 5, X 29 1 27 28, L 30 29, Ln 31 30, B 32 .lss 26 31]
 (.cond (.tmp 32)
 .skip
 (.exit 4)))
 (.seq (.block 5 (O [V 35 0, V 36 3, V 37 6, V 38 3, V 39 5, X 40 1 38 39, L 41 40, V 42 7, X 43 1 41 42, L 44 43, Z 1 36, ⟨some 45, none, .call 96 [(.tmp 35), (.tmp 36), (.tmp 37), (.tmp 44)], []⟩]
 (.cond (.tmp 45)
 (.ops [V 46 4, V 47 5, V 48 4, V 49 5, X 50 1 48 49, L 51 50, V 52 6, ⟨some 53, none, .e (.lit [(.int .i64 0)] 1 1 [(0, 1, (.tmp 52))]), []⟩, Z 1 53, ⟨some 54, none, .call 68 [(.tmp 51), (.tmp 53)], []⟩, X 55 1 46 47, S 55 54])
 .skip)))
 (.ops [V 33 7, Bn 34 .add 33 1, V 7 34])))))))
 (.ops [V 24 6, Bn 25 .add 24 1, V 6 25])))))))
 (.ops [V 20 5, Bn 21 .add 20 1, V 5 21]))))))
 (O [V 56 4, V 2 56]
 .ret)))))), [.tmp 2], 57⟩
theorem c_r18Needed_is : cFunc Proofs.Try.prog Proofs.Try.f76 = some (eraseF c_r18Needed) := by kernel_rfl
theorem call_r18Needed {args : List Value} {h : Heap} {K : Value → Heap → Prop} (hl : args.length ≤ 57) (k : pwp Proofs.Try.prog c_r18Needed.body (BodyK c_r18Needed.results K) (enterF args) h) : PCall Proofs.Try.prog 76 args h K :=
  pcall_of (by kernel_rfl) (by kernel_rfl) c_r18Needed_is (by kernel_rfl) hl k
def c_r18Code : AFn :=
⟨(O [⟨some 2, none, .e (.new [(.slice none 0 0), (.slice none 0 0)] 2), []⟩]
 (.seq (O [V 8 0, Ln 9 8, Bn 10 .gtr 9 60]
 (.cond (.tmp 10)
 (O [⟨some 11, none, .q (.build [(.slice none 0 0), (.slice none 0 0)] []), []⟩, ⟨none, none, .e (.store 2 (.tmp 2) (.tmp 11)), []⟩]
 .ret)
 .skip))
 (O [V 12 0, ⟨some 13, none, .call 76 [(.tmp 12)], []⟩, V 3 13]
 (O [V 14 0, ⟨some 15, none, .call 66 [(.tmp 14)], []⟩, ⟨some 16, none, .call 51 [(.tmp 15)], []⟩, V 4 16]
 (O [E 5]
 (.seq (O [N 6 0]
 (.block 0 (.loop (.seq (O [V 17 6, V 18 0, Ln 19 18, B 20 .lss 17 19]
 (.cond (.tmp 20)
 .skip
 (.exit 0)))
 (.seq (.block 1 (O [V 23 0, V 24 6, X 25 4 23 24, LA 26 4 25, ⟨some 7, none, .e (.new [(.int .u8 0), (.int .i64 0), (.int .i64 0), (.int .i64 0)] 4), []⟩, ⟨none, none, .e (.store 4 (.tmp 7) (.tmp 26)), []⟩]
 (.seq (O [FA 27 0 7, L 28 27, Bk 29 .eql 28 .u8 8, V 30 29, Gd 30 true (FA 31 1 7), Gd 30 true (L 32 31), Gd 30 true (Bn 33 .geq 32 0), Pk 34 30 33 false, V 35 34, Gd 35 true (FA 36 1 7), Gd 35 true (L 37 36), Gd 35 true (Bn 38 .lss 37 8), Pk 39 35 38 false, V 40 39, Gd 40 true (V 41 4), Gd 40 true (V 42 6), Gd 40 true (X 43 1 41 42), Gd 40 true (L 44 43), Pk 45 40 44 false, V 46 45, Gd 46 true (V 47 3), Gd 46 true (V 48 6), Gd 46 true (X 49 1 47 48), Gd 46 true (L 50 49), Gd 46 true (FA 51 1 7), Gd 46 true (L 52 51), ⟨some 53, some (46, true), .call 27 [(.tmp 50), (.tmp 52)], []⟩, Gd 46 true (Nt 54 53), Pk 55 46 54 false]
 (.cond (.tmp 55)
 (.ops [⟨some 56, none, .q (.build [(.int .u8 0), (.int .i64 0), (.int .i64 0), (.int .i64 0)] []), []⟩, ⟨none, none, .e (.store 4 (.tmp 7) (.tmp 56)), []⟩])
 .skip))
 (.ops [V 57 5, LA 58 4 7, ⟨some 59, none, .e (.lit [(.int .u8 0), (.int .i64 0), (.int .i64 0), (.int .i64 0)] 4 1 [(0, 4, (.tmp 58))]), []⟩, Ap 60 4 57 59, V 5 60]))))
 (.ops [V 21 6, Bn 22 .add 21 1, V 6 22]))))))
 (O [V 61 5, V 62 0, Ln 63 62, ⟨some 64, none, .call 95 [(.tmp 63)], []⟩, ⟨some 65, none, .q (.build [(.slice none 0 0), (.slice none 0 0)] [(0, 1, (.tmp 61)), (1, 1, (.tmp 64))]), []⟩, ⟨none, none, .e (.store 2 (.tmp 2) (.tmp 65)), []⟩]
 .ret))))))), [.cells 2 2], 66⟩
theorem c_r18Code_is : cFunc Proofs.Try.prog Proofs.Try.f75 = some (eraseF c_r18Code) := by kernel_rfl
theorem call_r18Code {args : List Value} {h : Heap} {K : Value → Heap → Prop} (hl : args.length ≤ 66) (k : pwp Proofs.Try.prog c_r18Code.body (BodyK c_r18Code.results K) (enterF args) h) : PCall Proofs.Try.prog 75 args h K :=
  pcall_of (by kernel_rfl) (by kernel_rfl) c_r18Code_is (by kernel_rfl) hl k
def c_r16Own : AFn :=
⟨(O [E 2]
 (O [E 3]
 (.seq (O [N 4 0]
 (.block 0 (.loop (.seq (O [V 5 4, V 6 0, B 7 .lss 5 6]
 (.cond (.tmp 7)
 .skip
 (.exit 0)))
 (.seq (.block 1 (.ops [V 10 3, V 11 4, ⟨some 12, none, .e (.lit [(.int .i64 0)] 1 1 [(0, 1, (.tmp 11))]), []⟩, Ap 13 1 10 12, V 3 13]))
 (.ops [V 8 4, Bn 9 .add 8 1, V 4 9]))))))
 (O [V 14 3, V 2 14]
 .ret)))), [.tmp 2], 15⟩
theorem c_r16Own_is : cFunc Proofs.Try.prog Proofs.Try.f95 = some (eraseF c_r16Own) := by kernel_rfl
theorem call_r16Own {args : List Value} {h : Heap} {K : Value → Heap → Prop} (hl : args.length ≤ 15) (k : pwp Proofs.Try.prog c_r16Own.body (BodyK c_r16Own.results K) (enterF args) h) : PCall Proofs.Try.prog 95 args h K :=
  pcall_of (by kernel_rfl) (by kernel_rfl) c_r16Own_is (by kernel_rfl) hl k
def c_known18 : AFn :=
⟨(O [T 0 false]
 (O [⟨some 4, none, .q (.build [(.int .u8 0), (.int .i64 0), (.int .i64 0), (.int .i64 0)] [(0, 1, (.const (.int .u8 8))), (2, 1, (.const (.int .i64 1)))]), []⟩, ⟨some 5, none, .q (.build [(.int .u8 0), (.int .i64 0), (.int .i64 0), (.int .i64 0)] [(0, 1, (.const (.int .u8 8))), (2, 1, (.const (.int .i64 2)))]), []⟩, ⟨some 6, none, .q (.build [(.int .u8 0), (.int .i64 0), (.int .i64 0), (.int .i64 0)] [(0, 1, (.const (.int .u8 14)))]), []⟩, ⟨some 7, none, .e (.lit [(.int .u8 0), (.int .i64 0), (.int .i64 0), (.int .i64 0), (.int .u8 0), (.int .i64 0), (.int .i64 0), (.int .i64 0), (.int .u8 0), (.int .i64 0), (.int .i64 0), (.int .i64 0)] 4 3 [(0, 4, (.tmp 4)), (4, 4, (.tmp 5)), (8, 4, (.tmp 6))]), []⟩, Z 4 7, ⟨some 8, none, .call 38 [(.tmp 7)], []⟩, ⟨some 1, none, .e (.new [(.slice none 0 0), (.slice none 0 0)] 2), []⟩, ⟨none, none, .e (.store 2 (.tmp 1) (.tmp 8)), []⟩]
 (O [⟨some 9, none, .q (.build [(.int .u8 0), (.int .i64 0), (.int .i64 0), (.int .i64 0)] [(0, 1, (.const (.int .u8 8))), (2, 1, (.const (.int .i64 1)))]), []⟩, ⟨some 10, none, .q (.build [(.int .u8 0), (.int .i64 0), (.int .i64 0), (.int .i64 0)] [(0, 1, (.const (.int .u8 14)))]), []⟩, ⟨some 11, none, .q (.build [(.int .u8 0), (.int .i64 0), (.int .i64 0), (.int .i64 0)] [(0, 1, (.const (.int .u8 8))), (2, 1, (.const (.int .i64 2)))]), []⟩, ⟨some 12, none, .e (.lit [(.int .u8 0), (.int .i64 0), (.int .i64 0), (.int .i64 0), (.int .u8 0), (.int .i64 0), (.int .i64 0), (.int .i64 0), (.int .u8 0), (.int .i64 0), (.int .i64 0), (.int .i64 0)] 4 3 [(0, 4, (.tmp 9)), (4, 4, (.tmp 10)), (8, 4, (.tmp 11))]), []⟩, Z 4 12, ⟨some 13, none, .call 38 [(.tmp 12)], []⟩, ⟨some 2, none, .e (.new [(.slice none 0 0), (.slice none 0 0)] 2), []⟩, ⟨none, none, .e (.store 2 (.tmp 2) (.tmp 13)), []⟩]
 (O [⟨some 14, none, .q (.build [(.int .u8 0), (.int .i64 0), (.int .i64 0), (.int .i64 0)] []), []⟩, ⟨some 15, none, .q (.build [(.int .u8 0), (.int .i64 0), (.int .i64 0), (.int .i64 0)] [(0, 1, (.const (.int .u8 7))), (2, 1, (.const (.int .i64 1)))]), []⟩, ⟨some 16, none, .e (.lit [(.int .u8 0), (.int .i64 0), (.int .i64 0), (.int .i64 0), (.int .u8 0), (.int .i64 0), (.int .i64 0), (.int .i64 0)] 4 2 [(0, 4, (.tmp 14)), (4, 4, (.tmp 15))]), []⟩, Z 4 16, ⟨some 17, none, .call 72 [(.tmp 16)], []⟩, V 3 17]
 (O [FA 18 0 1, L 19 18, Ln 20 19, Bn 21 .eql 20 3, V 22 21, Gd 22 true (FA 23 0 1), Gd 22 true (L 24 23), ⟨some 25, some (22, true), .q (.idxA 4 (.tmp 24) (.const (.int .i64 0))), []⟩, Gd 22 true (LA 26 4 25), ⟨some 27, some (22, true), .q (.build [(.int .u8 0), (.int .i64 0), (.int .i64 0), (.int .i64 0)] []), []⟩, ⟨some 28, some (22, true), .q (.eqA [0, 0, 0, 0] false (.tmp 26) (.tmp 27)), []⟩, Pk 29 22 28 false, V 30 29, Gd 30 true (FA 31 0 1), Gd 30 true (L 32 31), ⟨some 33, some (30, true), .q (.idxA 4 (.tmp 32) (.const (.int .i64 1))), []⟩, Gd 30 true (FA 34 0 33), Gd 30 true (L 35 34), Gd 30 true (Bk 36 .eql 35 .u8 8), Pk 37 30 36 false, V 38 37, Gd 38 true (FA 39 0 2), Gd 38 true (L 40 39), Gd 38 true (Ln 41 40), Gd 38 true (Bn 42 .eql 41 3), Pk 43 38 42 false, V 44 43, Gd 44 true (FA 45 0 2), Gd 44 true (L 46 45), ⟨some 47, some (44, true), .q (.idxA 4 (.tmp 46) (.const (.int .i64 0))), []⟩, Gd 44 true (FA 48 0 47), Gd 44 true (L 49 48), Gd 44 true (Bk 50 .eql 49 .u8 8), Pk 51 44 50 false, V 52 51, Gd 52 true (FA 53 0 2), Gd 52 true (L 54 53), ⟨some 55, some (52, true), .q (.idxA 4 (.tmp 54) (.const (.int .i64 2))), []⟩, Gd 52 true (LA 56 4 55), ⟨some 57, some (52, true), .q (.build [(.int .u8 0), (.int .i64 0), (.int .i64 0), (.int .i64 0)] []), []⟩, ⟨some 58, some (52, true), .q (.eqA [0, 0, 0, 0] false (.tmp 56) (.tmp 57)), []⟩, Pk 59 52 58 false, V 60 59, Gd 60 true (V 61 3), Gd 60 true (Ln 62 61), Gd 60 true (Bn 63 .eql 62 2), Pk 64 60 63 false, V 65 64, Gd 65 true (V 66 3), ⟨some 67, some (65, true), .q (.idxA 1 (.tmp 66) (.const (.int .i64 0))), []⟩, Gd 65 true (L 68 67), Gd 65 true (Bk 69 .eql 68 .u64 2), Pk 70 65 69 false, V 71 70, Gd 71 true (V 72 3), ⟨some 73, some (71, true), .q (.idxA 1 (.tmp 72) (.const (.int .i64 1))), []⟩, Gd 71 true (L 74 73), Gd 71 true (Bk 75 .eql 74 .u64 0), Pk 76 71 75 false, V 0 76]
 .ret))))), [.tmp 0], 77⟩
theorem c_known18_is : cFunc Proofs.Try.prog Proofs.Try.f37 = some (eraseF c_known18) := by kernel_rfl
theorem call_known18 {args : List Value} {h : Heap} {K : Value → Heap → Prop} (hl : args.length ≤ 77) (k : pwp Proofs.Try.prog c_known18.body (BodyK c_known18.results K) (enterF args) h) : PCall Proofs.Try.prog 37 args h K :=
  pcall_of (by kernel_rfl) (by kernel_rfl) c_known18_is (by kernel_rfl) hl k
def c_tells18 : AFn :=
⟨(O [T 2 false]
 (O [V 8 0, ⟨some 9, none, .call 38 [(.tmp 8)], []⟩, ⟨some 3, none, .e (.new [(.slice none 0 0), (.slice none 0 0)] 2), []⟩, ⟨none, none, .e (.store 2 (.tmp 3) (.tmp 9)), []⟩]
 (O [V 10 0, ⟨some 11, none, .call 75 [(.tmp 10)], []⟩, ⟨some 4, none, .e (.new [(.slice none 0 0), (.slice none 0 0)] 2), []⟩, ⟨none, none, .e (.store 2 (.tmp 4) (.tmp 11)), []⟩]
 (O [V 12 0, ⟨some 13, none, .call 72 [(.tmp 12)], []⟩, V 5 13]
 (O [V 14 0, ⟨some 15, none, .call 76 [(.tmp 14)], []⟩, V 6 15]
 (.seq (O [FA 16 0 3, L 17 16, FA 18 0 4, L 19 18, Z 4 17, Z 4 19, ⟨some 20, none, .call 77 [(.tmp 17), (.tmp 19)], []⟩, Nt 21 20, V 22 21, Gd 22 false (FA 23 1 3), Gd 22 false (L 24 23), Gd 22 false (FA 25 1 4), Gd 22 false (L 26 25), ⟨some 27, some (22, false), .call 33 [(.tmp 24), (.tmp 26)], []⟩, Gd 22 false (Nt 28 27), ⟨some 29, none, .q (.pick (.tmp 22) (.const (.bool true)) (.tmp 28)), []⟩, V 30 29, Gd 30 false (V 31 5), Gd 30 false (Ln 32 31), Gd 30 false (V 33 6), Gd 30 false (Ln 34 33), Gd 30 false (B 35 .neq 32 34), ⟨some 36, none, .q (.pick (.tmp 30) (.const (.bool true)) (.tmp 35)), []⟩]
 (.cond (.tmp 36)
 (O [T 2 false]
 .ret)
 .skip))
 (.seq (O [N 7 0]
 (.block 0 (.loop (.seq (O [V 37 7, V 38 5, Ln 39 38, B 40 .lss 37 39]
 (.cond (.tmp 40)
 .skip
 (.exit 0)))
 (.seq (.block 1 (O [V 43 5, V 44 7, X 45 1 43 44, L 46 45, V 47 6, V 48 7, X 49 1 47 48, L 50 49, B 51 .neq 46 50]
 (.cond (.tmp 51)
 (O [T 2 false]
 .ret)
 .skip)))
 (.ops [V 41 7, Bn 42 .add 41 1, V 7 42]))))))
 (O [T 2 true]
 .ret)))))))), [.tmp 2], 52⟩
theorem c_tells18_is : cFunc Proofs.Try.prog Proofs.Try.f40 = some (eraseF c_tells18) := by kernel_rfl
theorem call_tells18 {args : List Value} {h : Heap} {K : Value → Heap → Prop} (hl : args.length ≤ 52) (k : pwp Proofs.Try.prog c_tells18.body (BodyK c_tells18.results K) (enterF args) h) : PCall Proofs.Try.prog 40 args h K :=
  pcall_of (by kernel_rfl) (by kernel_rfl) c_tells18_is (by kernel_rfl) hl k
def c_StoresKept : AFn :=
⟨(O [T 4 false]
 (O [V 8 0, Bk 9 .rem 8 .u8 28, ⟨some 10, none, .q (.build [(.int .u8 0), (.int .i64 0), (.int .i64 0), (.int .i64 0)] [(0, 1, (.tmp 9))]), []⟩, ⟨some 5, none, .e (.new [(.int .u8 0), (.int .i64 0), (.int .i64 0), (.int .i64 0)] 4), []⟩, ⟨none, none, .e (.store 4 (.tmp 5) (.tmp 10)), []⟩]
 (.seq (O [FA 11 0 5, L 12 11, Bk 13 .eql 12 .u8 10, V 14 13, Gd 14 false (FA 15 0 5), Gd 14 false (L 16 15), Gd 14 false (Bk 17 .eql 16 .u8 11), ⟨some 18, none, .q (.pick (.tmp 14) (.const (.bool true)) (.tmp 17)), []⟩]
 (.cond (.tmp 18)
 (O [⟨some 19, none, .call 37 [], []⟩, V 4 19]
 .ret)
 .skip))
 (.seq (O [FA 20 0 5, L 21 20, Bk 22 .eql 21 .u8 8, V 23 22, Gd 23 false (FA 24 0 5), Gd 23 false (L 25 24), Gd 23 false (Bk 26 .eql 25 .u8 7), ⟨some 27, none, .q (.pick (.tmp 23) (.const (.bool true)) (.tmp 26)), []⟩]
 (.cond (.tmp 27)
 (O [V 28 1, Bk 29 .rem 28 .u8 2, Cv' 30 .i64 29, FA 31 1 5, S 31 30]
 (.ops [V 32 1, Bk 33 .quo 32 .u8 2, Bk 34 .rem 33 .u8 2, Cv' 35 .i64 34, FA 36 2 5, S 36 35]))
 .skip))
 (O [⟨some 37, none, .q (.build [(.int .u8 0), (.int .i64 0), (.int .i64 0), (.int .i64 0)] [(0, 1, (.const (.int .u8 8)))]), []⟩, LA 38 4 5, ⟨some 39, none, .q (.build [(.int .u8 0), (.int .i64 0), (.int .i64 0), (.int .i64 0)] [(0, 1, (.const (.int .u8 8))), (2, 1, (.const (.int .i64 1)))]), []⟩, ⟨some 40, none, .q (.build [(.int .u8 0), (.int .i64 0), (.int .i64 0), (.int .i64 0)] [(0, 1, (.const (.int .u8 14)))]), []⟩, ⟨some 41, none, .e (.lit [(.int .u8 0), (.int .i64 0), (.int .i64 0), (.int .i64 0), (.int .u8 0), (.int .i64 0), (.int .i64 0), (.int .i64 0), (.int .u8 0), (.int .i64 0), (.int .i64 0), (.int .i64 0), (.int .u8 0), (.int .i64 0), (.int .i64 0), (.int .i64 0)] 4 4 [(0, 4, (.tmp 37)), (4, 4, (.tmp 38)), (8, 4, (.tmp 39)), (12, 4, (.tmp 40))]), []⟩, Z 4 41, ⟨some 42, none, .call 38 [(.tmp 41)], []⟩, ⟨some 6, none, .e (.new [(.slice none 0 0), (.slice none 0 0)] 2), []⟩, ⟨none, none, .e (.store 2 (.tmp 6) (.tmp 42)), []⟩]
 (.seq (O [FA 43 0 6, L 44 43, Ln 45 44, Bn 46 .neq 45 4]
 (.cond (.tmp 46)
 (O [T 4 false]
 .ret)
 .skip))
 (O [FA 47 0 5, L 48 47, ⟨some 49, none, .call 39 [(.tmp 48)], []⟩, V 50 49, Gd 50 false (FA 51 0 5), Gd 50 false (L 52 51), Gd 50 false (Bk 53 .eql 52 .u8 7), Gd 50 false (V 54 53), Gd 54 true (FA 55 2 5), Gd 54 true (L 56 55), Gd 54 true (Bn 57 .eql 56 0), Gd 50 false (Pk 58 54 57 false), ⟨some 59, none, .q (.pick (.tmp 50) (.const (.bool true)) (.tmp 58)), []⟩, V 7 59]
 (O [⟨some 60, none, .call 37 [], []⟩, V 61 60, Gd 61 true (FA 62 0 6), Gd 61 true (L 63 62), ⟨some 64, some (61, true), .q (.idxA 4 (.tmp 63) (.const (.int .i64 0))), []⟩, Gd 61 true (FA 65 0 64), Gd 61 true (L 66 65), Gd 61 true (Bk 67 .eql 66 .u8 8), Gd 61 true (V 68 7), ⟨some 69, some (61, true), .q (.eqB false (.tmp 67) (.tmp 68)), []⟩, Pk 70 61 69 false, V 71 70, Gd 71 true (FA 72 0 6), Gd 71 true (L 73 72), ⟨some 74, some (71, true), .q (.idxA 4 (.tmp 73) (.const (.int .i64 2))), []⟩, Gd 71 true (FA 75 0 74), Gd 71 true (L 76 75), Gd 71 true (Bk 77 .eql 76 .u8 8), Pk 78 71 77 false, V 4 78]
 .ret)))))))), [.tmp 4], 79⟩
theorem c_StoresKept_is : cFunc Proofs.Try.prog Proofs.Try.f9 = some (eraseF c_StoresKept) := by kernel_rfl
theorem call_StoresKept {args : List Value} {h : Heap} {K : Value → Heap → Prop} (hl : args.length ≤ 79) (k : pwp Proofs.Try.prog c_StoresKept.body (BodyK c_StoresKept.results K) (enterF args) h) : PCall Proofs.Try.prog 9 args h K :=
  pcall_of (by kernel_rfl) (by kernel_rfl) c_StoresKept_is (by kernel_rfl) hl k
def c_StoresCode : AFn :=
⟨(O [T 6 false]
 (.seq (O [V 9 0, Ln 10 9, Bn 11 .gtr 10 65, V 12 11, ⟨some 13, some (12, false), .call 37 [], []⟩, Gd 12 false (Nt 14 13), ⟨some 15, none, .q (.pick (.tmp 12) (.const (.bool true)) (.tmp 14)), []⟩]
 (.cond (.tmp 15)
 (O [⟨some 16, none, .call 37 [], []⟩, V 6 16]
 .ret)
 .skip))
 (O [V 17 1, ⟨some 18, none, .call 19 [(.tmp 17)], []⟩, ⟨some 7, none, .e (.new [(.int .i64 0), (.int .i64 0), (.int .i64 0), (.slice none 0 0), (.int .i64 0), (.int .i64 0), (.slice none 0 0)] 7), []⟩, ⟨none, none, .e (.store 7 (.tmp 7) (.tmp 18)), []⟩]
 (O [V 19 0, ⟨some 20, none, .call 40 [(.tmp 19)], []⟩, V 8 20]
 (O [V 21 8, V 22 21, Gd 22 true (FA 23 6 7), Gd 22 true (L 24 23), Gd 22 true (V 25 2), Gd 22 true (Cv' 26 .i64 25), Gd 22 true (FA 27 6 7), Gd 22 true (L 28 27), Gd 22 true (Ln 29 28), Gd 22 true (B 30 .rem 26 29), Gd 22 true (X 31 1 24 30), Gd 22 true (L 32 31), ⟨some 33, some (22, true), .call 40 [(.tmp 32)], []⟩, Pk 34 22 33 false, V 6 34]
 .ret))))), [.tmp 6], 35⟩
theorem c_StoresCode_is : cFunc Proofs.Try.prog Proofs.Try.f10 = some (eraseF c_StoresCode) := by kernel_rfl
theorem call_StoresCode {args : List Value} {h : Heap} {K : Value → Heap → Prop} (hl : args.length ≤ 35) (k : pwp Proofs.Try.prog c_StoresCode.body (BodyK c_StoresCode.results K) (enterF args) h) : PCall Proofs.Try.prog 10 args h K :=
  pcall_of (by kernel_rfl) (by kernel_rfl) c_StoresCode_is (by kernel_rfl) hl k
def c_StoresOnly : AFn :=
⟨(O [T 2 false]
 (O [V 7 0, ⟨some 8, none, .call 19 [(.tmp 7)], []⟩, F 9 6 8, ⟨some 10, none, .q (.idxA 1 (.tmp 9) (.const (.int .i64 0))), []⟩, L 11 10, V 3 11]
 (O [V 12 3, Z 4 12, ⟨some 13, none, .call 38 [(.tmp 12)], []⟩, ⟨some 4, none, .e (.new [(.slice none 0 0), (.slice none 0 0)] 2), []⟩, ⟨none, none, .e (.store 2 (.tmp 4) (.tmp 13)), []⟩]
 (.seq (O [FA 14 0 4, L 15 14, Ln 16 15, V 17 3, Ln 18 17, B 19 .neq 16 18, V 20 19, Gd 20 false (FA 21 1 4), Gd 20 false (L 22 21), Gd 20 false (Ln 23 22), Gd 20 false (V 24 3), Gd 20 false (Ln 25 24), Gd 20 false (B 26 .neq 23 25), ⟨some 27, none, .q (.pick (.tmp 20) (.const (.bool true)) (.tmp 26)), []⟩]
 (.cond (.tmp 27)
 (O [T 2 false]
 .ret)
 .skip))
 (.seq (O [N 5 0]
 (.block 0 (.loop (.seq (O [V 28 5, V 29 3, Ln 30 29, B 31 .lss 28 30]
 (.cond (.tmp 31)
 .skip
 (.exit 0)))
 (.seq (.block 1 (O [FA 34 0 4, L 35 34, V 36 5, X 37 4 35 36, LA 38 4 37, ⟨some 6, none, .e (.new [(.int .u8 0), (.int .i64 0), (.int .i64 0), (.int .i64 0)] 4), []⟩, ⟨none, none, .e (.store 4 (.tmp 6) (.tmp 38)), []⟩]
 (.seq (O [LA 39 4 6, V 40 3, V 41 5, X 42 4 40 41, LA 43 4 42, ⟨some 44, none, .q (.eqA [0, 0, 0, 0] true (.tmp 39) (.tmp 43)), []⟩, V 45 44, Gd 45 true (V 46 3), Gd 45 true (V 47 5), Gd 45 true (X 48 4 46 47), Gd 45 true (FA 49 0 48), Gd 45 true (L 50 49), Gd 45 true (Bk 51 .neq 50 .u8 8), Gd 45 true (V 52 51), Gd 52 false (LA 53 4 6), ⟨some 54, some (52, false), .q (.build [(.int .u8 0), (.int .i64 0), (.int .i64 0), (.int .i64 0)] []), []⟩, ⟨some 55, some (52, false), .q (.eqA [0, 0, 0, 0] true (.tmp 53) (.tmp 54)), []⟩, ⟨some 56, some (45, true), .q (.pick (.tmp 52) (.const (.bool true)) (.tmp 55)), []⟩, Pk 57 45 56 false, V 58 57, Gd 58 false (FA 59 1 4), Gd 58 false (L 60 59), Gd 58 false (V 61 5), Gd 58 false (X 62 1 60 61), Gd 58 false (L 63 62), Gd 58 false (V 64 5), Gd 58 false (B 65 .neq 63 64), ⟨some 66, none, .q (.pick (.tmp 58) (.const (.bool true)) (.tmp 65)), []⟩]
 (.cond (.tmp 66)
 (O [T 2 false]
 .ret)
 .skip))
 (O [V 67 5, Bn 68 .add 67 1, V 69 3, Ln 70 69, B 71 .lss 68 70, V 72 71, Gd 72 true (V 73 3), Gd 72 true (V 74 5), Gd 72 true (X 75 4 73 74), Gd 72 true (FA 76 0 75), Gd 72 true (L 77 76), Gd 72 true (Bk 78 .eql 77 .u8 8), Pk 79 72 78 false, V 80 79, Gd 80 true (V 81 3), Gd 80 true (V 82 5), Gd 80 true (Bn 83 .add 82 1), Gd 80 true (X 84 4 81 83), Gd 80 true (FA 85 0 84), Gd 80 true (L 86 85), ⟨some 87, some (80, true), .call 39 [(.tmp 86)], []⟩, Pk 88 80 87 false, V 89 88, Gd 89 true (LA 90 4 6), Gd 89 true (V 91 3), Gd 89 true (V 92 5), Gd 89 true (X 93 4 91 92), Gd 89 true (LA 94 4 93), ⟨some 95, some (89, true), .q (.eqA [0, 0, 0, 0] true (.tmp 90) (.tmp 94)), []⟩, Pk 96 89 95 false]
 (.cond (.tmp 96)
 (O [T 2 false]
 .ret)
 .skip)))))
 (.ops [V 32 5, Bn 33 .add 32 1, V 5 33]))))))
 (O [⟨some 97, none, .call 37 [], []⟩, V 2 97]
 .ret)))))), [.tmp 2], 98⟩
theorem c_StoresOnly_is : cFunc Proofs.Try.prog Proofs.Try.f13 = some (eraseF c_StoresOnly) := by kernel_rfl
theorem call_StoresOnly {args : List Value} {h : Heap} {K : Value → Heap → Prop} (hl : args.length ≤ 98) (k : pwp Proofs.Try.prog c_StoresOnly.body (BodyK c_StoresOnly.results K) (enterF args) h) : PCall Proofs.Try.prog 13 args h K :=
  pcall_of (by kernel_rfl) (by kernel_rfl) c_StoresOnly_is (by kernel_rfl) hl k
def c_StoresChain : AFn :=
⟨(O [T 2 false]
 (O [E 3]
 (.seq (O [N 4 0]
 (.block 0 (.loop (.seq (O [V 10 4, V 11 0, Ln 12 11, B 13 .lss 10 12, V 14 13, Gd 14 true (V 15 4), Gd 14 true (Bn 16 .lss 15 40), Pk 17 14 16 false]
 (.cond (.tmp 17)
 .skip
 (.exit 0)))
 (.seq (.block 1 (.ops [V 20 3, V 21 0, V 22 4, X 23 1 21 22, L 24 23, Bk 25 .rem 24 .u8 8, Cv' 26 .i64 25, V 27 0, V 28 4, X 29 1 27 28, L 30 29, Bk 31 .quo 30 .u8 8, Bk 32 .rem 31 .u8 4, Cv' 33 .i64 32, ⟨some 34, none, .q (.build [(.int .u8 0), (.int .i64 0), (.int .i64 0), (.int .i64 0)] [(0, 1, (.const (.int .u8 8))), (1, 1, (.tmp 26)), (2, 1, (.tmp 33))]), []⟩, ⟨some 35, none, .e (.lit [(.int .u8 0), (.int .i64 0), (.int .i64 0), (.int .i64 0)] 4 1 [(0, 4, (.tmp 34))]), []⟩, Ap 36 4 20 35, V 3 36]))
 (.ops [V 18 4, Bn 19 .add 18 1, V 4 19]))))))
 (O [V 37 3, Ln 38 37, V 5 38]
 (O [V 39 3, ⟨some 40, none, .q (.build [(.int .u8 0), (.int .i64 0), (.int .i64 0), (.int .i64 0)] [(0, 1, (.const (.int .u8 14)))]), []⟩, ⟨some 41, none, .e (.lit [(.int .u8 0), (.int .i64 0), (.int .i64 0), (.int .i64 0)] 4 1 [(0, 4, (.tmp 40))]), []⟩, Ap 42 4 39 41, V 3 42]
 (O [V 43 3, Z 4 43, ⟨some 44, none, .call 38 [(.tmp 43)], []⟩, ⟨some 6, none, .e (.new [(.slice none 0 0), (.slice none 0 0)] 2), []⟩, ⟨none, none, .e (.store 2 (.tmp 6) (.tmp 44)), []⟩]
 (.seq (O [FA 45 0 6, L 46 45, Ln 47 46, V 48 3, Ln 49 48, B 50 .neq 47 49]
 (.cond (.tmp 50)
 (O [T 2 false]
 .ret)
 .skip))
 (.seq (O [N 7 0]
 (.block 2 (.loop (.seq (O [V 51 7, V 52 5, B 53 .lss 51 52]
 (.cond (.tmp 53)
 .skip
 (.exit 2)))
 (.seq (.block 3 (O [T 8 true]
 (.seq (O [V 56 7, Bn 57 .add 56 1, V 9 57]
 (.block 4 (.loop (.seq (O [V 58 9, V 59 5, B 60 .lss 58 59]
 (.cond (.tmp 60)
 .skip
 (.exit 4)))
 (.seq (.block 5 (.ops [V 63 8, V 64 63, Gd 64 true (V 65 3), Gd 64 true (V 66 9), Gd 64 true (X 67 4 65 66), Gd 64 true (FA 68 1 67), Gd 64 true (L 69 68), Gd 64 true (V 70 3), Gd 64 true (V 71 7), Gd 64 true (X 72 4 70 71), Gd 64 true (FA 73 1 72), Gd 64 true (L 74 73), Gd 64 true (B 75 .neq 69 74), Pk 76 64 75 false, V 8 76]))
 (.ops [V 61 9, Bn 62 .add 61 1, V 9 62]))))))
 (O [V 77 8, V 78 77, Gd 78 true (FA 79 0 6), Gd 78 true (L 80 79), Gd 78 true (V 81 7), Gd 78 true (X 82 4 80 81), Gd 78 true (LA 83 4 82), Gd 78 true (V 84 3), Gd 78 true (V 85 7), Gd 78 true (X 86 4 84 85), Gd 78 true (LA 87 4 86), ⟨some 88, some (78, true), .q (.eqA [0, 0, 0, 0] true (.tmp 83) (.tmp 87)), []⟩, Pk 89 78 88 false, V 90 89, Gd 90 false (V 91 8), Gd 90 false (Nt 92 91), Gd 90 false (V 93 92), Gd 93 true (FA 94 0 6), Gd 93 true (L 95 94), Gd 93 true (V 96 7), Gd 93 true (X 97 4 95 96), Gd 93 true (LA 98 4 97), ⟨some 99, some (93, true), .q (.build [(.int .u8 0), (.int .i64 0), (.int .i64 0), (.int .i64 0)] []), []⟩, ⟨some 100, some (93, true), .q (.eqA [0, 0, 0, 0] true (.tmp 98) (.tmp 99)), []⟩, Gd 90 false (Pk 101 93 100 false), ⟨some 102, none, .q (.pick (.tmp 90) (.const (.bool true)) (.tmp 101)), []⟩]
 (.cond (.tmp 102)
 (O [T 2 false]
 .ret)
 .skip)))))
 (.ops [V 54 7, Bn 55 .add 54 1, V 7 55]))))))
 (O [⟨some 103, none, .call 37 [], []⟩, V 2 103]
 .ret))))))))), [.tmp 2], 104⟩
theorem c_StoresChain_is : cFunc Proofs.Try.prog Proofs.Try.f14 = some (eraseF c_StoresChain) := by kernel_rfl
theorem call_StoresChain {args : List Value} {h : Heap} {K : Value → Heap → Prop} (hl : args.length ≤ 104) (k : pwp Proofs.Try.prog c_StoresChain.body (BodyK c_StoresChain.results K) (enterF args) h) : PCall Proofs.Try.prog 14 args h K :=
  pcall_of (by kernel_rfl) (by kernel_rfl) c_StoresChain_is (by kernel_rfl) hl k
def c_R2SameCode : AFn :=
⟨(O [T 4 false]
 (.seq (O [V 6 0, Ln 7 6, V 8 1, Ln 9 8, B 10 .neq 7 9]
 (.cond (.tmp 10)
 (O [T 4 false]
 .ret)
 .skip))
 (.seq (O [N 5 0]
 (.block 0 (.loop (.seq (O [V 11 5, V 12 0, Ln 13 12, B 14 .lss 11 13]
 (.cond (.tmp 14)
 .skip
 (.exit 0)))
 (.seq (.block 1 (O [V 17 0, V 18 5, X 19 4 17 18, LA 20 4 19, V 21 1, V 22 5, X 23 4 21 22, LA 24 4 23, ⟨some 25, none, .q (.eqA [0, 0, 0, 0] true (.tmp 20) (.tmp 24)), []⟩]
 (.cond (.tmp 25)
 (O [T 4 false]
 .ret)
 .skip)))
 (.ops [V 15 5, Bn 16 .add 15 1, V 5 16]))))))
 (O [T 4 true]
 .ret)))), [.tmp 4], 26⟩
theorem c_R2SameCode_is : cFunc Proofs.Try.prog Proofs.Try.f77 = some (eraseF c_R2SameCode) := by kernel_rfl
theorem call_R2SameCode {args : List Value} {h : Heap} {K : Value → Heap → Prop} (hl : args.length ≤ 26) (k : pwp Proofs.Try.prog c_R2SameCode.body (BodyK c_R2SameCode.results K) (enterF args) h) : PCall Proofs.Try.prog 77 args h K :=
  pcall_of (by kernel_rfl) (by kernel_rfl) c_R2SameCode_is (by kernel_rfl) hl k
end Pm
