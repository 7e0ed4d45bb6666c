/- Codes of the program's functions, as a program printed them, and that they are what the program's functions are compiled to.
   No condition: plain facts. -/
import Derived.Test.YtjddnmjmaalcgaaPm5
import Derived.Test.YtjddnmjmaalcgaaProg
import Derived.KernelRfl
namespace Pm
set_option linter.unusedSimpArgs false
set_option linter.unusedVariables false
open Go Am
set_option maxRecDepth 100000
def c_MkIns : AFn :=
⟨(O [⟨some 8, none, .e (.new [(.int .u8 0), (.int .i64 0), (.int .i64 0), (.int .i64 0)] 4), []⟩]
 (O [⟨some 14, none, .e (.lit [(.int .u8 0), (.int .u8 0), (.int .u8 0), (.int .u8 0), (.int .u8 0), (.int .u8 0), (.int .u8 0), (.int .u8 0), (.int .u8 0), (.int .u8 0), (.int .u8 0), (.int .u8 0), (.int .u8 0), (.int .u8 0), (.int .u8 0), (.int .u8 0), (.int .u8 0), (.int .u8 0), (.int .u8 0), (.int .u8 0), (.int .u8 0), (.int .u8 0), (.int .u8 0), (.int .u8 0), (.int .u8 0), (.int .u8 0), (.int .u8 0), (.int .u8 0), (.int .u8 0), (.int .u8 0), (.int .u8 0), (.int .u8 0), (.int .u8 0), (.int .u8 0), (.int .u8 0), (.int .u8 0)] 1 36 [(0, 1, (.const (.int .u8 7))), (1, 1, (.const (.int .u8 8))), (2, 1, (.const (.int .u8 9))), (3, 1, (.const (.int .u8 1))), (4, 1, (.const (.int .u8 3))), (5, 1, (.const (.int .u8 7))), (6, 1, (.const (.int .u8 8))), (7, 1, (.const (.int .u8 9))), (8, 1, (.const (.int .u8 13))), (9, 1, (.const (.int .u8 14))), (10, 1, (.const (.int .u8 15))), (11, 1, (.const (.int .u8 16))), (12, 1, (.const (.int .u8 17))), (13, 1, (.const (.int .u8 18))), (14, 1, (.const (.int .u8 19))), (15, 1, (.const (.int .u8 20))), (16, 1, (.const (.int .u8 21))), (17, 1, (.const (.int .u8 22))), (18, 1, (.const (.int .u8 23))), (19, 1, (.const (.int .u8 24))), (20, 1, (.const (.int .u8 25))), (21, 1, (.const (.int .u8 26))), (22, 1, (.const (.int .u8 27))), (23, 1, (.const (.int .u8 11))), (24, 1, (.const (.int .u8 10))), (25, 1, (.const (.int .u8 0))), (26, 1, (.const (.int .u8 2))), (27, 1, (.const (.int .u8 4))), (28, 1, (.const (.int .u8 5))), (29, 1, (.const (.int .u8 6))), (30, 1, (.const (.int .u8 7))), (31, 1, (.const (.int .u8 8))), (32, 1, (.const (.int .u8 13))), (33, 1, (.const (.int .u8 14))), (34, 1, (.const (.int .u8 9))), (35, 1, (.const (.int .u8 8)))]), []⟩, V 9 14]
 (O [V 15 9, V 16 0, Cv' 17 .i64 16, V 18 9, Ln 19 18, B 20 .rem 17 19, X 21 1 15 20, L 22 21, V 10 22]
 (O [V 23 1, Bk 24 .rem 23 .u8 4, Cv' 25 .i64 24, V 11 25]
 (O [V 26 1, Bk 27 .quo 26 .u8 4, Bk 28 .rem 27 .u8 4, Cv' 29 .i64 28, V 12 29]
 (O [V 30 1, Bk 31 .quo 30 .u8 16, Bk 32 .rem 31 .u8 2, Cv' 33 .i64 32, V 13 33]
 (.seq (O [V 34 10]
 (.block 0 (O [Bk 36 .eql 34 .u8 1, V 35 36]
 (.cond (.tmp 35)
 (O [V 37 10, V 38 11, V 39 1, Bk 40 .quo 39 .u8 4, Bk 41 .rem 40 .u8 8, Cv' 42 .i64 41, ⟨some 43, none, .q (.build [(.int .u8 0), (.int .i64 0), (.int .i64 0), (.int .i64 0)] [(0, 1, (.tmp 37)), (1, 1, (.tmp 38)), (2, 1, (.tmp 42))]), []⟩, ⟨none, none, .e (.store 4 (.tmp 8) (.tmp 43)), []⟩]
 .ret)
 (O [Bk 45 .eql 34 .u8 2, V 44 45]
 (.cond (.tmp 44)
 (O [V 46 10, V 47 11, V 48 12, ⟨some 49, none, .q (.build [(.int .u8 0), (.int .i64 0), (.int .i64 0), (.int .i64 0)] [(0, 1, (.tmp 46)), (1, 1, (.tmp 47)), (2, 1, (.tmp 48))]), []⟩, ⟨none, none, .e (.store 4 (.tmp 8) (.tmp 49)), []⟩]
 .ret)
 (.seq (O [Bk 51 .eql 34 .u8 3, V 50 51]
 (.cond (.tmp 50)
 .skip
 (O [Bk 52 .eql 34 .u8 4, V 50 52]
 (.cond (.tmp 50)
 .skip
 (O [Bk 53 .eql 34 .u8 5, V 50 53]
 (.cond (.tmp 50)
 .skip
 (.ops [Bk 54 .eql 34 .u8 6, V 50 54])))))))
 (.cond (.tmp 50)
 (O [V 55 10, V 56 11, V 57 12, V 58 1, Bk 59 .quo 58 .u8 16, Bk 60 .rem 59 .u8 4, Cv' 61 .i64 60, ⟨some 62, none, .q (.build [(.int .u8 0), (.int .i64 0), (.int .i64 0), (.int .i64 0)] [(0, 1, (.tmp 55)), (1, 1, (.tmp 56)), (2, 1, (.tmp 57)), (3, 1, (.tmp 61))]), []⟩, ⟨none, none, .e (.store 4 (.tmp 8) (.tmp 62)), []⟩]
 .ret)
 (O [Bk 64 .eql 34 .u8 7, V 63 64]
 (.cond (.tmp 63)
 (O [V 65 10, V 66 11, V 67 13, ⟨some 68, none, .q (.build [(.int .u8 0), (.int .i64 0), (.int .i64 0), (.int .i64 0)] [(0, 1, (.tmp 65)), (1, 1, (.tmp 66)), (2, 1, (.tmp 67))]), []⟩, ⟨none, none, .e (.store 4 (.tmp 8) (.tmp 68)), []⟩]
 .ret)
 (O [Bk 70 .eql 34 .u8 8, V 69 70]
 (.cond (.tmp 69)
 (O [V 71 10, V 72 13, V 73 11, ⟨some 74, none, .q (.build [(.int .u8 0), (.int .i64 0), (.int .i64 0), (.int .i64 0)] [(0, 1, (.tmp 71)), (1, 1, (.tmp 72)), (2, 1, (.tmp 73))]), []⟩, ⟨none, none, .e (.store 4 (.tmp 8) (.tmp 74)), []⟩]
 .ret)
 (O [Bk 76 .eql 34 .u8 9, V 75 76]
 (.cond (.tmp 75)
 (O [V 77 10, V 78 11, ⟨some 79, none, .q (.build [(.int .u8 0), (.int .i64 0), (.int .i64 0), (.int .i64 0)] [(0, 1, (.tmp 77)), (1, 1, (.tmp 78))]), []⟩, ⟨none, none, .e (.store 4 (.tmp 8) (.tmp 79)), []⟩]
 .ret)
 (O [Bk 81 .eql 34 .u8 10, V 80 81]
 (.cond (.tmp 80)
 (O [V 82 10, V 83 2, Bn 84 .add 83 1, V 85 12, B 86 .add 84 85, V 87 3, ⟨some 88, none, .q (.mm false (.tmp 86) [(.tmp 87)]), []⟩, ⟨some 89, none, .q (.build [(.int .u8 0), (.int .i64 0), (.int .i64 0), (.int .i64 0)] [(0, 1, (.tmp 82)), (1, 1, (.tmp 88))]), []⟩, ⟨none, none, .e (.store 4 (.tmp 8) (.tmp 89)), []⟩]
 .ret)
 (O [Bk 91 .eql 34 .u8 11, V 90 91]
 (.cond (.tmp 90)
 (.seq (O [V 92 1, Bk 93 .geq 92 .u8 200]
 (.cond (.tmp 93)
 (O [V 94 10, V 95 11, V 96 2, V 97 12, B 98 .sub 96 97, ⟨some 99, none, .q (.mm true (.tmp 98) [(.const (.int .i64 0))]), []⟩, ⟨some 100, none, .q (.build [(.int .u8 0), (.int .i64 0), (.int .i64 0), (.int .i64 0)] [(0, 1, (.tmp 94)), (1, 1, (.tmp 95)), (2, 1, (.tmp 99))]), []⟩, ⟨none, none, .e (.store 4 (.tmp 8) (.tmp 100)), []⟩]
 .ret)
 .skip))
 (O [V 101 10, V 102 11, V 103 2, Bn 104 .add 103 1, V 105 12, B 106 .add 104 105, V 107 3, ⟨some 108, none, .q (.mm false (.tmp 106) [(.tmp 107)]), []⟩, ⟨some 109, none, .q (.build [(.int .u8 0), (.int .i64 0), (.int .i64 0), (.int .i64 0)] [(0, 1, (.tmp 101)), (1, 1, (.tmp 102)), (2, 1, (.tmp 108))]), []⟩, ⟨none, none, .e (.store 4 (.tmp 8) (.tmp 109)), []⟩]
 .ret))
 (O [Bk 111 .eql 34 .u8 18, V 110 111]
 (.cond (.tmp 110)
 (O [V 112 10, V 113 11, ⟨some 114, none, .q (.build [(.int .u8 0), (.int .i64 0), (.int .i64 0), (.int .i64 0)] [(0, 1, (.tmp 112)), (2, 1, (.tmp 113))]), []⟩, ⟨none, none, .e (.store 4 (.tmp 8) (.tmp 114)), []⟩]
 .ret)
 (O [Bk 116 .eql 34 .u8 19, V 115 116]
 (.cond (.tmp 115)
 (O [V 117 10, V 118 11, V 119 12, ⟨some 120, none, .q (.build [(.int .u8 0), (.int .i64 0), (.int .i64 0), (.int .i64 0)] [(0, 1, (.tmp 117)), (1, 1, (.tmp 118)), (3, 1, (.tmp 119))]), []⟩, ⟨none, none, .e (.store 4 (.tmp 8) (.tmp 120)), []⟩]
 .ret)
 (O [Bk 122 .eql 34 .u8 20, V 121 122]
 (.cond (.tmp 121)
 (O [V 123 10, V 124 11, ⟨some 125, none, .q (.build [(.int .u8 0), (.int .i64 0), (.int .i64 0), (.int .i64 0)] [(0, 1, (.tmp 123)), (2, 1, (.tmp 124))]), []⟩, ⟨none, none, .e (.store 4 (.tmp 8) (.tmp 125)), []⟩]
 .ret)
 (.seq (O [Bk 127 .eql 34 .u8 17, V 126 127]
 (.cond (.tmp 126)
 .skip
 (O [Bk 128 .eql 34 .u8 21, V 126 128]
 (.cond (.tmp 126)
 .skip
 (.ops [Bk 129 .eql 34 .u8 26, V 126 129])))))
 (.cond (.tmp 126)
 (O [V 130 10, V 131 11, ⟨some 132, none, .q (.build [(.int .u8 0), (.int .i64 0), (.int .i64 0), (.int .i64 0)] [(0, 1, (.tmp 130)), (1, 1, (.tmp 131))]), []⟩, ⟨none, none, .e (.store 4 (.tmp 8) (.tmp 132)), []⟩]
 .ret)
 (O [Bk 134 .eql 34 .u8 22, V 133 134]
 (.cond (.tmp 133)
 (O [V 135 10, V 136 11, V 137 12, ⟨some 138, none, .q (.build [(.int .u8 0), (.int .i64 0), (.int .i64 0), (.int .i64 0)] [(0, 1, (.tmp 135)), (1, 1, (.tmp 136)), (3, 1, (.tmp 137))]), []⟩, ⟨none, none, .e (.store 4 (.tmp 8) (.tmp 138)), []⟩]
 .ret)
 (O [Bk 140 .eql 34 .u8 24, V 139 140]
 (.cond (.tmp 139)
 (O [V 141 10, V 142 1, Bk 143 .rem 142 .u8 3, Cv' 144 .i64 143, Bn 145 .sub 144 1, ⟨some 146, none, .q (.build [(.int .u8 0), (.int .i64 0), (.int .i64 0), (.int .i64 0)] [(0, 1, (.tmp 141)), (2, 1, (.tmp 145))]), []⟩, ⟨none, none, .e (.store 4 (.tmp 8) (.tmp 146)), []⟩]
 .ret)
 .skip))))))))))))))))))))))))))))))
 (O [V 147 10, ⟨some 148, none, .q (.build [(.int .u8 0), (.int .i64 0), (.int .i64 0), (.int .i64 0)] [(0, 1, (.tmp 147))]), []⟩, ⟨none, none, .e (.store 4 (.tmp 8) (.tmp 148)), []⟩]
 .ret)))))))), [.cells 8 4], 149⟩
theorem call_MkIns {args : List Value} {h : Heap} {K : Value → Heap → Prop} (hl : args.length ≤ 149) (k : pwp Proofs.Try.prog c_MkIns.body (BodyK c_MkIns.results K) (enterF args) h) : PCall Proofs.Try.prog 34 args h K :=
  pcall_of (fn := Proofs.Try.f34) (by kernel_rfl) (by kernel_rfl) (by kernel_rfl) (by kernel_rfl) hl k
def c_Make : AFn :=
⟨(O [⟨some 2, none, .e (.new [(.int .i64 0), (.int .i64 0), (.int .i64 0), (.slice none 0 0), (.int .i64 0), (.int .i64 0), (.slice none 0 0)] 7), []⟩]
 (O [⟨some 12, none, .e (.lit [(.int .i64 0)] 1 1 [(0, 1, (.const (.int .i64 1)))]), []⟩, ⟨some 13, none, .q (.build [(.int .i64 0), (.int .i64 0), (.int .i64 0), (.slice none 0 0), (.int .i64 0), (.int .i64 0), (.slice none 0 0)] [(0, 1, (.const (.int .i64 2))), (1, 1, (.const (.int .i64 1))), (2, 1, (.const (.int .i64 1))), (3, 1, (.tmp 12)), (4, 1, (.const (.int .i64 1))), (5, 1, (.const (.int .i64 1)))]), []⟩, ⟨some 3, none, .e (.new [(.int .i64 0), (.int .i64 0), (.int .i64 0), (.slice none 0 0), (.int .i64 0), (.int .i64 0), (.slice none 0 0)] 7), []⟩, ⟨none, none, .e (.store 7 (.tmp 3) (.tmp 13)), []⟩]
 (O [V 14 0, Ln 15 14, ⟨some 16, none, .q (.mm false (.tmp 15) [(.const (.int .i64 3))]), []⟩, ⟨some 17, none, .q (.mm true (.tmp 16) [(.const (.int .i64 1))]), []⟩, V 4 17]
 (.seq (O [N 5 0]
 (.block 0 (.loop (.seq (O [V 18 5, V 19 4, B 20 .lss 18 19]
 (.cond (.tmp 20)
 .skip
 (.exit 0)))
 (.seq (.block 1 (O [E 6]
 (.seq (O [N 7 1]
 (.block 2 (.loop (.seq (O [V 23 7, V 24 4, B 25 .lss 23 24, V 26 25, Gd 26 true (V 27 5), Gd 26 true (Bn 28 .eql 27 0), Pk 29 26 28 false]
 (.cond (.tmp 29)
 .skip
 (.exit 2)))
 (.seq (.block 3 (.ops [V 32 6, V 33 7, ⟨some 34, none, .q (.build [(.int .u8 0), (.int .i64 0), (.int .i64 0), (.int .i64 0)] [(0, 1, (.const (.int .u8 12))), (1, 1, (.tmp 33))]), []⟩, ⟨some 35, none, .e (.lit [(.int .u8 0), (.int .i64 0), (.int .i64 0), (.int .i64 0)] 4 1 [(0, 4, (.tmp 34))]), []⟩, Ap 36 4 32 35, V 6 36]))
 (.ops [V 30 7, Bn 31 .add 30 1, V 7 31]))))))
 (O [V 37 6, Ln 38 37, V 8 38]
 (O [E 9]
 (.seq (O [V 39 5, V 40 0, Ln 41 40, B 42 .lss 39 41]
 (.cond (.tmp 42)
 (.ops [V 43 0, V 44 5, X 45 1 43 44, L 46 45, V 9 46])
 .skip))
 (O [V 47 9, Ln 48 47, Bn 49 .quo 48 2, ⟨some 50, none, .q (.mm false (.tmp 49) [(.const (.int .i64 9))]), []⟩, V 10 50]
 (.seq (O [N 11 0]
 (.block 4 (.loop (.seq (O [V 51 11, V 52 10, B 53 .lss 51 52]
 (.cond (.tmp 53)
 .skip
 (.exit 4)))
 (.seq (.block 5 (.ops [V 56 6, V 57 9, V 58 11, ⟨some 59, none, .q (.bin .mul (.const (.int .i64 2)) (.tmp 58)), []⟩, X 60 1 57 59, L 61 60, V 62 9, V 63 11, ⟨some 64, none, .q (.bin .mul (.const (.int .i64 2)) (.tmp 63)), []⟩, Bn 65 .add 64 1, X 66 1 62 65, L 67 66, V 68 8, V 69 11, B 70 .add 68 69, V 71 8, V 72 10, B 73 .add 71 72, ⟨some 74, none, .call 34 [(.tmp 61), (.tmp 67), (.tmp 70), (.tmp 73)], []⟩, ⟨some 75, none, .e (.lit [(.int .u8 0), (.int .i64 0), (.int .i64 0), (.int .i64 0)] 4 1 [(0, 4, (.tmp 74))]), []⟩, Ap 76 4 56 75, V 6 76]))
 (.ops [V 54 11, Bn 55 .add 54 1, V 11 55]))))))
 (.ops [FA 77 6 3, L 78 77, V 79 6, Z 4 79, ⟨some 80, none, .e (.lit [(.slice none 0 0)] 1 1 [(0, 1, (.tmp 79))]), []⟩, Ap 81 1 78 80, FA 82 6 3, S 82 81])))))))))
 (.ops [V 21 5, Bn 22 .add 21 1, V 5 22]))))))
 (O [LA 83 7 3, ⟨none, none, .e (.store 7 (.tmp 2) (.tmp 83)), []⟩]
 .ret))))), [.cells 2 7], 84⟩
theorem call_Make {args : List Value} {h : Heap} {K : Value → Heap → Prop} (hl : args.length ≤ 84) (k : pwp Proofs.Try.prog c_Make.body (BodyK c_Make.results K) (enterF args) h) : PCall Proofs.Try.prog 17 args h K :=
  pcall_of (fn := Proofs.Try.f17) (by kernel_rfl) (by kernel_rfl) (by kernel_rfl) (by kernel_rfl) hl k
end Pm
