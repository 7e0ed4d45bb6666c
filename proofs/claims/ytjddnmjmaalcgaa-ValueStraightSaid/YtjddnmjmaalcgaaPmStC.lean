/- Codes of the program's functions, as a program printed them, and that they are what the program's functions are compiled to.
   No condition: plain facts. -/
import Derived.Test.YtjddnmjmaalcgaaPm5
import Derived.Test.YtjddnmjmaalcgaaProg
import Derived.KernelRfl
namespace Pm
set_option linter.unusedSimpArgs false
set_option linter.unusedVariables false
open Go Am
set_option maxRecDepth 100000
def c_ValueStraight2 : AFn :=
⟨(O [T 2 false]
 (O [E 3]
 (O [⟨some 13, none, .q (.build [(.int .i64 0), (.int .i64 0), (.int .i64 0), (.int .i64 0)] []), []⟩, ⟨some 4, none, .e (.new [(.int .i64 0), (.int .i64 0), (.int .i64 0), (.int .i64 0)] 1), []⟩, ⟨none, none, .e (.store 4 (.tmp 4) (.tmp 13)), []⟩]
 (O [⟨some 14, none, .e (.lit [(.int .u8 0), (.int .u8 0), (.int .u8 0), (.int .u8 0), (.int .u8 0), (.int .u8 0)] 1 6 [(0, 1, (.const (.int .u8 1))), (1, 1, (.const (.int .u8 2))), (2, 1, (.const (.int .u8 3))), (3, 1, (.const (.int .u8 4))), (4, 1, (.const (.int .u8 5))), (5, 1, (.const (.int .u8 6)))]), []⟩, V 5 14]
 (.seq (O [N 6 0]
 (.block 0 (.loop (.seq (O [V 15 6, Bn 16 .add 15 1, V 17 0, Ln 18 17, B 19 .lss 16 18, V 20 19, Gd 20 true (V 21 6), Gd 20 true (Bn 22 .lss 21 40), Pk 23 20 22 false]
 (.cond (.tmp 23)
 .skip
 (.exit 0)))
 (.seq (.block 1 (O [V 26 5, V 27 0, V 28 6, X 29 1 27 28, L 30 29, Bk 31 .rem 30 .u8 6, X 32 1 26 31, L 33 32, V 34 0, V 35 6, Bn 36 .add 35 1, X 37 1 34 36, L 38 37, Bk 39 .rem 38 .u8 4, Cv' 40 .i64 39, V 41 0, V 42 6, Bn 43 .add 42 1, X 44 1 41 43, L 45 44, Bk 46 .quo 45 .u8 4, Bk 47 .rem 46 .u8 4, Cv' 48 .i64 47, ⟨some 49, none, .q (.build [(.int .u8 0), (.int .i64 0), (.int .i64 0), (.int .i64 0)] [(0, 1, (.tmp 33)), (1, 1, (.tmp 40)), (2, 1, (.tmp 48))]), []⟩, ⟨some 7, none, .e (.new [(.int .u8 0), (.int .i64 0), (.int .i64 0), (.int .i64 0)] 4), []⟩, ⟨none, none, .e (.store 4 (.tmp 7) (.tmp 49)), []⟩]
 (.seq (O [FA 50 0 7, L 51 50, Bk 52 .neq 51 .u8 1, V 53 52, Gd 53 true (FA 54 0 7), Gd 53 true (L 55 54), Gd 53 true (Bk 56 .neq 55 .u8 2), Pk 57 53 56 false]
 (.cond (.tmp 57)
 (.ops [V 58 0, V 59 6, Bn 60 .add 59 1, X 61 1 58 60, L 62 61, Bk 63 .quo 62 .u8 16, Bk 64 .rem 63 .u8 4, Cv' 65 .i64 64, FA 66 3 7, S 66 65])
 .skip))
 (.ops [V 67 3, LA 68 4 7, ⟨some 69, none, .e (.lit [(.int .u8 0), (.int .i64 0), (.int .i64 0), (.int .i64 0)] 4 1 [(0, 4, (.tmp 68))]), []⟩, Ap 70 4 67 69, V 3 70]))))
 (.ops [V 24 6, Bn 25 .add 24 2, V 6 25]))))))
 (O [V 71 3, ⟨some 72, none, .q (.build [(.int .u8 0), (.int .i64 0), (.int .i64 0), (.int .i64 0)] []), []⟩, ⟨some 73, none, .e (.lit [(.int .u8 0), (.int .i64 0), (.int .i64 0), (.int .i64 0)] 4 1 [(0, 4, (.tmp 72))]), []⟩, Ap 74 4 71 73, Z 4 74, V 3 74]
 (O [V 75 3, Z 4 75, ⟨some 76, none, .call 25 [(.tmp 75)], []⟩, V 8 76]
 (.seq (O [V 77 8, Ln 78 77, V 79 3, Ln 80 79, B 81 .neq 78 80]
 (.cond (.tmp 81)
 (O [T 2 false]
 .ret)
 .skip))
 (.seq (O [N 9 0]
 (.block 2 (.loop (.seq (O [V 82 9, V 83 3, Ln 84 83, B 85 .lss 82 84]
 (.cond (.tmp 85)
 .skip
 (.exit 2)))
 (.seq (.block 3 (.seq (O [N 10 0]
 (.block 4 (.loop (.seq (O [V 88 10, Bn 89 .lss 88 4]
 (.cond (.tmp 89)
 .skip
 (.exit 4)))
 (.seq (.block 5 (O [V 92 8, V 93 9, V 94 10, X 95 8 92 93, ⟨some 96, none, .q (.idxP 4 2 (.tmp 95) (.tmp 94)), []⟩, LA 97 2 96, V 98 10, ⟨some 99, none, .q (.idxP 4 1 (.tmp 4) (.tmp 98)), []⟩, L 100 99, ⟨some 101, none, .q (.build [(.int .u8 0), (.int .i64 0)] [(0, 1, (.const (.int .u8 1))), (1, 1, (.tmp 100))]), []⟩, ⟨some 102, none, .q (.eqA [0, 0] true (.tmp 97) (.tmp 101)), []⟩]
 (.cond (.tmp 102)
 (O [T 2 false]
 .ret)
 .skip)))
 (.ops [V 90 10, Bn 91 .add 90 1, V 10 91]))))))
 (O [V 103 3, V 104 9, X 105 4 103 104, LA 106 4 105, ⟨some 11, none, .e (.new [(.int .u8 0), (.int .i64 0), (.int .i64 0), (.int .i64 0)] 4), []⟩, ⟨none, none, .e (.store 4 (.tmp 11) (.tmp 106)), []⟩]
 (O [FA 107 1 11, L 108 107, ⟨some 109, none, .q (.idxP 4 1 (.tmp 4) (.tmp 108)), []⟩, L 110 109, V 12 110]
 (.seq (O [FA 111 0 11, L 112 111]
 (.block 6 (O [Bk 114 .eql 112 .u8 1, V 113 114]
 (.cond (.tmp 113)
 (.ops [FA 115 2 11, L 116 115, V 12 116])
 (O [Bk 118 .eql 112 .u8 2, V 117 118]
 (.cond (.tmp 117)
 (.ops [FA 119 2 11, L 120 119, ⟨some 121, none, .q (.idxP 4 1 (.tmp 4) (.tmp 120)), []⟩, L 122 121, V 12 122])
 (O [Bk 124 .eql 112 .u8 3, V 123 124]
 (.cond (.tmp 123)
 (.ops [FA 125 2 11, L 126 125, ⟨some 127, none, .q (.idxP 4 1 (.tmp 4) (.tmp 126)), []⟩, L 128 127, FA 129 3 11, L 130 129, ⟨some 131, none, .q (.idxP 4 1 (.tmp 4) (.tmp 130)), []⟩, L 132 131, B 133 .add 128 132, V 12 133])
 (O [Bk 135 .eql 112 .u8 4, V 134 135]
 (.cond (.tmp 134)
 (.ops [FA 136 2 11, L 137 136, ⟨some 138, none, .q (.idxP 4 1 (.tmp 4) (.tmp 137)), []⟩, L 139 138, FA 140 3 11, L 141 140, ⟨some 142, none, .q (.idxP 4 1 (.tmp 4) (.tmp 141)), []⟩, L 143 142, B 144 .sub 139 143, V 12 144])
 (O [Bk 146 .eql 112 .u8 5, V 145 146]
 (.cond (.tmp 145)
 (.ops [FA 147 2 11, L 148 147, ⟨some 149, none, .q (.idxP 4 1 (.tmp 4) (.tmp 148)), []⟩, L 150 149, FA 151 3 11, L 152 151, ⟨some 153, none, .q (.idxP 4 1 (.tmp 4) (.tmp 152)), []⟩, L 154 153, B 155 .mul 150 154, V 12 155])
 (O [Bk 157 .eql 112 .u8 6, V 156 157]
 (.cond (.tmp 156)
 (O [N 12 0]
 (O [FA 158 2 11, L 159 158, ⟨some 160, none, .q (.idxP 4 1 (.tmp 4) (.tmp 159)), []⟩, L 161 160, FA 162 3 11, L 163 162, ⟨some 164, none, .q (.idxP 4 1 (.tmp 4) (.tmp 163)), []⟩, L 165 164, B 166 .lss 161 165]
 (.cond (.tmp 166)
 (.ops [N 12 1])
 .skip)))
 .skip))))))))))))))
 (.ops [FA 167 1 11, L 168 167, V 169 12, ⟨some 170, none, .q (.idxP 4 1 (.tmp 4) (.tmp 168)), []⟩, S 170 169]))))))
 (.ops [V 86 9, Bn 87 .add 86 1, V 9 87]))))))
 (O [⟨some 171, none, .call 26 [], []⟩, V 2 171]
 .ret)))))))))), [.tmp 2], 172⟩
theorem c_ValueStraight2_is : cFunc Proofs.Try.prog Proofs.Try.f9 = some (eraseF c_ValueStraight2) := by kernel_rfl
theorem call_ValueStraight2 {args : List Value} {h : Heap} {K : Value → Heap → Prop} (hl : args.length ≤ 172) (k : pwp Proofs.Try.prog c_ValueStraight2.body (BodyK c_ValueStraight2.results K) (enterF args) h) : PCall Proofs.Try.prog 9 args h K :=
  pcall_of (by kernel_rfl) (by kernel_rfl) c_ValueStraight2_is (by kernel_rfl) hl k
end Pm
