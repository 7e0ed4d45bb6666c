/- Codes of the program's functions, as a program printed them, and that they are what the program's functions are compiled to.
   No condition: plain facts. -/
import Derived.Test.YtjddnmjmaalcgaaPm5
import Derived.Test.YtjddnmjmaalcgaaProg
import Derived.KernelRfl
namespace Pm
set_option linter.unusedSimpArgs false
set_option linter.unusedVariables false
open Go Am
set_option maxRecDepth 100000
def c_known14 : AFn :=
⟨(O [T 0 false]
 (O [⟨some 2, none, .q (.build [(.int .u8 0), (.int .i64 0), (.int .i64 0), (.int .i64 0)] [(0, 1, (.const (.int .u8 1))), (2, 1, (.const (.int .i64 3)))]), []⟩, ⟨some 3, none, .q (.build [(.int .u8 0), (.int .i64 0), (.int .i64 0), (.int .i64 0)] [(0, 1, (.const (.int .u8 3))), (1, 1, (.const (.int .i64 1)))]), []⟩, ⟨some 4, none, .q (.build [(.int .u8 0), (.int .i64 0), (.int .i64 0), (.int .i64 0)] [(0, 1, (.const (.int .u8 9))), (1, 1, (.const (.int .i64 1)))]), []⟩, ⟨some 5, none, .e (.lit [(.int .u8 0), (.int .i64 0), (.int .i64 0), (.int .i64 0), (.int .u8 0), (.int .i64 0), (.int .i64 0), (.int .i64 0), (.int .u8 0), (.int .i64 0), (.int .i64 0), (.int .i64 0)] 4 3 [(0, 4, (.tmp 2)), (4, 4, (.tmp 3)), (8, 4, (.tmp 4))]), []⟩, Z 4 5, ⟨some 6, none, .call 25 [(.tmp 5)], []⟩, V 1 6]
 (O [V 7 1, Ln 8 7, Bn 9 .eql 8 3, V 10 9, Gd 10 true (V 11 1), ⟨some 12, some (10, true), .q (.idxA 8 (.tmp 11) (.const (.int .i64 2))), []⟩, ⟨some 13, some (10, true), .q (.idxP 4 2 (.tmp 12) (.const (.int .i64 1))), []⟩, Gd 10 true (LA 14 2 13), ⟨some 15, some (10, true), .q (.build [(.int .u8 0), (.int .i64 0)] [(0, 1, (.const (.int .u8 1))), (1, 1, (.const (.int .i64 6)))]), []⟩, ⟨some 16, some (10, true), .q (.eqA [0, 0] false (.tmp 14) (.tmp 15)), []⟩, Pk 17 10 16 false, V 18 17, Gd 18 true (V 19 1), ⟨some 20, some (18, true), .q (.idxA 8 (.tmp 19) (.const (.int .i64 0))), []⟩, ⟨some 21, some (18, true), .q (.idxP 4 2 (.tmp 20) (.const (.int .i64 3))), []⟩, Gd 18 true (LA 22 2 21), ⟨some 23, some (18, true), .q (.build [(.int .u8 0), (.int .i64 0)] [(0, 1, (.const (.int .u8 1)))]), []⟩, ⟨some 24, some (18, true), .q (.eqA [0, 0] false (.tmp 22) (.tmp 23)), []⟩, Pk 25 18 24 false, V 26 25, ⟨some 27, some (26, true), .q (.build [(.int .u8 0), (.int .i64 0)] []), []⟩, Gd 26 true (V 28 1), ⟨some 29, some (26, true), .q (.idxA 8 (.tmp 28) (.const (.int .i64 2))), []⟩, ⟨some 30, some (26, true), .q (.idxP 4 2 (.tmp 29) (.const (.int .i64 1))), []⟩, Gd 26 true (LA 31 2 30), Gd 26 true (V 33 1), ⟨some 34, some (26, true), .q (.idxA 8 (.tmp 33) (.const (.int .i64 2))), []⟩, ⟨some 35, some (26, true), .q (.idxP 4 2 (.tmp 34) (.const (.int .i64 1))), []⟩, Gd 26 true (LA 36 2 35), ⟨some 32, some (26, true), .call 32 [(.tmp 27), (.tmp 31)], [.loadA 2 (.tmp 35)]⟩, ⟨some 37, some (26, true), .q (.eqA [0, 0] false (.tmp 32) (.tmp 36)), []⟩, Pk 38 26 37 false, V 0 38]
 .ret))), [.tmp 0], 39⟩
theorem c_known14_is : cFunc Proofs.Try.prog Proofs.Try.f26 = some (eraseF c_known14) := by kernel_rfl
theorem call_known14 {args : List Value} {h : Heap} {K : Value → Heap → Prop} (hl : args.length ≤ 39) (k : pwp Proofs.Try.prog c_known14.body (BodyK c_known14.results K) (enterF args) h) : PCall Proofs.Try.prog 26 args h K :=
  pcall_of (by kernel_rfl) (by kernel_rfl) c_known14_is (by kernel_rfl) hl k
def c_ValueOf : AFn :=
⟨(O [T 6 false]
 (.seq (O [V 9 0, Ln 10 9, Bn 11 .gtr 10 40, V 12 11, ⟨some 13, some (12, false), .call 26 [], []⟩, Gd 12 false (Nt 14 13), ⟨some 15, none, .q (.pick (.tmp 12) (.const (.bool true)) (.tmp 14)), []⟩]
 (.cond (.tmp 15)
 (O [⟨some 16, none, .call 26 [], []⟩, V 6 16]
 .ret)
 .skip))
 (O [V 17 1, ⟨some 18, none, .call 17 [(.tmp 17)], []⟩, ⟨some 7, none, .e (.new [(.int .i64 0), (.int .i64 0), (.int .i64 0), (.slice none 0 0), (.int .i64 0), (.int .i64 0), (.slice none 0 0)] 7), []⟩, ⟨none, none, .e (.store 7 (.tmp 7) (.tmp 18)), []⟩]
 (O [FA 19 6 7, L 20 19, V 21 2, Cv' 22 .i64 21, FA 23 6 7, L 24 23, Ln 25 24, B 26 .rem 22 25, X 27 1 20 26, L 28 27, V 8 28]
 (O [V 29 0, ⟨some 30, none, .call 25 [(.tmp 29)], []⟩, V 31 0, ⟨some 32, none, .call 28 [(.tmp 31)], []⟩, Z 8 30, Z 8 32, ⟨some 33, none, .call 27 [(.tmp 30), (.tmp 32)], []⟩, V 34 33, Gd 34 true (V 35 8), ⟨some 36, some (34, true), .call 25 [(.tmp 35)], []⟩, Gd 34 true (V 37 8), ⟨some 38, some (34, true), .call 28 [(.tmp 37)], []⟩, ⟨some 39, some (34, true), .call 27 [(.tmp 36), (.tmp 38)], []⟩, Pk 40 34 39 false, V 6 40]
 .ret))))), [.tmp 6], 41⟩
theorem c_ValueOf_is : cFunc Proofs.Try.prog Proofs.Try.f10 = some (eraseF c_ValueOf) := by kernel_rfl
theorem call_ValueOf {args : List Value} {h : Heap} {K : Value → Heap → Prop} (hl : args.length ≤ 41) (k : pwp Proofs.Try.prog c_ValueOf.body (BodyK c_ValueOf.results K) (enterF args) h) : PCall Proofs.Try.prog 10 args h K :=
  pcall_of (by kernel_rfl) (by kernel_rfl) c_ValueOf_is (by kernel_rfl) hl k
def c_ValueMeets : AFn :=
⟨(O [T 8 false]
 (O [V 13 3, Bk 14 .rem 13 .u8 3, ⟨some 15, none, .q (.build [(.int .u8 0), (.int .i64 0)] [(0, 1, (.tmp 14))]), []⟩, ⟨some 9, none, .e (.new [(.int .u8 0), (.int .i64 0)] 2), []⟩, ⟨none, none, .e (.store 2 (.tmp 9) (.tmp 15)), []⟩]
 (O [V 16 3, Bk 17 .quo 16 .u8 3, Bk 18 .rem 17 .u8 3, ⟨some 19, none, .q (.build [(.int .u8 0), (.int .i64 0)] [(0, 1, (.tmp 18))]), []⟩, ⟨some 10, none, .e (.new [(.int .u8 0), (.int .i64 0)] 2), []⟩, ⟨none, none, .e (.store 2 (.tmp 10) (.tmp 19)), []⟩]
 (O [V 20 3, Bk 21 .quo 20 .u8 9, Bk 22 .rem 21 .u8 3, ⟨some 23, none, .q (.build [(.int .u8 0), (.int .i64 0)] [(0, 1, (.tmp 22))]), []⟩, ⟨some 11, none, .e (.new [(.int .u8 0), (.int .i64 0)] 2), []⟩, ⟨none, none, .e (.store 2 (.tmp 11) (.tmp 23)), []⟩]
 (.seq (O [FA 24 0 9, L 25 24, Bk 26 .eql 25 .u8 1]
 (.cond (.tmp 26)
 (.ops [V 27 0, Bk 28 .rem 27 .i8 3, Cv' 29 .i64 28, FA 30 1 9, S 30 29])
 .skip))
 (.seq (O [FA 31 0 10, L 32 31, Bk 33 .eql 32 .u8 1]
 (.cond (.tmp 33)
 (.ops [V 34 1, Bk 35 .rem 34 .i8 3, Cv' 36 .i64 35, FA 37 1 10, S 37 36])
 .skip))
 (.seq (O [FA 38 0 11, L 39 38, Bk 40 .eql 39 .u8 1]
 (.cond (.tmp 40)
 (.ops [V 41 2, Bk 42 .rem 41 .i8 3, Cv' 43 .i64 42, FA 44 1 11, S 44 43])
 .skip))
 (O [LA 45 2 9, LA 46 2 10, ⟨some 47, none, .call 32 [(.tmp 45), (.tmp 46)], []⟩, ⟨some 12, none, .e (.new [(.int .u8 0), (.int .i64 0)] 2), []⟩, ⟨none, none, .e (.store 2 (.tmp 12) (.tmp 47)), []⟩]
 (O [⟨some 48, none, .call 26 [], []⟩, V 49 48, Gd 49 true (LA 50 2 12), Gd 49 true (LA 51 2 10), Gd 49 true (LA 52 2 9), ⟨some 53, some (49, true), .call 32 [(.tmp 51), (.tmp 52)], [.loadA 2 (.tmp 12)]⟩, ⟨some 54, some (49, true), .q (.eqA [0, 0] false (.tmp 50) (.tmp 53)), []⟩, Pk 55 49 54 false, V 56 55, Gd 56 true (LA 57 2 9), Gd 56 true (LA 58 2 9), Gd 56 true (LA 60 2 9), ⟨some 59, some (56, true), .call 32 [(.tmp 57), (.tmp 58)], [.loadA 2 (.tmp 9)]⟩, ⟨some 61, some (56, true), .q (.eqA [0, 0] false (.tmp 59) (.tmp 60)), []⟩, Pk 62 56 61 false, V 63 62, Gd 63 true (LA 64 2 12), Gd 63 true (LA 65 2 11), Gd 63 true (LA 67 2 9), Gd 63 true (LA 68 2 10), Gd 63 true (LA 69 2 11), ⟨some 66, some (63, true), .call 32 [(.tmp 64), (.tmp 65)], [.loadA 2 (.tmp 9), .loadA 2 (.tmp 10), .loadA 2 (.tmp 11)]⟩, ⟨some 70, some (63, true), .call 32 [(.tmp 68), (.tmp 69)], [.loadA 2 (.tmp 9)]⟩, ⟨some 71, some (63, true), .call 32 [(.tmp 67), (.tmp 70)], []⟩, ⟨some 72, some (63, true), .q (.eqA [0, 0] false (.tmp 66) (.tmp 71)), []⟩, Pk 73 63 72 false, V 74 73, Gd 74 true (LA 75 2 12), Gd 74 true (LA 76 2 9), Gd 74 true (LA 78 2 12), ⟨some 77, some (74, true), .call 32 [(.tmp 75), (.tmp 76)], [.loadA 2 (.tmp 12)]⟩, ⟨some 79, some (74, true), .q (.eqA [0, 0] false (.tmp 77) (.tmp 78)), []⟩, Pk 80 74 79 false, V 81 80, Gd 81 true (FA 82 0 12), Gd 81 true (L 83 82), Gd 81 true (FA 84 0 9), Gd 81 true (L 85 84), Gd 81 true (B 86 .geq 83 85), Pk 87 81 86 false, V 88 87, Gd 88 true (FA 89 0 12), Gd 88 true (L 90 89), Gd 88 true (FA 91 0 10), Gd 88 true (L 92 91), Gd 88 true (B 93 .geq 90 92), Pk 94 88 93 false, V 8 94]
 .ret))))))))), [.tmp 8], 95⟩
theorem c_ValueMeets_is : cFunc Proofs.Try.prog Proofs.Try.f12 = some (eraseF c_ValueMeets) := by kernel_rfl
theorem call_ValueMeets {args : List Value} {h : Heap} {K : Value → Heap → Prop} (hl : args.length ≤ 95) (k : pwp Proofs.Try.prog c_ValueMeets.body (BodyK c_ValueMeets.results K) (enterF args) h) : PCall Proofs.Try.prog 12 args h K :=
  pcall_of (by kernel_rfl) (by kernel_rfl) c_ValueMeets_is (by kernel_rfl) hl k
def c_ValueReach : AFn :=
⟨(O [T 2 false]
 (O [V 8 0, ⟨some 9, none, .call 17 [(.tmp 8)], []⟩, F 10 6 9, ⟨some 11, none, .q (.idxA 1 (.tmp 10) (.const (.int .i64 0))), []⟩, L 12 11, V 3 12]
 (O [V 13 3, Z 4 13, ⟨some 14, none, .call 25 [(.tmp 13)], []⟩, V 4 14]
 (O [V 15 3, Z 4 15, ⟨some 16, none, .call 20 [(.tmp 15)], []⟩, Z 1 16, ⟨some 17, none, .call 33 [(.tmp 16)], []⟩, V 5 17]
 (.seq (O [V 18 4, Ln 19 18, V 20 3, Ln 21 20, B 22 .neq 19 21]
 (.cond (.tmp 22)
 (O [T 2 false]
 .ret)
 .skip))
 (.seq (O [N 6 0]
 (.block 0 (.loop (.seq (O [V 23 6, V 24 4, Ln 25 24, B 26 .lss 23 25]
 (.cond (.tmp 26)
 .skip
 (.exit 0)))
 (.seq (.block 1 (O [N 7 0]
 (.block 2 (.loop (.seq (O [V 29 7, Bn 30 .lss 29 4]
 (.cond (.tmp 30)
 .skip
 (.exit 2)))
 (.seq (.block 3 (O [V 33 4, V 34 6, V 35 7, X 36 8 33 34, ⟨some 37, none, .q (.idxP 4 2 (.tmp 36) (.tmp 35)), []⟩, FA 38 0 37, L 39 38, Bk 40 .eql 39 .u8 0, V 41 5, V 42 6, X 43 1 41 42, L 44 43, ⟨some 45, none, .q (.eqB false (.tmp 40) (.tmp 44)), []⟩]
 (.cond (.tmp 45)
 (O [T 2 false]
 .ret)
 .skip)))
 (.ops [V 31 7, Bn 32 .add 31 1, V 7 32])))))))
 (.ops [V 27 6, Bn 28 .add 27 1, V 6 28]))))))
 (O [⟨some 46, none, .call 26 [], []⟩, V 2 46]
 .ret))))))), [.tmp 2], 47⟩
theorem c_ValueReach_is : cFunc Proofs.Try.prog Proofs.Try.f13 = some (eraseF c_ValueReach) := by kernel_rfl
theorem call_ValueReach {args : List Value} {h : Heap} {K : Value → Heap → Prop} (hl : args.length ≤ 47) (k : pwp Proofs.Try.prog c_ValueReach.body (BodyK c_ValueReach.results K) (enterF args) h) : PCall Proofs.Try.prog 13 args h K :=
  pcall_of (by kernel_rfl) (by kernel_rfl) c_ValueReach_is (by kernel_rfl) hl k
def c_ValueStraight : AFn :=
⟨(O [T 2 false]
 (O [E 3]
 (O [⟨some 13, none, .q (.build [(.int .i64 0), (.int .i64 0), (.int .i64 0), (.int .i64 0)] []), []⟩, ⟨some 4, none, .e (.new [(.int .i64 0), (.int .i64 0), (.int .i64 0), (.int .i64 0)] 1), []⟩, ⟨none, none, .e (.store 4 (.tmp 4) (.tmp 13)), []⟩]
 (O [⟨some 14, none, .e (.lit [(.int .u8 0), (.int .u8 0), (.int .u8 0), (.int .u8 0), (.int .u8 0), (.int .u8 0)] 1 6 [(0, 1, (.const (.int .u8 1))), (1, 1, (.const (.int .u8 2))), (2, 1, (.const (.int .u8 3))), (3, 1, (.const (.int .u8 4))), (4, 1, (.const (.int .u8 5))), (5, 1, (.const (.int .u8 6)))]), []⟩, V 5 14]
 (.seq (O [N 6 0]
 (.block 0 (.loop (.seq (O [V 15 6, Bn 16 .add 15 1, V 17 0, Ln 18 17, B 19 .lss 16 18, V 20 19, Gd 20 true (V 21 6), Gd 20 true (Bn 22 .lss 21 40), Pk 23 20 22 false]
 (.cond (.tmp 23)
 .skip
 (.exit 0)))
 (.seq (.block 1 (O [V 26 5, V 27 0, V 28 6, X 29 1 27 28, L 30 29, Bk 31 .rem 30 .u8 6, X 32 1 26 31, L 33 32, V 34 0, V 35 6, Bn 36 .add 35 1, X 37 1 34 36, L 38 37, Bk 39 .rem 38 .u8 4, Cv' 40 .i64 39, V 41 0, V 42 6, Bn 43 .add 42 1, X 44 1 41 43, L 45 44, Bk 46 .quo 45 .u8 4, Bk 47 .rem 46 .u8 4, Cv' 48 .i64 47, ⟨some 49, none, .q (.build [(.int .u8 0), (.int .i64 0), (.int .i64 0), (.int .i64 0)] [(0, 1, (.tmp 33)), (1, 1, (.tmp 40)), (2, 1, (.tmp 48))]), []⟩, ⟨some 7, none, .e (.new [(.int .u8 0), (.int .i64 0), (.int .i64 0), (.int .i64 0)] 4), []⟩, ⟨none, none, .e (.store 4 (.tmp 7) (.tmp 49)), []⟩]
 (.seq (O [FA 50 0 7, L 51 50, Bk 52 .neq 51 .u8 1, V 53 52, Gd 53 true (FA 54 0 7), Gd 53 true (L 55 54), Gd 53 true (Bk 56 .neq 55 .u8 2), Pk 57 53 56 false]
 (.cond (.tmp 57)
 (.ops [V 58 0, V 59 6, Bn 60 .add 59 1, X 61 1 58 60, L 62 61, Bk 63 .quo 62 .u8 16, Bk 64 .rem 63 .u8 4, Cv' 65 .i64 64, FA 66 3 7, S 66 65])
 .skip))
 (.ops [V 67 3, LA 68 4 7, ⟨some 69, none, .e (.lit [(.int .u8 0), (.int .i64 0), (.int .i64 0), (.int .i64 0)] 4 1 [(0, 4, (.tmp 68))]), []⟩, Ap 70 4 67 69, V 3 70]))))
 (.ops [V 24 6, Bn 25 .add 24 2, V 6 25]))))))
 (O [V 71 3, ⟨some 72, none, .q (.build [(.int .u8 0), (.int .i64 0), (.int .i64 0), (.int .i64 0)] []), []⟩, ⟨some 73, none, .e (.lit [(.int .u8 0), (.int .i64 0), (.int .i64 0), (.int .i64 0)] 4 1 [(0, 4, (.tmp 72))]), []⟩, Ap 74 4 71 73, V 3 74]
 (O [V 75 3, Z 4 75, ⟨some 76, none, .call 25 [(.tmp 75)], []⟩, V 8 76]
 (.seq (O [V 77 8, Ln 78 77, V 79 3, Ln 80 79, B 81 .neq 78 80]
 (.cond (.tmp 81)
 (O [T 2 false]
 .ret)
 .skip))
 (.seq (O [N 9 0]
 (.block 2 (.loop (.seq (O [V 82 9, V 83 3, Ln 84 83, B 85 .lss 82 84]
 (.cond (.tmp 85)
 .skip
 (.exit 2)))
 (.seq (.block 3 (.seq (O [N 10 0]
 (.block 4 (.loop (.seq (O [V 88 10, Bn 89 .lss 88 4]
 (.cond (.tmp 89)
 .skip
 (.exit 4)))
 (.seq (.block 5 (O [V 92 8, V 93 9, V 94 10, X 95 8 92 93, ⟨some 96, none, .q (.idxP 4 2 (.tmp 95) (.tmp 94)), []⟩, LA 97 2 96, V 98 10, ⟨some 99, none, .q (.idxP 4 1 (.tmp 4) (.tmp 98)), []⟩, L 100 99, ⟨some 101, none, .q (.build [(.int .u8 0), (.int .i64 0)] [(0, 1, (.const (.int .u8 1))), (1, 1, (.tmp 100))]), []⟩, ⟨some 102, none, .q (.eqA [0, 0] true (.tmp 97) (.tmp 101)), []⟩]
 (.cond (.tmp 102)
 (O [T 2 false]
 .ret)
 .skip)))
 (.ops [V 90 10, Bn 91 .add 90 1, V 10 91]))))))
 (O [V 103 3, V 104 9, X 105 4 103 104, LA 106 4 105, ⟨some 11, none, .e (.new [(.int .u8 0), (.int .i64 0), (.int .i64 0), (.int .i64 0)] 4), []⟩, ⟨none, none, .e (.store 4 (.tmp 11) (.tmp 106)), []⟩]
 (O [FA 107 1 11, L 108 107, ⟨some 109, none, .q (.idxP 4 1 (.tmp 4) (.tmp 108)), []⟩, L 110 109, V 12 110]
 (.seq (O [FA 111 0 11, L 112 111]
 (.block 6 (O [Bk 114 .eql 112 .u8 1, V 113 114]
 (.cond (.tmp 113)
 (.ops [FA 115 2 11, L 116 115, V 12 116])
 (O [Bk 118 .eql 112 .u8 2, V 117 118]
 (.cond (.tmp 117)
 (.ops [FA 119 2 11, L 120 119, ⟨some 121, none, .q (.idxP 4 1 (.tmp 4) (.tmp 120)), []⟩, L 122 121, V 12 122])
 (O [Bk 124 .eql 112 .u8 3, V 123 124]
 (.cond (.tmp 123)
 (.ops [FA 125 2 11, L 126 125, ⟨some 127, none, .q (.idxP 4 1 (.tmp 4) (.tmp 126)), []⟩, L 128 127, FA 129 3 11, L 130 129, ⟨some 131, none, .q (.idxP 4 1 (.tmp 4) (.tmp 130)), []⟩, L 132 131, B 133 .add 128 132, V 12 133])
 (O [Bk 135 .eql 112 .u8 4, V 134 135]
 (.cond (.tmp 134)
 (.ops [FA 136 2 11, L 137 136, ⟨some 138, none, .q (.idxP 4 1 (.tmp 4) (.tmp 137)), []⟩, L 139 138, FA 140 3 11, L 141 140, ⟨some 142, none, .q (.idxP 4 1 (.tmp 4) (.tmp 141)), []⟩, L 143 142, B 144 .sub 139 143, V 12 144])
 (O [Bk 146 .eql 112 .u8 5, V 145 146]
 (.cond (.tmp 145)
 (.ops [FA 147 2 11, L 148 147, ⟨some 149, none, .q (.idxP 4 1 (.tmp 4) (.tmp 148)), []⟩, L 150 149, FA 151 3 11, L 152 151, ⟨some 153, none, .q (.idxP 4 1 (.tmp 4) (.tmp 152)), []⟩, L 154 153, B 155 .mul 150 154, V 12 155])
 (O [Bk 157 .eql 112 .u8 6, V 156 157]
 (.cond (.tmp 156)
 (O [N 12 0]
 (O [FA 158 2 11, L 159 158, ⟨some 160, none, .q (.idxP 4 1 (.tmp 4) (.tmp 159)), []⟩, L 161 160, FA 162 3 11, L 163 162, ⟨some 164, none, .q (.idxP 4 1 (.tmp 4) (.tmp 163)), []⟩, L 165 164, B 166 .lss 161 165]
 (.cond (.tmp 166)
 (.ops [N 12 1])
 .skip)))
 .skip))))))))))))))
 (.ops [FA 167 1 11, L 168 167, V 169 12, ⟨some 170, none, .q (.idxP 4 1 (.tmp 4) (.tmp 168)), []⟩, S 170 169]))))))
 (.ops [V 86 9, Bn 87 .add 86 1, V 9 87]))))))
 (O [⟨some 171, none, .call 26 [], []⟩, V 2 171]
 .ret)))))))))), [.tmp 2], 172⟩
theorem c_ValueStraight_is : cFunc Proofs.Try.prog Proofs.Try.f9 = some (eraseF c_ValueStraight) := by kernel_rfl
theorem call_ValueStraight {args : List Value} {h : Heap} {K : Value → Heap → Prop} (hl : args.length ≤ 172) (k : pwp Proofs.Try.prog c_ValueStraight.body (BodyK c_ValueStraight.results K) (enterF args) h) : PCall Proofs.Try.prog 9 args h K :=
  pcall_of (by kernel_rfl) (by kernel_rfl) c_ValueStraight_is (by kernel_rfl) hl k
end Pm
