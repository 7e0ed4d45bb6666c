/- Codes of the program's functions, as a program printed them, and that they are what the program's functions are compiled to.
   No condition: plain facts. -/
import Derived.Test.YtdohgmnflhjgjaaPm5
import Derived.Test.YtdohgmnflhjgjaaProg
import Derived.KernelRfl

namespace Pm
set_option linter.unusedSimpArgs false
set_option linter.unusedVariables false
open Go Am
set_option maxRecDepth 100000
def c_RSame01 : AFn :=
⟨(O [T 4 false]
 (.seq (O [V 6 0, Ln 7 6, V 8 1, Ln 9 8, B 10 .neq 7 9]
 (.cond (.tmp 10)
 (O [T 4 false]
 .ret)
 .skip))
 (.seq (O [N 5 0]
 (.block 0 (.loop (.seq (O [V 11 5, V 12 0, Ln 13 12, B 14 .lss 11 13]
 (.cond (.tmp 14)
 .skip
 (.exit 0)))
 (.seq (.block 1 (O [V 17 0, V 18 5, X 19 1 17 18, L 20 19, V 21 1, V 22 5, X 23 1 21 22, L 24 23, B 25 .neq 20 24]
 (.cond (.tmp 25)
 (O [T 4 false]
 .ret)
 .skip)))
 (.ops [V 15 5, Bn 16 .add 15 1, V 5 16]))))))
 (O [T 4 true]
 .ret)))), [.tmp 4], 26⟩
theorem call_RSame01 {args : List Value} {h : Heap} {K : Value → Heap → Prop} (hl : args.length ≤ 26) (k : pwp Proofs.Try.prog c_RSame01.body (BodyK c_RSame01.results K) (enterF args) h) : PCall Proofs.Try.prog 33 args h K :=
  pcall_of (fn := Proofs.Try.f33) (by kernel_rfl) (by kernel_rfl) (by kernel_rfl) (by kernel_rfl) hl k
def c_RSame10 : AFn :=
⟨(O [T 4 false]
 (.seq (O [V 6 0, Ln 7 6, V 8 1, Ln 9 8, B 10 .neq 7 9]
 (.cond (.tmp 10)
 (O [T 4 false]
 .ret)
 .skip))
 (.seq (O [N 5 0]
 (.block 0 (.loop (.seq (O [V 11 5, V 12 0, Ln 13 12, B 14 .lss 11 13]
 (.cond (.tmp 14)
 .skip
 (.exit 0)))
 (.seq (.block 1 (O [V 17 0, V 18 5, X 19 1 17 18, L 20 19, V 21 1, V 22 5, X 23 1 21 22, L 24 23, Z 1 20, Z 1 24, ⟨some 25, none, .call 33 [(.tmp 20), (.tmp 24)], []⟩, Nt 26 25]
 (.cond (.tmp 26)
 (O [T 4 false]
 .ret)
 .skip)))
 (.ops [V 15 5, Bn 16 .add 15 1, V 5 16]))))))
 (O [T 4 true]
 .ret)))), [.tmp 4], 27⟩
theorem call_RSame10 {args : List Value} {h : Heap} {K : Value → Heap → Prop} (hl : args.length ≤ 27) (k : pwp Proofs.Try.prog c_RSame10.body (BodyK c_RSame10.results K) (enterF args) h) : PCall Proofs.Try.prog 48 args h K :=
  pcall_of (fn := Proofs.Try.f48) (by kernel_rfl) (by kernel_rfl) (by kernel_rfl) (by kernel_rfl) hl k
def c_bools : AFn :=
⟨(O [T 4 false]
 (.seq (O [V 6 0, Ln 7 6, V 8 1, Ln 9 8, B 10 .neq 7 9]
 (.cond (.tmp 10)
 (O [T 4 false]
 .ret)
 .skip))
 (.seq (O [N 5 0]
 (.block 0 (.loop (.seq (O [V 11 5, V 12 0, Ln 13 12, B 14 .lss 11 13]
 (.cond (.tmp 14)
 .skip
 (.exit 0)))
 (.seq (.block 1 (O [V 17 0, V 18 5, X 19 1 17 18, L 20 19, V 21 1, V 22 5, X 23 1 21 22, L 24 23, ⟨some 25, none, .q (.eqB true (.tmp 20) (.tmp 24)), []⟩]
 (.cond (.tmp 25)
 (O [T 4 false]
 .ret)
 .skip)))
 (.ops [V 15 5, Bn 16 .add 15 1, V 5 16]))))))
 (O [T 4 true]
 .ret)))), [.tmp 4], 26⟩
theorem call_bools {args : List Value} {h : Heap} {K : Value → Heap → Prop} (hl : args.length ≤ 26) (k : pwp Proofs.Try.prog c_bools.body (BodyK c_bools.results K) (enterF args) h) : PCall Proofs.Try.prog 50 args h K :=
  pcall_of (fn := Proofs.Try.f50) (by kernel_rfl) (by kernel_rfl) (by kernel_rfl) (by kernel_rfl) hl k
def c_sets : AFn :=
⟨(O [T 4 false]
 (.seq (O [V 6 0, Ln 7 6, V 8 1, Ln 9 8, B 10 .neq 7 9]
 (.cond (.tmp 10)
 (O [T 4 false]
 .ret)
 .skip))
 (.seq (O [N 5 0]
 (.block 0 (.loop (.seq (O [V 11 5, V 12 0, Ln 13 12, B 14 .lss 11 13]
 (.cond (.tmp 14)
 .skip
 (.exit 0)))
 (.seq (.block 1 (O [V 17 0, V 18 5, X 19 1 17 18, L 20 19, V 21 1, V 22 5, X 23 1 21 22, L 24 23, B 25 .neq 20 24]
 (.cond (.tmp 25)
 (O [T 4 false]
 .ret)
 .skip)))
 (.ops [V 15 5, Bn 16 .add 15 1, V 5 16]))))))
 (O [T 4 true]
 .ret)))), [.tmp 4], 26⟩
theorem call_sets {args : List Value} {h : Heap} {K : Value → Heap → Prop} (hl : args.length ≤ 26) (k : pwp Proofs.Try.prog c_sets.body (BodyK c_sets.results K) (enterF args) h) : PCall Proofs.Try.prog 52 args h K :=
  pcall_of (fn := Proofs.Try.f52) (by kernel_rfl) (by kernel_rfl) (by kernel_rfl) (by kernel_rfl) hl k
def c_RPreds : AFn :=
⟨(O [E 2]
 (O [E 3]
 (.seq (O [N 4 0]
 (.block 0 (.loop (.seq (O [V 7 4, V 8 0, Ln 9 8, B 10 .lss 7 9]
 (.cond (.tmp 10)
 .skip
 (.exit 0)))
 (.seq (.block 1 (O [E 5]
 (.seq (O [N 6 0]
 (.block 2 (.loop (.seq (O [V 13 6, V 14 0, Ln 15 14, B 16 .lss 13 15]
 (.cond (.tmp 16)
 .skip
 (.exit 2)))
 (.seq (.block 3 (O [V 19 0, V 20 6, X 21 1 19 20, L 22 21, V 23 4, Z 1 22, ⟨some 24, none, .call 82 [(.tmp 22), (.tmp 23)], []⟩]
 (.cond (.tmp 24)
 (.ops [V 25 5, V 26 6, ⟨some 27, none, .e (.lit [(.int .i64 0)] 1 1 [(0, 1, (.tmp 26))]), []⟩, Ap 28 1 25 27, V 5 28])
 .skip)))
 (.ops [V 17 6, Bn 18 .add 17 1, V 6 18]))))))
 (.ops [V 29 3, V 30 5, Z 1 30, ⟨some 31, none, .e (.lit [(.slice none 0 0)] 1 1 [(0, 1, (.tmp 30))]), []⟩, Ap 32 1 29 31, V 3 32]))))
 (.ops [V 11 4, Bn 12 .add 11 1, V 4 12]))))))
 (O [V 33 3, V 2 33]
 .ret)))), [.tmp 2], 34⟩
theorem call_RPreds {args : List Value} {h : Heap} {K : Value → Heap → Prop} (hl : args.length ≤ 34) (k : pwp Proofs.Try.prog c_RPreds.body (BodyK c_RPreds.results K) (enterF args) h) : PCall Proofs.Try.prog 49 args h K :=
  pcall_of (fn := Proofs.Try.f49) (by kernel_rfl) (by kernel_rfl) (by kernel_rfl) (by kernel_rfl) hl k
def c_without : AFn :=
⟨(O [E 4]
 (O [V 10 0, Ln 11 10, ⟨some 12, none, .e (.make [(.bool false)] 1 (.tmp 11) (.tmp 11)), []⟩, V 5 12]
 (.seq (O [V 13 0, Ln 14 13, Bn 15 .gtr 14 0, V 16 15, Gd 16 true (V 17 1), Gd 16 true (Bn 18 .neq 17 0), Pk 19 16 18 false]
 (.cond (.tmp 19)
 (.ops [V 20 5, ⟨some 21, none, .q (.idxA 1 (.tmp 20) (.const (.int .i64 0))), []⟩, ⟨none, none, .e (.store 1 (.tmp 21) (.const (.bool true))), []⟩])
 .skip))
 (.seq (O [T 6 true]
 (.block 0 (.loop (.seq (O [V 22 6]
 (.cond (.tmp 22)
 .skip
 (.exit 0)))
 (.block 1 (O [T 6 false]
 (O [N 7 0]
 (.block 2 (.loop (.seq (O [V 23 7, V 24 0, Ln 25 24, B 26 .lss 23 25]
 (.cond (.tmp 26)
 .skip
 (.exit 2)))
 (.seq (.block 3 (O [N 8 0]
 (.block 4 (.loop (.seq (O [V 29 8, V 30 0, V 31 7, X 32 1 30 31, L 33 32, Ln 34 33, B 35 .lss 29 34, V 36 35, Gd 36 true (V 37 5), Gd 36 true (V 38 7), Gd 36 true (X 39 1 37 38), Gd 36 true (L 40 39), Pk 41 36 40 false]
 (.cond (.tmp 41)
 .skip
 (.exit 4)))
 (.seq (.block 5 (O [V 44 0, V 45 7, X 46 1 44 45, L 47 46, V 48 8, X 49 1 47 48, L 50 49, V 9 50]
 (O [V 51 9, Bn 52 .geq 51 0, V 53 52, Gd 53 true (V 54 9), Gd 53 true (V 55 0), Gd 53 true (Ln 56 55), Gd 53 true (B 57 .lss 54 56), Pk 58 53 57 false, V 59 58, Gd 59 true (V 60 9), Gd 59 true (V 61 1), Gd 59 true (B 62 .neq 60 61), Pk 63 59 62 false, V 64 63, Gd 64 true (V 65 5), Gd 64 true (V 66 9), Gd 64 true (X 67 1 65 66), Gd 64 true (L 68 67), Gd 64 true (Nt 69 68), Pk 70 64 69 false]
 (.cond (.tmp 70)
 (O [V 71 5, V 72 9, X 73 1 71 72, ⟨none, none, .e (.store 1 (.tmp 73) (.const (.bool true))), []⟩]
 (.ops [T 6 true]))
 .skip))))
 (.ops [V 42 8, Bn 43 .add 42 1, V 8 43])))))))
 (.ops [V 27 7, Bn 28 .add 27 1, V 7 28]))))))))))))
 (O [V 74 5, V 4 74]
 .ret))))), [.tmp 4], 75⟩
theorem call_without {args : List Value} {h : Heap} {K : Value → Heap → Prop} (hl : args.length ≤ 75) (k : pwp Proofs.Try.prog c_without.body (BodyK c_without.results K) (enterF args) h) : PCall Proofs.Try.prog 83 args h K :=
  pcall_of (fn := Proofs.Try.f83) (by kernel_rfl) (by kernel_rfl) (by kernel_rfl) (by kernel_rfl) hl k
def c_RReach : AFn :=
⟨(O [E 2]
 (O [V 3 0, ⟨some 4, none, .call 83 [(.tmp 3), (.const (.int .i64 (-1)))], []⟩, V 2 4]
 .ret)), [.tmp 2], 5⟩
theorem call_RReach {args : List Value} {h : Heap} {K : Value → Heap → Prop} (hl : args.length ≤ 5) (k : pwp Proofs.Try.prog c_RReach.body (BodyK c_RReach.results K) (enterF args) h) : PCall Proofs.Try.prog 51 args h K :=
  pcall_of (fn := Proofs.Try.f51) (by kernel_rfl) (by kernel_rfl) (by kernel_rfl) (by kernel_rfl) hl k
def c_RHas : AFn :=
⟨(O [T 4 false]
 (O [V 5 1, Bn 6 .geq 5 0, V 7 6, Gd 7 true (V 8 1), Gd 7 true (Bn 9 .lss 8 64), Pk 10 7 9 false, V 11 10, Gd 11 true (V 12 0), Gd 11 true (V 13 1), ⟨some 14, some (11, true), .call 65 [(.tmp 13)], []⟩, Gd 11 true (B 15 .quo 12 14), Gd 11 true (Bk 16 .rem 15 .u64 2), Gd 11 true (Bk 17 .eql 16 .u64 1), Pk 18 11 17 false, V 4 18]
 .ret)), [.tmp 4], 19⟩
theorem call_RHas {args : List Value} {h : Heap} {K : Value → Heap → Prop} (hl : args.length ≤ 19) (k : pwp Proofs.Try.prog c_RHas.body (BodyK c_RHas.results K) (enterF args) h) : PCall Proofs.Try.prog 27 args h K :=
  pcall_of (fn := Proofs.Try.f27) (by kernel_rfl) (by kernel_rfl) (by kernel_rfl) (by kernel_rfl) hl k
def c_RWith : AFn :=
⟨(O [⟨some 4, none, .q (.val (.const (.int .u64 0))), []⟩]
 (.seq (O [N 5 0]
 (.block 0 (.loop (.seq (O [V 6 5, V 7 1, Ln 8 7, B 9 .lss 6 8]
 (.cond (.tmp 9)
 .skip
 (.exit 0)))
 (.seq (.block 1 (O [V 12 1, V 13 5, X 14 1 12 13, L 15 14, Bn 16 .geq 15 0, V 17 16, Gd 17 true (V 18 1), Gd 17 true (V 19 5), Gd 17 true (X 20 1 18 19), Gd 17 true (L 21 20), Gd 17 true (Bn 22 .lss 21 64), Pk 23 17 22 false, V 24 23, Gd 24 true (V 25 0), Gd 24 true (V 26 1), Gd 24 true (V 27 5), Gd 24 true (X 28 1 26 27), Gd 24 true (L 29 28), ⟨some 30, some (24, true), .call 27 [(.tmp 25), (.tmp 29)], []⟩, Gd 24 true (Nt 31 30), Pk 32 24 31 false]
 (.cond (.tmp 32)
 (.ops [V 33 0, V 34 1, V 35 5, X 36 1 34 35, L 37 36, ⟨some 38, none, .call 65 [(.tmp 37)], []⟩, B 39 .add 33 38, V 0 39])
 .skip)))
 (.ops [V 10 5, Bn 11 .add 10 1, V 5 11]))))))
 (O [V 40 0, V 4 40]
 .ret))), [.tmp 4], 41⟩
theorem call_RWith {args : List Value} {h : Heap} {K : Value → Heap → Prop} (hl : args.length ≤ 41) (k : pwp Proofs.Try.prog c_RWith.body (BodyK c_RWith.results K) (enterF args) h) : PCall Proofs.Try.prog 68 args h K :=
  pcall_of (fn := Proofs.Try.f68) (by kernel_rfl) (by kernel_rfl) (by kernel_rfl) (by kernel_rfl) hl k
def c_RDoms : AFn :=
⟨(O [E 2]
 (.seq (O [V 8 0, Ln 9 8, Bn 10 .gtr 9 64]
 (.cond (.tmp 10)
 (O [E 2]
 .ret)
 .skip))
 (O [V 11 0, ⟨some 12, none, .call 51 [(.tmp 11)], []⟩, V 3 12]
 (O [V 13 0, Ln 14 13, ⟨some 15, none, .e (.make [(.int .u64 0)] 1 (.tmp 14) (.tmp 14)), []⟩, V 4 15]
 (.seq (O [N 5 0]
 (.block 0 (.loop (.seq (O [V 16 5, V 17 0, Ln 18 17, B 19 .lss 16 18]
 (.cond (.tmp 19)
 .skip
 (.exit 0)))
 (.seq (.block 1 (O [V 22 0, V 23 5, ⟨some 24, none, .call 83 [(.tmp 22), (.tmp 23)], []⟩, V 6 24]
 (O [N 7 0]
 (.block 2 (.loop (.seq (O [V 25 7, V 26 0, Ln 27 26, B 28 .lss 25 27]
 (.cond (.tmp 28)
 .skip
 (.exit 2)))
 (.seq (.block 3 (O [V 31 3, V 32 7, X 33 1 31 32, L 34 33, V 35 34, Gd 35 true (V 36 6), Gd 35 true (V 37 7), Gd 35 true (X 38 1 36 37), Gd 35 true (L 39 38), Gd 35 true (Nt 40 39), Pk 41 35 40 false]
 (.cond (.tmp 41)
 (.ops [V 42 4, V 43 7, V 44 4, V 45 7, X 46 1 44 45, L 47 46, V 48 5, ⟨some 49, none, .e (.lit [(.int .i64 0)] 1 1 [(0, 1, (.tmp 48))]), []⟩, Z 1 49, ⟨some 50, none, .call 68 [(.tmp 47), (.tmp 49)], []⟩, X 51 1 42 43, S 51 50])
 .skip)))
 (.ops [V 29 7, Bn 30 .add 29 1, V 7 30]))))))))
 (.ops [V 20 5, Bn 21 .add 20 1, V 5 21]))))))
 (O [V 52 4, V 2 52]
 .ret)))))), [.tmp 2], 53⟩
theorem call_RDoms {args : List Value} {h : Heap} {K : Value → Heap → Prop} (hl : args.length ≤ 53) (k : pwp Proofs.Try.prog c_RDoms.body (BodyK c_RDoms.results K) (enterF args) h) : PCall Proofs.Try.prog 53 args h K :=
  pcall_of (fn := Proofs.Try.f53) (by kernel_rfl) (by kernel_rfl) (by kernel_rfl) (by kernel_rfl) hl k
def c_RSuccs : AFn :=
⟨(O [E 2]
 (O [E 3]
 (.seq (O [N 4 0]
 (.block 0 (.loop (.seq (O [V 5 4, V 6 0, Ln 7 6, B 8 .lss 5 7]
 (.cond (.tmp 8)
 .skip
 (.exit 0)))
 (.seq (.block 1 (.block 2 (O [V 18 0, V 19 4, X 20 4 18 19, FA 21 0 20, L 22 21, Bk 23 .eql 22 .u8 10, V 17 23]
 (.cond (.tmp 17)
 (.ops [V 24 3, V 25 0, V 26 4, X 27 4 25 26, FA 28 1 27, L 29 28, ⟨some 30, none, .e (.lit [(.int .i64 0)] 1 1 [(0, 1, (.tmp 29))]), []⟩, Z 1 30, ⟨some 31, none, .e (.lit [(.slice none 0 0)] 1 1 [(0, 1, (.tmp 30))]), []⟩, Ap 32 1 24 31, V 3 32])
 (O [V 34 0, V 35 4, X 36 4 34 35, FA 37 0 36, L 38 37, Bk 39 .eql 38 .u8 11, V 40 39, Gd 40 true (V 41 0), Gd 40 true (V 42 4), Gd 40 true (X 43 4 41 42), Gd 40 true (FA 44 2 43), Gd 40 true (L 45 44), Gd 40 true (V 46 4), Gd 40 true (Bn 47 .add 46 1), Gd 40 true (B 48 .lss 45 47), Pk 49 40 48 false, V 33 49]
 (.cond (.tmp 33)
 (.ops [V 50 3, V 51 0, V 52 4, X 53 4 51 52, FA 54 2 53, L 55 54, V 56 4, Bn 57 .add 56 1, ⟨some 58, none, .e (.lit [(.int .i64 0), (.int .i64 0)] 1 2 [(0, 1, (.tmp 55)), (1, 1, (.tmp 57))]), []⟩, Z 1 58, ⟨some 59, none, .e (.lit [(.slice none 0 0)] 1 1 [(0, 1, (.tmp 58))]), []⟩, Ap 60 1 50 59, V 3 60])
 (O [V 62 0, V 63 4, X 64 4 62 63, FA 65 0 64, L 66 65, Bk 67 .eql 66 .u8 11, V 68 67, Gd 68 true (V 69 0), Gd 68 true (V 70 4), Gd 68 true (X 71 4 69 70), Gd 68 true (FA 72 2 71), Gd 68 true (L 73 72), Gd 68 true (V 74 4), Gd 68 true (Bn 75 .add 74 1), Gd 68 true (B 76 .gtr 73 75), Pk 77 68 76 false, V 61 77]
 (.cond (.tmp 61)
 (.ops [V 78 3, V 79 4, Bn 80 .add 79 1, V 81 0, V 82 4, X 83 4 81 82, FA 84 2 83, L 85 84, ⟨some 86, none, .e (.lit [(.int .i64 0), (.int .i64 0)] 1 2 [(0, 1, (.tmp 80)), (1, 1, (.tmp 85))]), []⟩, Z 1 86, ⟨some 87, none, .e (.lit [(.slice none 0 0)] 1 1 [(0, 1, (.tmp 86))]), []⟩, Ap 88 1 78 87, V 3 88])
 (.ops [V 11 3, V 12 4, Bn 13 .add 12 1, ⟨some 14, none, .e (.lit [(.int .i64 0)] 1 1 [(0, 1, (.tmp 13))]), []⟩, Z 1 14, ⟨some 15, none, .e (.lit [(.slice none 0 0)] 1 1 [(0, 1, (.tmp 14))]), []⟩, Ap 16 1 11 15, V 3 16])))))))))
 (.ops [V 9 4, Bn 10 .add 9 1, V 4 10]))))))
 (O [V 89 3, V 2 89]
 .ret)))), [.tmp 2], 90⟩
theorem call_RSuccs {args : List Value} {h : Heap} {K : Value → Heap → Prop} (hl : args.length ≤ 90) (k : pwp Proofs.Try.prog c_RSuccs.body (BodyK c_RSuccs.results K) (enterF args) h) : PCall Proofs.Try.prog 66 args h K :=
  pcall_of (fn := Proofs.Try.f66) (by kernel_rfl) (by kernel_rfl) (by kernel_rfl) (by kernel_rfl) hl k
def c_tells10 : AFn :=
⟨(O [T 2 false]
 (O [V 3 0, ⟨some 4, none, .call 47 [(.tmp 3)], []⟩, V 5 0, ⟨some 6, none, .call 49 [(.tmp 5)], []⟩, Z 1 4, Z 1 6, ⟨some 7, none, .call 48 [(.tmp 4), (.tmp 6)], []⟩, V 8 7, Gd 8 true (V 9 0), ⟨some 10, some (8, true), .call 46 [(.tmp 9)], []⟩, Gd 8 true (V 11 0), ⟨some 12, some (8, true), .call 51 [(.tmp 11)], []⟩, ⟨some 13, some (8, true), .call 50 [(.tmp 10), (.tmp 12)], []⟩, Pk 14 8 13 false, V 15 14, Gd 15 true (V 16 0), ⟨some 17, some (15, true), .call 18 [(.tmp 16)], []⟩, Gd 15 true (V 18 0), ⟨some 19, some (15, true), .call 53 [(.tmp 18)], []⟩, ⟨some 20, some (15, true), .call 52 [(.tmp 17), (.tmp 19)], []⟩, Pk 21 15 20 false, V 2 21]
 .ret)), [.tmp 2], 22⟩
theorem call_tells10 {args : List Value} {h : Heap} {K : Value → Heap → Prop} (hl : args.length ≤ 22) (k : pwp Proofs.Try.prog c_tells10.body (BodyK c_tells10.results K) (enterF args) h) : PCall Proofs.Try.prog 16 args h K :=
  pcall_of (fn := Proofs.Try.f16) (by kernel_rfl) (by kernel_rfl) (by kernel_rfl) (by kernel_rfl) hl k
def c_CfgGraphs : AFn :=
⟨(O [T 8 false]
 (O [N 9 0]
 (.seq (O [N 10 0]
 (.block 0 (.loop (.seq (O [V 12 10, V 13 0, Ln 14 13, B 15 .lss 12 14]
 (.cond (.tmp 15)
 .skip
 (.exit 0)))
 (.seq (.block 1 (.ops [V 18 9, V 19 0, V 20 10, X 21 1 19 20, L 22 21, Ln 23 22, ⟨some 24, none, .q (.bin .add (.const (.int .i64 1)) (.tmp 23)), []⟩, B 25 .add 18 24, V 9 25]))
 (.ops [V 16 10, Bn 17 .add 16 1, V 10 17]))))))
 (.seq (O [V 26 9, Bn 27 .gtr 26 100, V 28 27, ⟨some 29, some (28, false), .call 15 [], []⟩, Gd 28 false (Nt 30 29), ⟨some 31, none, .q (.pick (.tmp 28) (.const (.bool true)) (.tmp 30)), []⟩]
 (.cond (.tmp 31)
 (O [⟨some 32, none, .call 15 [], []⟩, V 8 32]
 .ret)
 .skip))
 (O [V 33 0, ⟨some 34, none, .call 16 [(.tmp 33)], []⟩, V 35 34, Gd 35 true (V 36 1), Gd 35 true (V 37 2), ⟨some 38, some (35, true), .call 17 [(.tmp 36), (.tmp 37)], []⟩, ⟨some 39, some (35, true), .call 16 [(.tmp 38)], []⟩, Pk 40 35 39 false, V 11 40]
 (O [V 41 11, V 42 41, Gd 42 true (V 43 3), Gd 42 true (Cv' 44 .i64 43), ⟨some 45, some (42, true), .q (.bin .add (.const (.int .i64 65)) (.tmp 44)), []⟩, ⟨some 46, some (42, true), .e (.make [(.slice none 0 0)] 1 (.tmp 45) (.tmp 45)), []⟩, ⟨some 47, some (42, true), .call 18 [(.tmp 46)], []⟩, Gd 42 true (Ln 48 47), Gd 42 true (Bn 49 .eql 48 0), Pk 50 42 49 false, V 8 50]
 .ret)))))), [.tmp 8], 51⟩
theorem call_CfgGraphs {args : List Value} {h : Heap} {K : Value → Heap → Prop} (hl : args.length ≤ 51) (k : pwp Proofs.Try.prog c_CfgGraphs.body (BodyK c_CfgGraphs.results K) (enterF args) h) : PCall Proofs.Try.prog 3 args h K :=
  pcall_of (fn := Proofs.Try.f3) (by kernel_rfl) (by kernel_rfl) (by kernel_rfl) (by kernel_rfl) hl k
def c_CfgCode : AFn :=
⟨(O [T 4 false]
 (.seq (O [V 7 0, Ln 8 7, Bn 9 .gtr 8 40, V 10 9, ⟨some 11, some (10, false), .call 15 [], []⟩, Gd 10 false (Nt 12 11), ⟨some 13, none, .q (.pick (.tmp 10) (.const (.bool true)) (.tmp 12)), []⟩]
 (.cond (.tmp 13)
 (O [⟨some 14, none, .call 15 [], []⟩, V 4 14]
 .ret)
 .skip))
 (O [V 15 1, ⟨some 16, none, .call 19 [(.tmp 15)], []⟩, F 17 6 16, ⟨some 18, none, .q (.idxA 1 (.tmp 17) (.const (.int .i64 0))), []⟩, L 19 18, V 5 19]
 (O [V 20 0, ⟨some 21, none, .call 45 [(.tmp 20)], []⟩, V 22 0, ⟨some 23, none, .call 66 [(.tmp 22)], []⟩, Z 1 21, Z 1 23, ⟨some 24, none, .call 48 [(.tmp 21), (.tmp 23)], []⟩, V 25 24, Gd 25 true (V 26 5), ⟨some 27, some (25, true), .call 45 [(.tmp 26)], []⟩, Gd 25 true (V 28 5), ⟨some 29, some (25, true), .call 66 [(.tmp 28)], []⟩, ⟨some 30, some (25, true), .call 48 [(.tmp 27), (.tmp 29)], []⟩, Pk 31 25 30 false, V 6 31]
 (O [V 32 6, V 33 32, Gd 33 true (V 34 0), ⟨some 35, some (33, true), .call 66 [(.tmp 34)], []⟩, ⟨some 36, some (33, true), .call 16 [(.tmp 35)], []⟩, Pk 37 33 36 false, V 38 37, Gd 38 true (V 39 5), ⟨some 40, some (38, true), .call 66 [(.tmp 39)], []⟩, ⟨some 41, some (38, true), .call 16 [(.tmp 40)], []⟩, Pk 42 38 41 false, V 4 42]
 .ret))))), [.tmp 4], 43⟩
end Pm
/- Codes of the program's functions, as a program printed them, and that they are what the program's functions are compiled to.
   No condition: plain facts. -/
namespace Pm
set_option linter.unusedSimpArgs false
set_option linter.unusedVariables false
open Go Am
set_option maxRecDepth 100000
@[irreducible] def len8tab : ByteArray := ⟨#[0, 1, 2, 2, 3, 3, 3, 3, 4, 4, 4, 4, 4, 4, 4, 4, 5, 5, 5, 5, 5, 5, 5, 5, 5, 5, 5, 5, 5, 5, 5, 5, 6, 6, 6, 6, 6, 6, 6, 6, 6, 6, 6, 6, 6, 6, 6, 6, 6, 6, 6, 6, 6, 6, 6, 6, 6, 6, 6, 6, 6, 6, 6, 6, 7, 7, 7, 7, 7, 7, 7, 7, 7, 7, 7, 7, 7, 7, 7, 7, 7, 7, 7, 7, 7, 7, 7, 7, 7, 7, 7, 7, 7, 7, 7, 7, 7, 7, 7, 7, 7, 7, 7, 7, 7, 7, 7, 7, 7, 7, 7, 7, 7, 7, 7, 7, 7, 7, 7, 7, 7, 7, 7, 7, 7, 7, 7, 7, 8, 8, 8, 8, 8, 8, 8, 8, 8, 8, 8, 8, 8, 8, 8, 8, 8, 8, 8, 8, 8, 8, 8, 8, 8, 8, 8, 8, 8, 8, 8, 8, 8, 8, 8, 8, 8, 8, 8, 8, 8, 8, 8, 8, 8, 8, 8, 8, 8, 8, 8, 8, 8, 8, 8, 8, 8, 8, 8, 8, 8, 8, 8, 8, 8, 8, 8, 8, 8, 8, 8, 8, 8, 8, 8, 8, 8, 8, 8, 8, 8, 8, 8, 8, 8, 8, 8, 8, 8, 8, 8, 8, 8, 8, 8, 8, 8, 8, 8, 8, 8, 8, 8, 8, 8, 8, 8, 8, 8, 8, 8, 8, 8, 8, 8, 8, 8, 8, 8, 8, 8, 8, 8, 8, 8, 8, 8, 8]⟩
def c_SortI : AFn :=
⟨(O [V 3 0, Ln 4 3, V 2 4]
 (.ops [V 5 0, V 6 2, V 7 2, Cv' 8 .u64 7, ⟨some 9, none, .call 103 [(.tmp 8)], []⟩, ⟨some 10, none, .call 102 [(.tmp 5), (.const (.int .i64 0)), (.tmp 6), (.tmp 9)], []⟩])), [], 11⟩
theorem call_SortI {args : List Value} {h : Heap} {K : Value → Heap → Prop} (hl : args.length ≤ 11) (k : pwp Proofs.Try.prog c_SortI.body (BodyK c_SortI.results K) (enterF args) h) : PCall Proofs.Try.prog 80 args h K :=
  pcall_of (fn := Proofs.Try.f80) (by kernel_rfl) (by kernel_rfl) (by kernel_rfl) (by kernel_rfl) hl k
def c_pdqI : AFn :=
⟨(O [T 8 true]
 (O [T 9 true]
 (.block 0 (.loop (.block 1 (O [V 19 2, V 20 1, B 21 .sub 19 20, V 10 21]
 (.seq (O [V 22 10, Bn 23 .leq 22 12]
 (.cond (.tmp 23)
 (O [V 24 0, V 25 1, V 26 2, ⟨some 27, none, .call 111 [(.tmp 24), (.tmp 25), (.tmp 26)], []⟩]
 .ret)
 .skip))
 (.seq (O [V 28 3, Bn 29 .eql 28 0]
 (.cond (.tmp 29)
 (O [V 30 0, V 31 1, V 32 2, ⟨some 33, none, .call 112 [(.tmp 30), (.tmp 31), (.tmp 32)], []⟩]
 .ret)
 .skip))
 (.seq (O [V 34 8, Nt 35 34]
 (.cond (.tmp 35)
 (O [V 36 0, V 37 1, V 38 2, ⟨some 39, none, .call 113 [(.tmp 36), (.tmp 37), (.tmp 38)], []⟩]
 (.ops [V 40 3, Bn 41 .sub 40 1, V 3 41]))
 .skip))
 (O [V 43 0, V 44 1, V 45 2, ⟨some 46, none, .call 114 [(.tmp 43), (.tmp 44), (.tmp 45)], []⟩, V 42 46, ⟨some 47, none, .q (.ext (.tmp 42) 0), []⟩, ⟨some 48, none, .q (.ext (.tmp 42) 1), []⟩, V 11 47, V 12 48]
 (.seq (O [V 49 12, Bn 50 .eql 49 2]
 (.cond (.tmp 50)
 (O [V 51 0, V 52 1, V 53 2, ⟨some 54, none, .call 115 [(.tmp 51), (.tmp 52), (.tmp 53)], []⟩]
 (O [V 55 2, Bn 56 .sub 55 1, V 57 11, V 58 1, B 59 .sub 57 58, B 60 .sub 56 59, V 11 60]
 (.ops [N 12 1])))
 .skip))
 (.seq (O [V 61 8, V 62 61, Gd 62 true (V 63 9), Pk 64 62 63 false, V 65 64, Gd 65 true (V 66 12), Gd 65 true (Bn 67 .eql 66 1), Pk 68 65 67 false]
 (.cond (.tmp 68)
 (O [V 69 0, V 70 1, V 71 2, ⟨some 72, none, .call 116 [(.tmp 69), (.tmp 70), (.tmp 71)], []⟩]
 (.cond (.tmp 72)
 .ret
 .skip))
 .skip))
 (.seq (O [V 73 1, Bn 74 .gtr 73 0, V 75 74, Gd 75 true (V 76 0), Gd 75 true (V 77 1), Gd 75 true (Bn 78 .sub 77 1), Gd 75 true (X 79 1 76 78), Gd 75 true (L 80 79), Gd 75 true (V 81 0), Gd 75 true (V 82 11), Gd 75 true (X 83 1 81 82), Gd 75 true (L 84 83), ⟨some 85, some (75, true), .call 117 [(.tmp 80), (.tmp 84)], []⟩, Gd 75 true (Nt 86 85), Pk 87 75 86 false]
 (.cond (.tmp 87)
 (O [V 88 0, V 89 1, V 90 2, V 91 11, ⟨some 92, none, .call 118 [(.tmp 88), (.tmp 89), (.tmp 90), (.tmp 91)], []⟩, V 13 92]
 (O [V 93 13, V 1 93]
 (.exit 1)))
 .skip))
 (O [V 95 0, V 96 1, V 97 2, V 98 11, ⟨some 99, none, .call 119 [(.tmp 95), (.tmp 96), (.tmp 97), (.tmp 98)], []⟩, V 94 99, ⟨some 100, none, .q (.ext (.tmp 94) 0), []⟩, ⟨some 101, none, .q (.ext (.tmp 94) 1), []⟩, V 14 100, V 15 101]
 (O [V 102 15, V 9 102]
 (O [V 103 14, V 104 1, B 105 .sub 103 104, V 106 2, V 107 14, B 108 .sub 106 107, V 16 105, V 17 108]
 (O [V 109 10, Bn 110 .quo 109 8, V 18 110]
 (O [V 111 16, V 112 17, B 113 .lss 111 112]
 (.cond (.tmp 113)
 (O [V 114 16, V 115 18, B 116 .geq 114 115, V 8 116]
 (O [V 117 0, V 118 1, V 119 14, V 120 3, ⟨some 121, none, .call 102 [(.tmp 117), (.tmp 118), (.tmp 119), (.tmp 120)], []⟩]
 (.ops [V 122 14, Bn 123 .add 122 1, V 1 123])))
 (O [V 124 17, V 125 18, B 126 .geq 124 125, V 8 126]
 (O [V 127 0, V 128 14, Bn 129 .add 128 1, V 130 2, V 131 3, ⟨some 132, none, .call 102 [(.tmp 127), (.tmp 129), (.tmp 130), (.tmp 131)], []⟩]
 (.ops [V 133 14, V 2 133])))))))))))))))))))))), [], 134⟩
theorem call_pdqI {args : List Value} {h : Heap} {K : Value → Heap → Prop} (hl : args.length ≤ 134) (k : pwp Proofs.Try.prog c_pdqI.body (BodyK c_pdqI.results K) (enterF args) h) : PCall Proofs.Try.prog 102 args h K :=
  pcall_of (fn := Proofs.Try.f102) (by kernel_rfl) (by kernel_rfl) (by kernel_rfl) (by kernel_rfl) hl k
def c_insI : AFn :=
⟨(O [V 8 1, Bn 9 .add 8 1, V 6 9]
 (.block 0 (.loop (.seq (O [V 10 6, V 11 2, B 12 .lss 10 11]
 (.cond (.tmp 12)
 .skip
 (.exit 0)))
 (.seq (.block 1 (O [V 15 6, V 7 15]
 (.block 2 (.loop (.seq (O [V 16 7, V 17 1, B 18 .gtr 16 17, V 19 18, Gd 19 true (V 20 0), Gd 19 true (V 21 7), Gd 19 true (X 22 1 20 21), Gd 19 true (L 23 22), Gd 19 true (V 24 0), Gd 19 true (V 25 7), Gd 19 true (Bn 26 .sub 25 1), Gd 19 true (X 27 1 24 26), Gd 19 true (L 28 27), ⟨some 29, some (19, true), .call 117 [(.tmp 23), (.tmp 28)], []⟩, Pk 30 19 29 false]
 (.cond (.tmp 30)
 .skip
 (.exit 2)))
 (.seq (.block 3 (.ops [V 33 0, V 34 7, V 35 0, V 36 7, Bn 37 .sub 36 1, V 38 0, V 39 7, Bn 40 .sub 39 1, X 41 1 38 40, L 42 41, V 43 0, V 44 7, X 45 1 43 44, L 46 45, X 47 1 33 34, S 47 42, X 48 1 35 37, S 48 46]))
 (.ops [V 31 7, Bn 32 .sub 31 1, V 7 32])))))))
 (.ops [V 13 6, Bn 14 .add 13 1, V 6 14])))))), [], 49⟩
theorem call_insI {args : List Value} {h : Heap} {K : Value → Heap → Prop} (hl : args.length ≤ 49) (k : pwp Proofs.Try.prog c_insI.body (BodyK c_insI.results K) (enterF args) h) : PCall Proofs.Try.prog 111 args h K :=
  pcall_of (fn := Proofs.Try.f111) (by kernel_rfl) (by kernel_rfl) (by kernel_rfl) (by kernel_rfl) hl k
def c_LessI : AFn :=
⟨(O [T 4 false]
 (O [V 5 0, ⟨some 6, none, .call 139 [(.tmp 5)], []⟩, V 7 6, Gd 7 true (V 8 1), ⟨some 9, some (7, true), .call 139 [(.tmp 8)], []⟩, Gd 7 true (Nt 10 9), Pk 11 7 10 false, V 12 11, Gd 12 false (V 13 0), Gd 12 false (V 14 1), Gd 12 false (B 15 .lss 13 14), ⟨some 16, none, .q (.pick (.tmp 12) (.const (.bool true)) (.tmp 15)), []⟩, V 4 16]
 .ret)), [.tmp 4], 17⟩
theorem call_LessI {args : List Value} {h : Heap} {K : Value → Heap → Prop} (hl : args.length ≤ 17) (k : pwp Proofs.Try.prog c_LessI.body (BodyK c_LessI.results K) (enterF args) h) : PCall Proofs.Try.prog 117 args h K :=
  pcall_of (fn := Proofs.Try.f117) (by kernel_rfl) (by kernel_rfl) (by kernel_rfl) (by kernel_rfl) hl k
def c_isNaNI : AFn :=
⟨(O [T 2 false]
 (O [V 3 0, V 4 0, B 5 .neq 3 4, V 2 5]
 .ret)), [.tmp 2], 6⟩
theorem call_isNaNI {args : List Value} {h : Heap} {K : Value → Heap → Prop} (hl : args.length ≤ 6) (k : pwp Proofs.Try.prog c_isNaNI.body (BodyK c_isNaNI.results K) (enterF args) h) : PCall Proofs.Try.prog 139 args h K :=
  pcall_of (fn := Proofs.Try.f139) (by kernel_rfl) (by kernel_rfl) (by kernel_rfl) (by kernel_rfl) hl k
def c_LenU : AFn :=
⟨(O [N 2 0]
 (.seq (.cond (.const (.bool false))
 (O [V 3 0, Cv' 4 .u32 3, ⟨some 5, none, .call 120 [(.tmp 4)], []⟩, V 2 5]
 .ret)
 .skip)
 (O [V 6 0, ⟨some 7, none, .call 121 [(.tmp 6)], []⟩, V 2 7]
 .ret))), [.tmp 2], 8⟩
theorem call_LenU {args : List Value} {h : Heap} {K : Value → Heap → Prop} (hl : args.length ≤ 8) (k : pwp Proofs.Try.prog c_LenU.body (BodyK c_LenU.results K) (enterF args) h) : PCall Proofs.Try.prog 103 args h K :=
  pcall_of (fn := Proofs.Try.f103) (by kernel_rfl) (by kernel_rfl) (by kernel_rfl) (by kernel_rfl) hl k
def c_Len64 : AFn :=
⟨(O [N 2 0]
 (.seq (O [V 3 0, Bk 4 .geq 3 .u64 4294967296]
 (.cond (.tmp 4)
 (O [V 5 0, Bk 6 .shr 5 .u64 32, V 0 6]
 (.ops [N 2 32]))
 .skip))
 (.seq (O [V 7 0, Bk 8 .geq 7 .u64 65536]
 (.cond (.tmp 8)
 (O [V 9 0, Bk 10 .shr 9 .u64 16, V 0 10]
 (.ops [V 11 2, Bn 12 .add 11 16, V 2 12]))
 .skip))
 (.seq (O [V 13 0, Bk 14 .geq 13 .u64 256]
 (.cond (.tmp 14)
 (O [V 15 0, Bk 16 .shr 15 .u64 8, V 0 16]
 (.ops [V 17 2, Bn 18 .add 17 8, V 2 18]))
 .skip))
 (O [V 19 2, V 20 0, Cv' 21 .u8 20, ⟨some 22, none, .q (.idxS (.const (.string len8tab)) (.tmp 21)), []⟩, Cv' 23 .i64 22, B 24 .add 19 23, V 2 24]
 .ret))))), [.tmp 2], 25⟩
theorem call_Len64 {args : List Value} {h : Heap} {K : Value → Heap → Prop} (hl : args.length ≤ 25) (k : pwp Proofs.Try.prog c_Len64.body (BodyK c_Len64.results K) (enterF args) h) : PCall Proofs.Try.prog 121 args h K :=
  pcall_of (fn := Proofs.Try.f121) (by kernel_rfl) (by kernel_rfl) (by kernel_rfl) (by kernel_rfl) hl k
def c_CompactI : AFn :=
⟨(O [E 2]
 (.seq (O [V 6 0, Ln 7 6, Bn 8 .lss 7 2]
 (.cond (.tmp 8)
 (O [V 9 0, V 2 9]
 .ret)
 .skip))
 (.seq (O [N 3 1]
 (.block 0 (.loop (.seq (O [V 10 3, V 11 0, Ln 12 11, B 13 .lss 10 12]
 (.cond (.tmp 13)
 .skip
 (.exit 0)))
 (.seq (.block 1 (O [V 16 0, V 17 3, X 18 1 16 17, L 19 18, V 20 0, V 21 3, Bn 22 .sub 21 1, X 23 1 20 22, L 24 23, B 25 .eql 19 24]
 (.cond (.tmp 25)
 (O [V 26 0, V 27 3, ⟨some 28, none, .q (.cut 1 (.tmp 26) (some (.tmp 27)) none), []⟩, V 4 28]
 (.seq (O [N 5 1]
 (.block 2 (.loop (.seq (O [V 29 5, V 30 4, Ln 31 30, B 32 .lss 29 31]
 (.cond (.tmp 32)
 .skip
 (.exit 2)))
 (.seq (.block 3 (O [V 35 4, V 36 5, X 37 1 35 36, L 38 37, V 39 4, V 40 5, Bn 41 .sub 40 1, X 42 1 39 41, L 43 42, B 44 .neq 38 43]
 (.cond (.tmp 44)
 (O [V 45 0, V 46 3, V 47 4, V 48 5, X 49 1 47 48, L 50 49, X 51 1 45 46, S 51 50]
 (.ops [V 52 3, Bn 53 .add 52 1, V 3 53]))
 .skip)))
 (.ops [V 33 5, Bn 34 .add 33 1, V 5 34]))))))
 (O [V 54 0, V 55 3, ⟨some 56, none, .q (.cut 1 (.tmp 54) (some (.tmp 55)) none), []⟩, ⟨none, none, .e (.clear [(.int .i64 0)] (.tmp 56)), []⟩]
 (O [V 57 0, V 58 3, ⟨some 59, none, .q (.cut 1 (.tmp 57) none (some (.tmp 58))), []⟩, V 2 59]
 .ret))))
 .skip)))
 (.ops [V 14 3, Bn 15 .add 14 1, V 3 15]))))))
 (O [V 60 0, V 2 60]
 .ret)))), [.tmp 2], 61⟩
theorem call_CompactI {args : List Value} {h : Heap} {K : Value → Heap → Prop} (hl : args.length ≤ 61) (k : pwp Proofs.Try.prog c_CompactI.body (BodyK c_CompactI.results K) (enterF args) h) : PCall Proofs.Try.prog 81 args h K :=
  pcall_of (fn := Proofs.Try.f81) (by kernel_rfl) (by kernel_rfl) (by kernel_rfl) (by kernel_rfl) hl k
def c_Succs : AFn :=
⟨(O [E 2]
 (O [V 7 0, Ln 8 7, ⟨some 9, none, .e (.make [(.slice none 0 0)] 1 (.tmp 8) (.tmp 8)), []⟩, V 3 9]
 (.seq (O [V 10 0, Ln 11 10, N 12 0]
 (.block 0 (.loop (O [B 13 .lss 12 11]
 (.seq (.cond (.tmp 13)
 .skip
 (.exit 0))
 (.seq (.block 1 (O [V 14 12, X 15 4 10 12, LA 16 4 15, ⟨some 5, none, .e (.new [(.int .u8 0), (.int .i64 0), (.int .i64 0), (.int .i64 0)] 4), []⟩, V 4 14, ⟨none, none, .e (.store 4 (.tmp 5) (.tmp 16)), []⟩]
 (O [V 17 4, Bn 18 .add 17 1, ⟨some 19, none, .e (.lit [(.int .i64 0)] 1 1 [(0, 1, (.tmp 18))]), []⟩, V 6 19]
 (.seq (O [FA 20 0 5, L 21 20]
 (.block 2 (O [Bk 23 .eql 21 .u8 10, V 22 23]
 (.cond (.tmp 22)
 (.ops [V 24 6, FA 25 1 5, L 26 25, ⟨some 27, none, .q (.idxA 1 (.tmp 24) (.const (.int .i64 0))), []⟩, S 27 26])
 (O [Bk 29 .eql 21 .u8 11, V 28 29]
 (.cond (.tmp 28)
 (.ops [V 30 6, FA 31 2 5, L 32 31, ⟨some 33, none, .e (.lit [(.int .i64 0)] 1 1 [(0, 1, (.tmp 32))]), []⟩, Ap 34 1 30 33, V 6 34])
 .skip))))))
 (O [V 35 6, ⟨some 36, none, .call 80 [(.tmp 35)], []⟩]
 (.ops [V 37 3, V 38 4, V 39 6, ⟨some 40, none, .call 81 [(.tmp 39)], []⟩, Z 1 40, X 41 1 37 38, S 41 40]))))))
 (.ops [Bn 42 .add 12 1, V 12 42])))))))
 (O [V 43 3, V 2 43]
 .ret)))), [.tmp 2], 44⟩
theorem call_Succs {args : List Value} {h : Heap} {K : Value → Heap → Prop} (hl : args.length ≤ 44) (k : pwp Proofs.Try.prog c_Succs.body (BodyK c_Succs.results K) (enterF args) h) : PCall Proofs.Try.prog 45 args h K :=
  pcall_of (fn := Proofs.Try.f45) (by kernel_rfl) (by kernel_rfl) (by kernel_rfl) (by kernel_rfl) hl k
end Pm
/- Codes of the program's functions, as a program printed them, and that they are what the program's functions are compiled to.
   No condition: plain facts. -/
namespace Pm
set_option linter.unusedSimpArgs false
set_option linter.unusedVariables false
open Go Am
set_option maxRecDepth 100000
def c_MkIns : AFn :=
⟨(O [⟨some 8, none, .e (.new [(.int .u8 0), (.int .i64 0), (.int .i64 0), (.int .i64 0)] 4), []⟩]
 (O [⟨some 14, none, .e (.lit [(.int .u8 0), (.int .u8 0), (.int .u8 0), (.int .u8 0), (.int .u8 0), (.int .u8 0), (.int .u8 0), (.int .u8 0), (.int .u8 0), (.int .u8 0), (.int .u8 0), (.int .u8 0), (.int .u8 0), (.int .u8 0), (.int .u8 0), (.int .u8 0), (.int .u8 0), (.int .u8 0), (.int .u8 0), (.int .u8 0), (.int .u8 0), (.int .u8 0), (.int .u8 0), (.int .u8 0), (.int .u8 0), (.int .u8 0), (.int .u8 0), (.int .u8 0), (.int .u8 0), (.int .u8 0), (.int .u8 0), (.int .u8 0), (.int .u8 0), (.int .u8 0), (.int .u8 0), (.int .u8 0)] 1 36 [(0, 1, (.const (.int .u8 7))), (1, 1, (.const (.int .u8 8))), (2, 1, (.const (.int .u8 9))), (3, 1, (.const (.int .u8 1))), (4, 1, (.const (.int .u8 3))), (5, 1, (.const (.int .u8 7))), (6, 1, (.const (.int .u8 8))), (7, 1, (.const (.int .u8 9))), (8, 1, (.const (.int .u8 13))), (9, 1, (.const (.int .u8 14))), (10, 1, (.const (.int .u8 15))), (11, 1, (.const (.int .u8 16))), (12, 1, (.const (.int .u8 17))), (13, 1, (.const (.int .u8 18))), (14, 1, (.const (.int .u8 19))), (15, 1, (.const (.int .u8 20))), (16, 1, (.const (.int .u8 21))), (17, 1, (.const (.int .u8 22))), (18, 1, (.const (.int .u8 23))), (19, 1, (.const (.int .u8 24))), (20, 1, (.const (.int .u8 25))), (21, 1, (.const (.int .u8 26))), (22, 1, (.const (.int .u8 27))), (23, 1, (.const (.int .u8 11))), (24, 1, (.const (.int .u8 10))), (25, 1, (.const (.int .u8 0))), (26, 1, (.const (.int .u8 2))), (27, 1, (.const (.int .u8 4))), (28, 1, (.const (.int .u8 5))), (29, 1, (.const (.int .u8 6))), (30, 1, (.const (.int .u8 7))), (31, 1, (.const (.int .u8 8))), (32, 1, (.const (.int .u8 13))), (33, 1, (.const (.int .u8 14))), (34, 1, (.const (.int .u8 9))), (35, 1, (.const (.int .u8 8)))]), []⟩, V 9 14]
 (O [V 15 9, V 16 0, Cv' 17 .i64 16, V 18 9, Ln 19 18, B 20 .rem 17 19, X 21 1 15 20, L 22 21, V 10 22]
 (O [V 23 1, Bk 24 .rem 23 .u8 4, Cv' 25 .i64 24, V 11 25]
 (O [V 26 1, Bk 27 .quo 26 .u8 4, Bk 28 .rem 27 .u8 4, Cv' 29 .i64 28, V 12 29]
 (O [V 30 1, Bk 31 .quo 30 .u8 16, Bk 32 .rem 31 .u8 2, Cv' 33 .i64 32, V 13 33]
 (.seq (O [V 34 10]
 (.block 0 (O [Bk 36 .eql 34 .u8 1, V 35 36]
 (.cond (.tmp 35)
 (O [V 37 10, V 38 11, V 39 1, Bk 40 .quo 39 .u8 4, Bk 41 .rem 40 .u8 8, Cv' 42 .i64 41, ⟨some 43, none, .q (.build [(.int .u8 0), (.int .i64 0), (.int .i64 0), (.int .i64 0)] [(0, 1, (.tmp 37)), (1, 1, (.tmp 38)), (2, 1, (.tmp 42))]), []⟩, ⟨none, none, .e (.store 4 (.tmp 8) (.tmp 43)), []⟩]
 .ret)
 (O [Bk 45 .eql 34 .u8 2, V 44 45]
 (.cond (.tmp 44)
 (O [V 46 10, V 47 11, V 48 12, ⟨some 49, none, .q (.build [(.int .u8 0), (.int .i64 0), (.int .i64 0), (.int .i64 0)] [(0, 1, (.tmp 46)), (1, 1, (.tmp 47)), (2, 1, (.tmp 48))]), []⟩, ⟨none, none, .e (.store 4 (.tmp 8) (.tmp 49)), []⟩]
 .ret)
 (.seq (O [Bk 51 .eql 34 .u8 3, V 50 51]
 (.cond (.tmp 50)
 .skip
 (O [Bk 52 .eql 34 .u8 4, V 50 52]
 (.cond (.tmp 50)
 .skip
 (O [Bk 53 .eql 34 .u8 5, V 50 53]
 (.cond (.tmp 50)
 .skip
 (.ops [Bk 54 .eql 34 .u8 6, V 50 54])))))))
 (.cond (.tmp 50)
 (O [V 55 10, V 56 11, V 57 12, V 58 1, Bk 59 .quo 58 .u8 16, Bk 60 .rem 59 .u8 4, Cv' 61 .i64 60, ⟨some 62, none, .q (.build [(.int .u8 0), (.int .i64 0), (.int .i64 0), (.int .i64 0)] [(0, 1, (.tmp 55)), (1, 1, (.tmp 56)), (2, 1, (.tmp 57)), (3, 1, (.tmp 61))]), []⟩, ⟨none, none, .e (.store 4 (.tmp 8) (.tmp 62)), []⟩]
 .ret)
 (O [Bk 64 .eql 34 .u8 7, V 63 64]
 (.cond (.tmp 63)
 (O [V 65 10, V 66 11, V 67 13, ⟨some 68, none, .q (.build [(.int .u8 0), (.int .i64 0), (.int .i64 0), (.int .i64 0)] [(0, 1, (.tmp 65)), (1, 1, (.tmp 66)), (2, 1, (.tmp 67))]), []⟩, ⟨none, none, .e (.store 4 (.tmp 8) (.tmp 68)), []⟩]
 .ret)
 (O [Bk 70 .eql 34 .u8 8, V 69 70]
 (.cond (.tmp 69)
 (O [V 71 10, V 72 13, V 73 11, ⟨some 74, none, .q (.build [(.int .u8 0), (.int .i64 0), (.int .i64 0), (.int .i64 0)] [(0, 1, (.tmp 71)), (1, 1, (.tmp 72)), (2, 1, (.tmp 73))]), []⟩, ⟨none, none, .e (.store 4 (.tmp 8) (.tmp 74)), []⟩]
 .ret)
 (O [Bk 76 .eql 34 .u8 9, V 75 76]
 (.cond (.tmp 75)
 (O [V 77 10, V 78 11, ⟨some 79, none, .q (.build [(.int .u8 0), (.int .i64 0), (.int .i64 0), (.int .i64 0)] [(0, 1, (.tmp 77)), (1, 1, (.tmp 78))]), []⟩, ⟨none, none, .e (.store 4 (.tmp 8) (.tmp 79)), []⟩]
 .ret)
 (O [Bk 81 .eql 34 .u8 10, V 80 81]
 (.cond (.tmp 80)
 (O [V 82 10, V 83 2, Bn 84 .add 83 1, V 85 12, B 86 .add 84 85, V 87 3, ⟨some 88, none, .q (.mm false (.tmp 86) [(.tmp 87)]), []⟩, ⟨some 89, none, .q (.build [(.int .u8 0), (.int .i64 0), (.int .i64 0), (.int .i64 0)] [(0, 1, (.tmp 82)), (1, 1, (.tmp 88))]), []⟩, ⟨none, none, .e (.store 4 (.tmp 8) (.tmp 89)), []⟩]
 .ret)
 (O [Bk 91 .eql 34 .u8 11, V 90 91]
 (.cond (.tmp 90)
 (.seq (O [V 92 1, Bk 93 .geq 92 .u8 200]
 (.cond (.tmp 93)
 (O [V 94 10, V 95 11, V 96 2, V 97 12, B 98 .sub 96 97, ⟨some 99, none, .q (.mm true (.tmp 98) [(.const (.int .i64 0))]), []⟩, ⟨some 100, none, .q (.build [(.int .u8 0), (.int .i64 0), (.int .i64 0), (.int .i64 0)] [(0, 1, (.tmp 94)), (1, 1, (.tmp 95)), (2, 1, (.tmp 99))]), []⟩, ⟨none, none, .e (.store 4 (.tmp 8) (.tmp 100)), []⟩]
 .ret)
 .skip))
 (O [V 101 10, V 102 11, V 103 2, Bn 104 .add 103 1, V 105 12, B 106 .add 104 105, V 107 3, ⟨some 108, none, .q (.mm false (.tmp 106) [(.tmp 107)]), []⟩, ⟨some 109, none, .q (.build [(.int .u8 0), (.int .i64 0), (.int .i64 0), (.int .i64 0)] [(0, 1, (.tmp 101)), (1, 1, (.tmp 102)), (2, 1, (.tmp 108))]), []⟩, ⟨none, none, .e (.store 4 (.tmp 8) (.tmp 109)), []⟩]
 .ret))
 (O [Bk 111 .eql 34 .u8 18, V 110 111]
 (.cond (.tmp 110)
 (O [V 112 10, V 113 11, ⟨some 114, none, .q (.build [(.int .u8 0), (.int .i64 0), (.int .i64 0), (.int .i64 0)] [(0, 1, (.tmp 112)), (2, 1, (.tmp 113))]), []⟩, ⟨none, none, .e (.store 4 (.tmp 8) (.tmp 114)), []⟩]
 .ret)
 (O [Bk 116 .eql 34 .u8 19, V 115 116]
 (.cond (.tmp 115)
 (O [V 117 10, V 118 11, V 119 12, ⟨some 120, none, .q (.build [(.int .u8 0), (.int .i64 0), (.int .i64 0), (.int .i64 0)] [(0, 1, (.tmp 117)), (1, 1, (.tmp 118)), (3, 1, (.tmp 119))]), []⟩, ⟨none, none, .e (.store 4 (.tmp 8) (.tmp 120)), []⟩]
 .ret)
 (O [Bk 122 .eql 34 .u8 20, V 121 122]
 (.cond (.tmp 121)
 (O [V 123 10, V 124 11, ⟨some 125, none, .q (.build [(.int .u8 0), (.int .i64 0), (.int .i64 0), (.int .i64 0)] [(0, 1, (.tmp 123)), (2, 1, (.tmp 124))]), []⟩, ⟨none, none, .e (.store 4 (.tmp 8) (.tmp 125)), []⟩]
 .ret)
 (.seq (O [Bk 127 .eql 34 .u8 17, V 126 127]
 (.cond (.tmp 126)
 .skip
 (O [Bk 128 .eql 34 .u8 21, V 126 128]
 (.cond (.tmp 126)
 .skip
 (.ops [Bk 129 .eql 34 .u8 26, V 126 129])))))
 (.cond (.tmp 126)
 (O [V 130 10, V 131 11, ⟨some 132, none, .q (.build [(.int .u8 0), (.int .i64 0), (.int .i64 0), (.int .i64 0)] [(0, 1, (.tmp 130)), (1, 1, (.tmp 131))]), []⟩, ⟨none, none, .e (.store 4 (.tmp 8) (.tmp 132)), []⟩]
 .ret)
 (O [Bk 134 .eql 34 .u8 22, V 133 134]
 (.cond (.tmp 133)
 (O [V 135 10, V 136 11, V 137 12, ⟨some 138, none, .q (.build [(.int .u8 0), (.int .i64 0), (.int .i64 0), (.int .i64 0)] [(0, 1, (.tmp 135)), (1, 1, (.tmp 136)), (3, 1, (.tmp 137))]), []⟩, ⟨none, none, .e (.store 4 (.tmp 8) (.tmp 138)), []⟩]
 .ret)
 (O [Bk 140 .eql 34 .u8 24, V 139 140]
 (.cond (.tmp 139)
 (O [V 141 10, V 142 1, Bk 143 .rem 142 .u8 3, Cv' 144 .i64 143, Bn 145 .sub 144 1, ⟨some 146, none, .q (.build [(.int .u8 0), (.int .i64 0), (.int .i64 0), (.int .i64 0)] [(0, 1, (.tmp 141)), (2, 1, (.tmp 145))]), []⟩, ⟨none, none, .e (.store 4 (.tmp 8) (.tmp 146)), []⟩]
 .ret)
 .skip))))))))))))))))))))))))))))))
 (O [V 147 10, ⟨some 148, none, .q (.build [(.int .u8 0), (.int .i64 0), (.int .i64 0), (.int .i64 0)] [(0, 1, (.tmp 147))]), []⟩, ⟨none, none, .e (.store 4 (.tmp 8) (.tmp 148)), []⟩]
 .ret)))))))), [.cells 8 4], 149⟩
theorem call_MkIns {args : List Value} {h : Heap} {K : Value → Heap → Prop} (hl : args.length ≤ 149) (k : pwp Proofs.Try.prog c_MkIns.body (BodyK c_MkIns.results K) (enterF args) h) : PCall Proofs.Try.prog 56 args h K :=
  pcall_of (fn := Proofs.Try.f56) (by kernel_rfl) (by kernel_rfl) (by kernel_rfl) (by kernel_rfl) hl k
def c_Make : AFn :=
⟨(O [⟨some 2, none, .e (.new [(.int .i64 0), (.int .i64 0), (.int .i64 0), (.slice none 0 0), (.int .i64 0), (.int .i64 0), (.slice none 0 0)] 7), []⟩]
 (O [⟨some 12, none, .e (.lit [(.int .i64 0)] 1 1 [(0, 1, (.const (.int .i64 1)))]), []⟩, ⟨some 13, none, .q (.build [(.int .i64 0), (.int .i64 0), (.int .i64 0), (.slice none 0 0), (.int .i64 0), (.int .i64 0), (.slice none 0 0)] [(0, 1, (.const (.int .i64 2))), (1, 1, (.const (.int .i64 1))), (2, 1, (.const (.int .i64 1))), (3, 1, (.tmp 12)), (4, 1, (.const (.int .i64 1))), (5, 1, (.const (.int .i64 1)))]), []⟩, ⟨some 3, none, .e (.new [(.int .i64 0), (.int .i64 0), (.int .i64 0), (.slice none 0 0), (.int .i64 0), (.int .i64 0), (.slice none 0 0)] 7), []⟩, ⟨none, none, .e (.store 7 (.tmp 3) (.tmp 13)), []⟩]
 (O [V 14 0, Ln 15 14, ⟨some 16, none, .q (.mm false (.tmp 15) [(.const (.int .i64 3))]), []⟩, ⟨some 17, none, .q (.mm true (.tmp 16) [(.const (.int .i64 1))]), []⟩, V 4 17]
 (.seq (O [N 5 0]
 (.block 0 (.loop (.seq (O [V 18 5, V 19 4, B 20 .lss 18 19]
 (.cond (.tmp 20)
 .skip
 (.exit 0)))
 (.seq (.block 1 (O [E 6]
 (.seq (O [N 7 1]
 (.block 2 (.loop (.seq (O [V 23 7, V 24 4, B 25 .lss 23 24, V 26 25, Gd 26 true (V 27 5), Gd 26 true (Bn 28 .eql 27 0), Pk 29 26 28 false]
 (.cond (.tmp 29)
 .skip
 (.exit 2)))
 (.seq (.block 3 (.ops [V 32 6, V 33 7, ⟨some 34, none, .q (.build [(.int .u8 0), (.int .i64 0), (.int .i64 0), (.int .i64 0)] [(0, 1, (.const (.int .u8 12))), (1, 1, (.tmp 33))]), []⟩, ⟨some 35, none, .e (.lit [(.int .u8 0), (.int .i64 0), (.int .i64 0), (.int .i64 0)] 4 1 [(0, 4, (.tmp 34))]), []⟩, Ap 36 4 32 35, V 6 36]))
 (.ops [V 30 7, Bn 31 .add 30 1, V 7 31]))))))
 (O [V 37 6, Ln 38 37, V 8 38]
 (O [E 9]
 (.seq (O [V 39 5, V 40 0, Ln 41 40, B 42 .lss 39 41]
 (.cond (.tmp 42)
 (.ops [V 43 0, V 44 5, X 45 1 43 44, L 46 45, V 9 46])
 .skip))
 (O [V 47 9, Ln 48 47, Bn 49 .quo 48 2, ⟨some 50, none, .q (.mm false (.tmp 49) [(.const (.int .i64 9))]), []⟩, V 10 50]
 (.seq (O [N 11 0]
 (.block 4 (.loop (.seq (O [V 51 11, V 52 10, B 53 .lss 51 52]
 (.cond (.tmp 53)
 .skip
 (.exit 4)))
 (.seq (.block 5 (.ops [V 56 6, V 57 9, V 58 11, ⟨some 59, none, .q (.bin .mul (.const (.int .i64 2)) (.tmp 58)), []⟩, X 60 1 57 59, L 61 60, V 62 9, V 63 11, ⟨some 64, none, .q (.bin .mul (.const (.int .i64 2)) (.tmp 63)), []⟩, Bn 65 .add 64 1, X 66 1 62 65, L 67 66, V 68 8, V 69 11, B 70 .add 68 69, V 71 8, V 72 10, B 73 .add 71 72, ⟨some 74, none, .call 56 [(.tmp 61), (.tmp 67), (.tmp 70), (.tmp 73)], []⟩, ⟨some 75, none, .e (.lit [(.int .u8 0), (.int .i64 0), (.int .i64 0), (.int .i64 0)] 4 1 [(0, 4, (.tmp 74))]), []⟩, Ap 76 4 56 75, V 6 76]))
 (.ops [V 54 11, Bn 55 .add 54 1, V 11 55]))))))
 (.ops [FA 77 6 3, L 78 77, V 79 6, Z 4 79, ⟨some 80, none, .e (.lit [(.slice none 0 0)] 1 1 [(0, 1, (.tmp 79))]), []⟩, Ap 81 1 78 80, FA 82 6 3, S 82 81])))))))))
 (.ops [V 21 5, Bn 22 .add 21 1, V 5 22]))))))
 (O [LA 83 7 3, ⟨none, none, .e (.store 7 (.tmp 2) (.tmp 83)), []⟩]
 .ret))))), [.cells 2 7], 84⟩
theorem call_Make {args : List Value} {h : Heap} {K : Value → Heap → Prop} (hl : args.length ≤ 84) (k : pwp Proofs.Try.prog c_Make.body (BodyK c_Make.results K) (enterF args) h) : PCall Proofs.Try.prog 19 args h K :=
  pcall_of (fn := Proofs.Try.f19) (by kernel_rfl) (by kernel_rfl) (by kernel_rfl) (by kernel_rfl) hl k
end Pm
