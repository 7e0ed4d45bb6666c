/- Codes of the program's functions, as a program printed them, and that they are what the program's functions are compiled to.
   No condition: plain facts. -/
import Derived.Test.YtdohgmnflhjgjaaPm5
import Derived.Test.YtdohgmnflhjgjaaProg
import Derived.KernelRfl

namespace Pm
set_option linter.unusedSimpArgs false
set_option linter.unusedVariables false
open Go Am
set_option maxRecDepth 100000
def c_vMeet : AFn :=
⟨(O [⟨some 2, none, .e (.box 2 2 (.tmp 0)), []⟩, ⟨some 3, none, .e (.box 2 2 (.tmp 1)), []⟩, ⟨some 4, none, .e (.new [(.int .u8 0), (.int .i64 0)] 2), []⟩]
 (O [LA 5 2 2, LA 7 2 3, ⟨some 6, none, .call 90 [(.tmp 5)], [.loadA 2 (.tmp 3)]⟩, ⟨some 8, none, .call 90 [(.tmp 7)], []⟩, ⟨none, none, .e (.store 2 (.tmp 2) (.tmp 6)), []⟩, ⟨none, none, .e (.store 2 (.tmp 3) (.tmp 8)), []⟩]
 (.seq (.block 0 (O [FA 10 0 2, L 11 10, Bk 12 .eql 11 .u8 0, V 9 12]
 (.cond (.tmp 9)
 (O [LA 13 2 3, ⟨none, none, .e (.store 2 (.tmp 4) (.tmp 13)), []⟩]
 .ret)
 (.seq (O [FA 15 0 3, L 16 15, Bk 17 .eql 16 .u8 0, V 14 17]
 (.cond (.tmp 14)
 .skip
 (.ops [LA 18 2 2, LA 19 2 3, ⟨some 20, none, .q (.eqA [0, 0] false (.tmp 18) (.tmp 19)), []⟩, V 14 20])))
 (.cond (.tmp 14)
 (O [LA 21 2 2, ⟨none, none, .e (.store 2 (.tmp 4) (.tmp 21)), []⟩]
 .ret)
 .skip)))))
 (O [⟨some 22, none, .q (.build [(.int .u8 0), (.int .i64 0)] [(0, 1, (.const (.int .u8 2)))]), []⟩, ⟨none, none, .e (.store 2 (.tmp 4) (.tmp 22)), []⟩]
 .ret)))), [.cells 4 2], 23⟩
theorem c_vMeet_is : cFunc Proofs.Try.prog Proofs.Try.f63 = some (eraseF c_vMeet) := by kernel_rfl
theorem call_vMeet {args : List Value} {h : Heap} {K : Value → Heap → Prop} (hl : args.length ≤ 23) (k : pwp Proofs.Try.prog c_vMeet.body (BodyK c_vMeet.results K) (enterF args) h) : PCall Proofs.Try.prog 63 args h K :=
  pcall_of (by kernel_rfl) (by kernel_rfl) c_vMeet_is (by kernel_rfl) hl k
def c_vBare : AFn :=
⟨(O [⟨some 1, none, .e (.box 2 2 (.tmp 0)), []⟩, ⟨some 2, none, .e (.new [(.int .u8 0), (.int .i64 0)] 2), []⟩]
 (.seq (O [FA 3 0 1, L 4 3]
 (.block 0 (O [Bk 6 .eql 4 .u8 0, V 5 6]
 (.cond (.tmp 5)
 (O [⟨some 7, none, .q (.build [(.int .u8 0), (.int .i64 0)] []), []⟩, ⟨none, none, .e (.store 2 (.tmp 2) (.tmp 7)), []⟩]
 .ret)
 (O [Bk 9 .eql 4 .u8 1, V 8 9]
 (.cond (.tmp 8)
 (O [LA 10 2 1, ⟨none, none, .e (.store 2 (.tmp 2) (.tmp 10)), []⟩]
 .ret)
 .skip))))))
 (O [⟨some 11, none, .q (.build [(.int .u8 0), (.int .i64 0)] [(0, 1, (.const (.int .u8 2)))]), []⟩, ⟨none, none, .e (.store 2 (.tmp 2) (.tmp 11)), []⟩]
 .ret))), [.cells 2 2], 12⟩
theorem c_vBare_is : cFunc Proofs.Try.prog Proofs.Try.f90 = some (eraseF c_vBare) := by kernel_rfl
theorem call_vBare {args : List Value} {h : Heap} {K : Value → Heap → Prop} (hl : args.length ≤ 12) (k : pwp Proofs.Try.prog c_vBare.body (BodyK c_vBare.results K) (enterF args) h) : PCall Proofs.Try.prog 90 args h K :=
  pcall_of (by kernel_rfl) (by kernel_rfl) c_vBare_is (by kernel_rfl) hl k
def c_vOne : AFn :=
⟨(O [⟨some 2, none, .e (.new [(.int .u8 0), (.int .i64 0)] 2), []⟩]
 (O [V 3 0, ⟨some 4, none, .q (.build [(.int .u8 0), (.int .i64 0)] [(0, 1, (.const (.int .u8 1))), (1, 1, (.tmp 3))]), []⟩, ⟨none, none, .e (.store 2 (.tmp 2) (.tmp 4)), []⟩]
 .ret)), [.cells 2 2], 5⟩
theorem c_vOne_is : cFunc Proofs.Try.prog Proofs.Try.f60 = some (eraseF c_vOne) := by kernel_rfl
theorem call_vOne {args : List Value} {h : Heap} {K : Value → Heap → Prop} (hl : args.length ≤ 5) (k : pwp Proofs.Try.prog c_vOne.body (BodyK c_vOne.results K) (enterF args) h) : PCall Proofs.Try.prog 60 args h K :=
  pcall_of (by kernel_rfl) (by kernel_rfl) c_vOne_is (by kernel_rfl) hl k
def c_vGet : AFn :=
⟨(O [⟨some 2, none, .e (.box 8 2 (.tmp 0)), []⟩, ⟨some 4, none, .e (.new [(.int .u8 0), (.int .i64 0)] 2), []⟩]
 (.seq (O [V 5 1, Bn 6 .lss 5 0, V 7 6, Gd 7 false (V 8 1), Gd 7 false (Bn 9 .geq 8 4), ⟨some 10, none, .q (.pick (.tmp 7) (.const (.bool true)) (.tmp 9)), []⟩]
 (.cond (.tmp 10)
 (O [⟨some 11, none, .q (.build [(.int .u8 0), (.int .i64 0)] []), []⟩, ⟨none, none, .e (.store 2 (.tmp 4) (.tmp 11)), []⟩]
 .ret)
 .skip))
 (O [V 12 1, ⟨some 13, none, .q (.idxP 4 2 (.tmp 2) (.tmp 12)), []⟩, LA 14 2 13, ⟨some 15, none, .call 90 [(.tmp 14)], []⟩, ⟨none, none, .e (.store 2 (.tmp 4) (.tmp 15)), []⟩]
 .ret))), [.cells 4 2], 16⟩
theorem c_vGet_is : cFunc Proofs.Try.prog Proofs.Try.f87 = some (eraseF c_vGet) := by kernel_rfl
theorem call_vGet {args : List Value} {h : Heap} {K : Value → Heap → Prop} (hl : args.length ≤ 16) (k : pwp Proofs.Try.prog c_vGet.body (BodyK c_vGet.results K) (enterF args) h) : PCall Proofs.Try.prog 87 args h K :=
  pcall_of (by kernel_rfl) (by kernel_rfl) c_vGet_is (by kernel_rfl) hl k
def c_vReckon : AFn :=
⟨(O [⟨some 4, none, .e (.box 2 2 (.tmp 1)), []⟩, ⟨some 5, none, .e (.box 2 2 (.tmp 2)), []⟩, ⟨some 6, none, .e (.new [(.int .u8 0), (.int .i64 0)] 2), []⟩]
 (.seq (.block 0 (O [FA 8 0 4, L 9 8, Bk 10 .eql 9 .u8 0, V 11 10, Gd 11 false (FA 12 0 5), Gd 11 false (L 13 12), Gd 11 false (Bk 14 .eql 13 .u8 0), ⟨some 15, none, .q (.pick (.tmp 11) (.const (.bool true)) (.tmp 14)), []⟩, V 7 15]
 (.cond (.tmp 7)
 (O [⟨some 16, none, .q (.build [(.int .u8 0), (.int .i64 0)] []), []⟩, ⟨none, none, .e (.store 2 (.tmp 6) (.tmp 16)), []⟩]
 .ret)
 (O [FA 18 0 4, L 19 18, Bk 20 .eql 19 .u8 2, V 21 20, Gd 21 false (FA 22 0 5), Gd 21 false (L 23 22), Gd 21 false (Bk 24 .eql 23 .u8 2), ⟨some 25, none, .q (.pick (.tmp 21) (.const (.bool true)) (.tmp 24)), []⟩, V 17 25]
 (.cond (.tmp 17)
 (O [⟨some 26, none, .q (.build [(.int .u8 0), (.int .i64 0)] [(0, 1, (.const (.int .u8 2)))]), []⟩, ⟨none, none, .e (.store 2 (.tmp 6) (.tmp 26)), []⟩]
 .ret)
 .skip)))))
 (.seq (O [V 27 0]
 (.block 1 (O [Bk 29 .eql 27 .u8 3, V 28 29]
 (.cond (.tmp 28)
 (O [FA 30 1 4, L 31 30, FA 32 1 5, L 33 32, B 34 .add 31 33, ⟨some 35, none, .call 60 [(.tmp 34)], []⟩, ⟨none, none, .e (.store 2 (.tmp 6) (.tmp 35)), []⟩]
 .ret)
 (O [Bk 37 .eql 27 .u8 4, V 36 37]
 (.cond (.tmp 36)
 (O [FA 38 1 4, L 39 38, FA 40 1 5, L 41 40, B 42 .sub 39 41, ⟨some 43, none, .call 60 [(.tmp 42)], []⟩, ⟨none, none, .e (.store 2 (.tmp 6) (.tmp 43)), []⟩]
 .ret)
 (O [Bk 45 .eql 27 .u8 5, V 44 45]
 (.cond (.tmp 44)
 (O [FA 46 1 4, L 47 46, FA 48 1 5, L 49 48, B 50 .mul 47 49, ⟨some 51, none, .call 60 [(.tmp 50)], []⟩, ⟨none, none, .e (.store 2 (.tmp 6) (.tmp 51)), []⟩]
 .ret)
 .skip))))))))
 (.seq (O [FA 52 1 4, L 53 52, FA 54 1 5, L 55 54, B 56 .lss 53 55]
 (.cond (.tmp 56)
 (O [⟨some 57, none, .call 60 [(.const (.int .i64 1))], []⟩, ⟨none, none, .e (.store 2 (.tmp 6) (.tmp 57)), []⟩]
 .ret)
 .skip))
 (O [⟨some 58, none, .call 60 [(.const (.int .i64 0))], []⟩, ⟨none, none, .e (.store 2 (.tmp 6) (.tmp 58)), []⟩]
 .ret))))), [.cells 6 2], 59⟩
theorem c_vReckon_is : cFunc Proofs.Try.prog Proofs.Try.f88 = some (eraseF c_vReckon) := by kernel_rfl
theorem call_vReckon {args : List Value} {h : Heap} {K : Value → Heap → Prop} (hl : args.length ≤ 59) (k : pwp Proofs.Try.prog c_vReckon.body (BodyK c_vReckon.results K) (enterF args) h) : PCall Proofs.Try.prog 88 args h K :=
  pcall_of (by kernel_rfl) (by kernel_rfl) c_vReckon_is (by kernel_rfl) hl k
def c_vmeet : AFn :=
⟨(O [⟨some 2, none, .e (.box 8 2 (.tmp 0)), []⟩, ⟨some 3, none, .e (.box 8 2 (.tmp 1)), []⟩, ⟨some 4, none, .e (.new [(.int .u8 0), (.int .i64 0), (.int .u8 0), (.int .i64 0), (.int .u8 0), (.int .i64 0), (.int .u8 0), (.int .i64 0)] 2), []⟩]
 (.seq (O [N 6 0]
 (.block 0 (.loop (O [Bn 7 .lss 6 4]
 (.seq (.cond (.tmp 7)
 .skip
 (.exit 0))
 (.seq (.block 1 (O [V 8 6, V 5 8]
 (.ops [V 9 5, V 10 5, ⟨some 11, none, .q (.idxP 4 2 (.tmp 2) (.tmp 10)), []⟩, LA 12 2 11, V 13 5, ⟨some 14, none, .q (.idxP 4 2 (.tmp 3) (.tmp 13)), []⟩, LA 15 2 14, ⟨some 16, none, .call 63 [(.tmp 12), (.tmp 15)], []⟩, ⟨some 17, none, .q (.idxP 4 2 (.tmp 2) (.tmp 9)), []⟩, ⟨none, none, .e (.store 2 (.tmp 17) (.tmp 16)), []⟩])))
 (.ops [Bn 18 .add 6 1, V 6 18])))))))
 (O [LA 19 8 2, ⟨none, none, .e (.store 8 (.tmp 4) (.tmp 19)), []⟩]
 .ret))), [.cells 4 8], 20⟩
theorem c_vmeet_is : cFunc Proofs.Try.prog Proofs.Try.f62 = some (eraseF c_vmeet) := by kernel_rfl
theorem call_vmeet {args : List Value} {h : Heap} {K : Value → Heap → Prop} (hl : args.length ≤ 20) (k : pwp Proofs.Try.prog c_vmeet.body (BodyK c_vmeet.results K) (enterF args) h) : PCall Proofs.Try.prog 62 args h K :=
  pcall_of (by kernel_rfl) (by kernel_rfl) c_vmeet_is (by kernel_rfl) hl k
def c_vDo : AFn :=
⟨(O [⟨some 2, none, .e (.box 4 4 (.tmp 0)), []⟩, ⟨some 3, none, .e (.box 8 2 (.tmp 1)), []⟩, ⟨some 4, none, .e (.new [(.int .u8 0), (.int .i64 0), (.int .u8 0), (.int .i64 0), (.int .u8 0), (.int .i64 0), (.int .u8 0), (.int .i64 0)] 2), []⟩]
 (O [⟨some 9, none, .q (.build [(.int .u8 0), (.int .i64 0)] [(0, 1, (.const (.int .u8 2)))]), []⟩, ⟨some 5, none, .e (.new [(.int .u8 0), (.int .i64 0)] 2), []⟩, ⟨none, none, .e (.store 2 (.tmp 5) (.tmp 9)), []⟩]
 (.seq (O [FA 10 0 2, L 11 10]
 (.block 0 (O [Bk 13 .eql 11 .u8 1, V 12 13]
 (.cond (.tmp 12)
 (.ops [FA 14 2 2, L 15 14, ⟨some 16, none, .call 60 [(.tmp 15)], []⟩, ⟨none, none, .e (.store 2 (.tmp 5) (.tmp 16)), []⟩])
 (O [Bk 18 .eql 11 .u8 2, V 17 18]
 (.cond (.tmp 17)
 (.ops [LA 19 8 3, FA 20 2 2, L 21 20, ⟨some 22, none, .call 87 [(.tmp 19), (.tmp 21)], []⟩, ⟨none, none, .e (.store 2 (.tmp 5) (.tmp 22)), []⟩])
 (.seq (O [Bk 24 .eql 11 .u8 3, V 23 24]
 (.cond (.tmp 23)
 .skip
 (O [Bk 25 .eql 11 .u8 4, V 23 25]
 (.cond (.tmp 23)
 .skip
 (O [Bk 26 .eql 11 .u8 5, V 23 26]
 (.cond (.tmp 23)
 .skip
 (.ops [Bk 27 .eql 11 .u8 6, V 23 27])))))))
 (.cond (.tmp 23)
 (.ops [FA 28 0 2, L 29 28, LA 30 8 3, FA 31 2 2, L 32 31, LA 34 8 3, FA 35 3 2, L 36 35, ⟨some 33, none, .call 87 [(.tmp 30), (.tmp 32)], [.load (.tmp 28), .loadA 8 (.tmp 3), .load (.tmp 35)]⟩, ⟨some 37, none, .call 87 [(.tmp 34), (.tmp 36)], [.load (.tmp 28)]⟩, ⟨some 38, none, .call 88 [(.tmp 29), (.tmp 33), (.tmp 37)], []⟩, ⟨none, none, .e (.store 2 (.tmp 5) (.tmp 38)), []⟩])
 .skip))))))))
 (O [LA 39 4 2, ⟨some 40, none, .call 89 [(.tmp 39)], []⟩, V 6 40]
 (.seq (O [LA 41 8 3, N 42 0]
 (.block 1 (.loop (O [Bn 43 .lss 42 4]
 (.seq (.cond (.tmp 43)
 .skip
 (.exit 1))
 (.seq (.block 2 (O [V 44 42, ⟨some 45, none, .q (.idx (some 2) 4 2 (.tmp 41) (.tmp 42)), []⟩, ⟨some 8, none, .e (.new [(.int .u8 0), (.int .i64 0)] 2), []⟩, V 7 44, ⟨none, none, .e (.store 2 (.tmp 8) (.tmp 45)), []⟩]
 (O [V 46 7, LA 47 2 8, ⟨some 48, none, .call 90 [(.tmp 47)], []⟩, ⟨some 49, none, .q (.idxP 4 2 (.tmp 3) (.tmp 46)), []⟩, ⟨none, none, .e (.store 2 (.tmp 49) (.tmp 48)), []⟩]
 (O [V 50 6, V 51 7, ⟨some 52, none, .call 74 [(.tmp 50), (.tmp 51)], []⟩]
 (.cond (.tmp 52)
 (.ops [V 53 7, LA 54 2 5, ⟨some 55, none, .q (.idxP 4 2 (.tmp 3) (.tmp 53)), []⟩, ⟨none, none, .e (.store 2 (.tmp 55) (.tmp 54)), []⟩])
 .skip)))))
 (.ops [Bn 56 .add 42 1, V 42 56])))))))
 (O [LA 57 8 3, ⟨none, none, .e (.store 8 (.tmp 4) (.tmp 57)), []⟩]
 .ret)))))), [.cells 4 8], 58⟩
theorem c_vDo_is : cFunc Proofs.Try.prog Proofs.Try.f61 = some (eraseF c_vDo) := by kernel_rfl
theorem call_vDo {args : List Value} {h : Heap} {K : Value → Heap → Prop} (hl : args.length ≤ 58) (k : pwp Proofs.Try.prog c_vDo.body (BodyK c_vDo.results K) (enterF args) h) : PCall Proofs.Try.prog 61 args h K :=
  pcall_of (by kernel_rfl) (by kernel_rfl) c_vDo_is (by kernel_rfl) hl k
def c_vOf : AFn :=
⟨(O [E 2]
 (O [V 13 0, ⟨some 14, none, .call 45 [(.tmp 13)], []⟩, V 3 14]
 (O [V 15 0, Ln 16 15, ⟨some 17, none, .e (.make [(.int .u8 0), (.int .i64 0), (.int .u8 0), (.int .i64 0), (.int .u8 0), (.int .i64 0), (.int .u8 0), (.int .i64 0)] 8 (.tmp 16) (.tmp 16)), []⟩, V 4 17]
 (.seq (O [V 18 0, Ln 19 18, Bn 20 .eql 19 0]
 (.cond (.tmp 20)
 (O [V 21 4, V 2 21]
 .ret)
 .skip))
 (O [V 22 0, Ln 23 22, ⟨some 24, none, .e (.make [(.bool false)] 1 (.tmp 23) (.tmp 23)), []⟩, V 5 24]
 (.seq (O [N 25 0]
 (.block 0 (.loop (O [Bn 26 .lss 25 4]
 (.seq (.cond (.tmp 26)
 .skip
 (.exit 0))
 (.seq (.block 1 (O [V 27 25, V 6 27]
 (.ops [V 28 4, V 29 6, ⟨some 31, none, .q (.idxA 8 (.tmp 28) (.const (.int .i64 0))), []⟩, ⟨some 30, none, .call 60 [(.const (.int .i64 0))], []⟩, ⟨some 32, none, .q (.idxP 4 2 (.tmp 31) (.tmp 29)), []⟩, ⟨none, none, .e (.store 2 (.tmp 32) (.tmp 30)), []⟩])))
 (.ops [Bn 33 .add 25 1, V 25 33])))))))
 (O [⟨some 34, none, .e (.lit [(.int .i64 0)] 1 1 [(0, 1, (.const (.int .i64 0)))]), []⟩, V 7 34]
 (.seq (.block 2 (.loop (.seq (O [V 35 7, Ln 36 35, Bn 37 .gtr 36 0]
 (.cond (.tmp 37)
 .skip
 (.exit 2)))
 (.block 3 (O [V 38 7, ⟨some 39, none, .q (.idxA 1 (.tmp 38) (.const (.int .i64 0))), []⟩, L 40 39, V 8 40]
 (O [V 41 7, ⟨some 42, none, .q (.cut 1 (.tmp 41) (some (.const (.int .i64 1))) none), []⟩, V 7 42]
 (O [V 43 0, V 44 8, X 45 4 43 44, LA 46 4 45, V 47 4, V 48 8, X 49 8 47 48, LA 50 8 49, ⟨some 51, none, .call 61 [(.tmp 46), (.tmp 50)], []⟩, ⟨some 9, none, .e (.new [(.int .u8 0), (.int .i64 0), (.int .u8 0), (.int .i64 0), (.int .u8 0), (.int .i64 0), (.int .u8 0), (.int .i64 0)] 2), []⟩, ⟨none, none, .e (.store 8 (.tmp 9) (.tmp 51)), []⟩]
 (O [V 52 3, V 53 8, X 54 1 52 53, L 55 54, Ln 56 55, N 57 0]
 (.block 4 (.loop (O [B 58 .lss 57 56]
 (.seq (.cond (.tmp 58)
 .skip
 (.exit 4))
 (.seq (.block 5 (O [X 59 1 55 57, L 60 59, V 11 60]
 (.seq (O [V 61 11, Bn 62 .lss 61 0, V 63 62, Gd 63 false (V 64 11), Gd 63 false (V 65 0), Gd 63 false (Ln 66 65), Gd 63 false (B 67 .geq 64 66), ⟨some 68, none, .q (.pick (.tmp 63) (.const (.bool true)) (.tmp 67)), []⟩]
 (.cond (.tmp 68)
 (.exit 5)
 .skip))
 (O [V 69 4, V 70 11, X 71 8 69 70, LA 72 8 71, LA 73 8 9, ⟨some 74, none, .call 62 [(.tmp 72), (.tmp 73)], []⟩, ⟨some 12, none, .e (.new [(.int .u8 0), (.int .i64 0), (.int .u8 0), (.int .i64 0), (.int .u8 0), (.int .i64 0), (.int .u8 0), (.int .i64 0)] 2), []⟩, ⟨none, none, .e (.store 8 (.tmp 12) (.tmp 74)), []⟩]
 (O [LA 75 8 12, V 76 4, V 77 11, X 78 8 76 77, LA 79 8 78, ⟨some 80, none, .q (.eqA [0, 0, 0, 0, 0, 0, 0, 0] true (.tmp 75) (.tmp 79)), []⟩, V 81 80, Gd 81 false (V 82 5), Gd 81 false (V 83 11), Gd 81 false (X 84 1 82 83), Gd 81 false (L 85 84), Gd 81 false (Nt 86 85), ⟨some 87, none, .q (.pick (.tmp 81) (.const (.bool true)) (.tmp 86)), []⟩]
 (.cond (.tmp 87)
 (O [V 88 4, V 89 11, V 90 5, V 91 11, LA 92 8 12, X 93 8 88 89, ⟨none, none, .e (.store 8 (.tmp 93) (.tmp 92)), []⟩, X 94 1 90 91, ⟨none, none, .e (.store 1 (.tmp 94) (.const (.bool true))), []⟩]
 (.ops [V 95 7, V 96 11, ⟨some 97, none, .e (.lit [(.int .i64 0)] 1 1 [(0, 1, (.tmp 96))]), []⟩, Ap 98 1 95 97, V 7 98]))
 .skip))))))
 (.ops [Bn 99 .add 57 1, V 57 99]))))))))))))))
 (O [V 100 4, V 2 100]
 .ret))))))))), [.tmp 2], 101⟩
theorem c_vOf_is : cFunc Proofs.Try.prog Proofs.Try.f23 = some (eraseF c_vOf) := by kernel_rfl
theorem call_vOf {args : List Value} {h : Heap} {K : Value → Heap → Prop} (hl : args.length ≤ 101) (k : pwp Proofs.Try.prog c_vOf.body (BodyK c_vOf.results K) (enterF args) h) : PCall Proofs.Try.prog 23 args h K :=
  pcall_of (by kernel_rfl) (by kernel_rfl) c_vOf_is (by kernel_rfl) hl k
def c_rPlain : AFn :=
⟨(O [⟨some 1, none, .e (.box 2 2 (.tmp 0)), []⟩, ⟨some 2, none, .e (.new [(.int .u8 0), (.int .i64 0)] 2), []⟩]
 (.seq (O [FA 3 0 1, L 4 3, Bk 5 .eql 4 .u8 1]
 (.cond (.tmp 5)
 (O [LA 6 2 1, ⟨none, none, .e (.store 2 (.tmp 2) (.tmp 6)), []⟩]
 .ret)
 .skip))
 (.seq (O [FA 7 0 1, L 8 7, Bk 9 .eql 8 .u8 0]
 (.cond (.tmp 9)
 (O [⟨some 10, none, .q (.build [(.int .u8 0), (.int .i64 0)] []), []⟩, ⟨none, none, .e (.store 2 (.tmp 2) (.tmp 10)), []⟩]
 .ret)
 .skip))
 (O [⟨some 11, none, .q (.build [(.int .u8 0), (.int .i64 0)] [(0, 1, (.const (.int .u8 2)))]), []⟩, ⟨none, none, .e (.store 2 (.tmp 2) (.tmp 11)), []⟩]
 .ret)))), [.cells 2 2], 12⟩
def c_rMath : AFn :=
⟨(O [⟨some 4, none, .e (.box 2 2 (.tmp 1)), []⟩, ⟨some 5, none, .e (.box 2 2 (.tmp 2)), []⟩, ⟨some 6, none, .e (.new [(.int .u8 0), (.int .i64 0)] 2), []⟩]
 (.seq (O [FA 8 0 4, L 9 8, Bk 10 .eql 9 .u8 0, V 11 10, Gd 11 false (FA 12 0 5), Gd 11 false (L 13 12), Gd 11 false (Bk 14 .eql 13 .u8 0), ⟨some 15, none, .q (.pick (.tmp 11) (.const (.bool true)) (.tmp 14)), []⟩]
 (.cond (.tmp 15)
 (O [⟨some 16, none, .q (.build [(.int .u8 0), (.int .i64 0)] []), []⟩, ⟨none, none, .e (.store 2 (.tmp 6) (.tmp 16)), []⟩]
 .ret)
 .skip))
 (.seq (O [FA 17 0 4, L 18 17, Bk 19 .neq 18 .u8 1, V 20 19, Gd 20 false (FA 21 0 5), Gd 20 false (L 22 21), Gd 20 false (Bk 23 .neq 22 .u8 1), ⟨some 24, none, .q (.pick (.tmp 20) (.const (.bool true)) (.tmp 23)), []⟩]
 (.cond (.tmp 24)
 (O [⟨some 25, none, .q (.build [(.int .u8 0), (.int .i64 0)] [(0, 1, (.const (.int .u8 2)))]), []⟩, ⟨none, none, .e (.store 2 (.tmp 6) (.tmp 25)), []⟩]
 .ret)
 .skip))
 (O [N 7 0]
 (.seq (.block 0 (O [V 27 0, Bk 28 .eql 27 .u8 3, V 26 28]
 (.cond (.tmp 26)
 (.ops [FA 29 1 4, L 30 29, FA 31 1 5, L 32 31, B 33 .add 30 32, V 7 33])
 (O [V 35 0, Bk 36 .eql 35 .u8 4, V 34 36]
 (.cond (.tmp 34)
 (.ops [FA 37 1 4, L 38 37, FA 39 1 5, L 40 39, B 41 .sub 38 40, V 7 41])
 (O [V 43 0, Bk 44 .eql 43 .u8 5, V 42 44]
 (.cond (.tmp 42)
 (.ops [FA 45 1 4, L 46 45, FA 47 1 5, L 48 47, B 49 .mul 46 48, V 7 49])
 (O [FA 51 1 4, L 52 51, FA 53 1 5, L 54 53, B 55 .lss 52 54, V 50 55]
 (.cond (.tmp 50)
 (.ops [N 7 1])
 .skip)))))))))
 (O [V 56 7, ⟨some 57, none, .q (.build [(.int .u8 0), (.int .i64 0)] [(0, 1, (.const (.int .u8 1))), (1, 1, (.tmp 56))]), []⟩, ⟨none, none, .e (.store 2 (.tmp 6) (.tmp 57)), []⟩]
 .ret)))))), [.cells 6 2], 58⟩
def c_rSame14 : AFn :=
⟨(O [T 4 false]
 (.seq (O [V 6 0, Ln 7 6, V 8 1, Ln 9 8, B 10 .neq 7 9]
 (.cond (.tmp 10)
 (O [T 4 false]
 .ret)
 .skip))
 (.seq (O [N 5 0]
 (.block 0 (.loop (.seq (O [V 11 5, V 12 0, Ln 13 12, B 14 .lss 11 13]
 (.cond (.tmp 14)
 .skip
 (.exit 0)))
 (.seq (.block 1 (O [V 17 0, V 18 5, X 19 8 17 18, LA 20 8 19, V 21 1, V 22 5, X 23 8 21 22, LA 24 8 23, ⟨some 25, none, .q (.eqA [0, 0, 0, 0, 0, 0, 0, 0] true (.tmp 20) (.tmp 24)), []⟩]
 (.cond (.tmp 25)
 (O [T 4 false]
 .ret)
 .skip)))
 (.ops [V 15 5, Bn 16 .add 15 1, V 5 16]))))))
 (O [T 4 true]
 .ret)))), [.tmp 4], 26⟩
end Pm
/- Codes of the program's functions, as a program printed them, and that they are what the program's functions are compiled to.
   No condition: plain facts. -/
namespace Pm
set_option linter.unusedSimpArgs false
set_option linter.unusedVariables false
open Go Am
set_option maxRecDepth 100000
def c_known14 : AFn :=
⟨(O [T 0 false]
 (O [⟨some 2, none, .q (.build [(.int .u8 0), (.int .i64 0), (.int .i64 0), (.int .i64 0)] [(0, 1, (.const (.int .u8 1))), (2, 1, (.const (.int .i64 3)))]), []⟩, ⟨some 3, none, .q (.build [(.int .u8 0), (.int .i64 0), (.int .i64 0), (.int .i64 0)] [(0, 1, (.const (.int .u8 3))), (1, 1, (.const (.int .i64 1)))]), []⟩, ⟨some 4, none, .q (.build [(.int .u8 0), (.int .i64 0), (.int .i64 0), (.int .i64 0)] [(0, 1, (.const (.int .u8 9))), (1, 1, (.const (.int .i64 1)))]), []⟩, ⟨some 5, none, .e (.lit [(.int .u8 0), (.int .i64 0), (.int .i64 0), (.int .i64 0), (.int .u8 0), (.int .i64 0), (.int .i64 0), (.int .i64 0), (.int .u8 0), (.int .i64 0), (.int .i64 0), (.int .i64 0)] 4 3 [(0, 4, (.tmp 2)), (4, 4, (.tmp 3)), (8, 4, (.tmp 4))]), []⟩, Z 4 5, ⟨some 6, none, .call 23 [(.tmp 5)], []⟩, V 1 6]
 (O [V 7 1, Ln 8 7, Bn 9 .eql 8 3, V 10 9, Gd 10 true (V 11 1), ⟨some 12, some (10, true), .q (.idxA 8 (.tmp 11) (.const (.int .i64 2))), []⟩, ⟨some 13, some (10, true), .q (.idxP 4 2 (.tmp 12) (.const (.int .i64 1))), []⟩, Gd 10 true (LA 14 2 13), ⟨some 15, some (10, true), .q (.build [(.int .u8 0), (.int .i64 0)] [(0, 1, (.const (.int .u8 1))), (1, 1, (.const (.int .i64 6)))]), []⟩, ⟨some 16, some (10, true), .q (.eqA [0, 0] false (.tmp 14) (.tmp 15)), []⟩, Pk 17 10 16 false, V 18 17, Gd 18 true (V 19 1), ⟨some 20, some (18, true), .q (.idxA 8 (.tmp 19) (.const (.int .i64 0))), []⟩, ⟨some 21, some (18, true), .q (.idxP 4 2 (.tmp 20) (.const (.int .i64 3))), []⟩, Gd 18 true (LA 22 2 21), ⟨some 23, some (18, true), .q (.build [(.int .u8 0), (.int .i64 0)] [(0, 1, (.const (.int .u8 1)))]), []⟩, ⟨some 24, some (18, true), .q (.eqA [0, 0] false (.tmp 22) (.tmp 23)), []⟩, Pk 25 18 24 false, V 26 25, ⟨some 27, some (26, true), .q (.build [(.int .u8 0), (.int .i64 0)] []), []⟩, Gd 26 true (V 28 1), ⟨some 29, some (26, true), .q (.idxA 8 (.tmp 28) (.const (.int .i64 2))), []⟩, ⟨some 30, some (26, true), .q (.idxP 4 2 (.tmp 29) (.const (.int .i64 1))), []⟩, Gd 26 true (LA 31 2 30), Gd 26 true (V 33 1), ⟨some 34, some (26, true), .q (.idxA 8 (.tmp 33) (.const (.int .i64 2))), []⟩, ⟨some 35, some (26, true), .q (.idxP 4 2 (.tmp 34) (.const (.int .i64 1))), []⟩, Gd 26 true (LA 36 2 35), ⟨some 32, some (26, true), .call 63 [(.tmp 27), (.tmp 31)], [.loadA 2 (.tmp 35)]⟩, ⟨some 37, some (26, true), .q (.eqA [0, 0] false (.tmp 32) (.tmp 36)), []⟩, Pk 38 26 37 false, V 0 38]
 .ret))), [.tmp 0], 39⟩
theorem c_known14_is : cFunc Proofs.Try.prog Proofs.Try.f24 = some (eraseF c_known14) := by kernel_rfl
theorem call_known14 {args : List Value} {h : Heap} {K : Value → Heap → Prop} (hl : args.length ≤ 39) (k : pwp Proofs.Try.prog c_known14.body (BodyK c_known14.results K) (enterF args) h) : PCall Proofs.Try.prog 24 args h K :=
  pcall_of (by kernel_rfl) (by kernel_rfl) c_known14_is (by kernel_rfl) hl k
def c_ValueMeets : AFn :=
⟨(O [T 8 false]
 (O [V 13 3, Bk 14 .rem 13 .u8 3, ⟨some 15, none, .q (.build [(.int .u8 0), (.int .i64 0)] [(0, 1, (.tmp 14))]), []⟩, ⟨some 9, none, .e (.new [(.int .u8 0), (.int .i64 0)] 2), []⟩, ⟨none, none, .e (.store 2 (.tmp 9) (.tmp 15)), []⟩]
 (O [V 16 3, Bk 17 .quo 16 .u8 3, Bk 18 .rem 17 .u8 3, ⟨some 19, none, .q (.build [(.int .u8 0), (.int .i64 0)] [(0, 1, (.tmp 18))]), []⟩, ⟨some 10, none, .e (.new [(.int .u8 0), (.int .i64 0)] 2), []⟩, ⟨none, none, .e (.store 2 (.tmp 10) (.tmp 19)), []⟩]
 (O [V 20 3, Bk 21 .quo 20 .u8 9, Bk 22 .rem 21 .u8 3, ⟨some 23, none, .q (.build [(.int .u8 0), (.int .i64 0)] [(0, 1, (.tmp 22))]), []⟩, ⟨some 11, none, .e (.new [(.int .u8 0), (.int .i64 0)] 2), []⟩, ⟨none, none, .e (.store 2 (.tmp 11) (.tmp 23)), []⟩]
 (.seq (O [FA 24 0 9, L 25 24, Bk 26 .eql 25 .u8 1]
 (.cond (.tmp 26)
 (.ops [V 27 0, Bk 28 .rem 27 .i8 3, Cv' 29 .i64 28, FA 30 1 9, S 30 29])
 .skip))
 (.seq (O [FA 31 0 10, L 32 31, Bk 33 .eql 32 .u8 1]
 (.cond (.tmp 33)
 (.ops [V 34 1, Bk 35 .rem 34 .i8 3, Cv' 36 .i64 35, FA 37 1 10, S 37 36])
 .skip))
 (.seq (O [FA 38 0 11, L 39 38, Bk 40 .eql 39 .u8 1]
 (.cond (.tmp 40)
 (.ops [V 41 2, Bk 42 .rem 41 .i8 3, Cv' 43 .i64 42, FA 44 1 11, S 44 43])
 .skip))
 (O [LA 45 2 9, LA 46 2 10, ⟨some 47, none, .call 63 [(.tmp 45), (.tmp 46)], []⟩, ⟨some 12, none, .e (.new [(.int .u8 0), (.int .i64 0)] 2), []⟩, ⟨none, none, .e (.store 2 (.tmp 12) (.tmp 47)), []⟩]
 (O [⟨some 48, none, .call 24 [], []⟩, V 49 48, Gd 49 true (LA 50 2 12), Gd 49 true (LA 51 2 10), Gd 49 true (LA 52 2 9), ⟨some 53, some (49, true), .call 63 [(.tmp 51), (.tmp 52)], [.loadA 2 (.tmp 12)]⟩, ⟨some 54, some (49, true), .q (.eqA [0, 0] false (.tmp 50) (.tmp 53)), []⟩, Pk 55 49 54 false, V 56 55, Gd 56 true (LA 57 2 9), Gd 56 true (LA 58 2 9), Gd 56 true (LA 60 2 9), ⟨some 59, some (56, true), .call 63 [(.tmp 57), (.tmp 58)], [.loadA 2 (.tmp 9)]⟩, ⟨some 61, some (56, true), .q (.eqA [0, 0] false (.tmp 59) (.tmp 60)), []⟩, Pk 62 56 61 false, V 63 62, Gd 63 true (LA 64 2 12), Gd 63 true (LA 65 2 11), Gd 63 true (LA 67 2 9), Gd 63 true (LA 68 2 10), Gd 63 true (LA 69 2 11), ⟨some 66, some (63, true), .call 63 [(.tmp 64), (.tmp 65)], [.loadA 2 (.tmp 9), .loadA 2 (.tmp 10), .loadA 2 (.tmp 11)]⟩, ⟨some 70, some (63, true), .call 63 [(.tmp 68), (.tmp 69)], [.loadA 2 (.tmp 9)]⟩, ⟨some 71, some (63, true), .call 63 [(.tmp 67), (.tmp 70)], []⟩, ⟨some 72, some (63, true), .q (.eqA [0, 0] false (.tmp 66) (.tmp 71)), []⟩, Pk 73 63 72 false, V 74 73, Gd 74 true (LA 75 2 12), Gd 74 true (LA 76 2 9), Gd 74 true (LA 78 2 12), ⟨some 77, some (74, true), .call 63 [(.tmp 75), (.tmp 76)], [.loadA 2 (.tmp 12)]⟩, ⟨some 79, some (74, true), .q (.eqA [0, 0] false (.tmp 77) (.tmp 78)), []⟩, Pk 80 74 79 false, V 81 80, Gd 81 true (FA 82 0 12), Gd 81 true (L 83 82), Gd 81 true (FA 84 0 9), Gd 81 true (L 85 84), Gd 81 true (B 86 .geq 83 85), Pk 87 81 86 false, V 88 87, Gd 88 true (FA 89 0 12), Gd 88 true (L 90 89), Gd 88 true (FA 91 0 10), Gd 88 true (L 92 91), Gd 88 true (B 93 .geq 90 92), Pk 94 88 93 false, V 8 94]
 .ret))))))))), [.tmp 8], 95⟩
def c_ValueReach : AFn :=
⟨(O [T 2 false]
 (O [V 8 0, ⟨some 9, none, .call 19 [(.tmp 8)], []⟩, F 10 6 9, ⟨some 11, none, .q (.idxA 1 (.tmp 10) (.const (.int .i64 0))), []⟩, L 12 11, V 3 12]
 (O [V 13 3, Z 4 13, ⟨some 14, none, .call 23 [(.tmp 13)], []⟩, V 4 14]
 (O [V 15 3, Z 4 15, ⟨some 16, none, .call 66 [(.tmp 15)], []⟩, Z 1 16, ⟨some 17, none, .call 51 [(.tmp 16)], []⟩, V 5 17]
 (.seq (O [V 18 4, Ln 19 18, V 20 3, Ln 21 20, B 22 .neq 19 21]
 (.cond (.tmp 22)
 (O [T 2 false]
 .ret)
 .skip))
 (.seq (O [N 6 0]
 (.block 0 (.loop (.seq (O [V 23 6, V 24 4, Ln 25 24, B 26 .lss 23 25]
 (.cond (.tmp 26)
 .skip
 (.exit 0)))
 (.seq (.block 1 (O [N 7 0]
 (.block 2 (.loop (.seq (O [V 29 7, Bn 30 .lss 29 4]
 (.cond (.tmp 30)
 .skip
 (.exit 2)))
 (.seq (.block 3 (O [V 33 4, V 34 6, V 35 7, X 36 8 33 34, ⟨some 37, none, .q (.idxP 4 2 (.tmp 36) (.tmp 35)), []⟩, FA 38 0 37, L 39 38, Bk 40 .eql 39 .u8 0, V 41 5, V 42 6, X 43 1 41 42, L 44 43, ⟨some 45, none, .q (.eqB false (.tmp 40) (.tmp 44)), []⟩]
 (.cond (.tmp 45)
 (O [T 2 false]
 .ret)
 .skip)))
 (.ops [V 31 7, Bn 32 .add 31 1, V 7 32])))))))
 (.ops [V 27 6, Bn 28 .add 27 1, V 6 28]))))))
 (O [⟨some 46, none, .call 24 [], []⟩, V 2 46]
 .ret))))))), [.tmp 2], 47⟩
def c_ValueStraight : AFn :=
⟨(O [T 2 false]
 (O [E 3]
 (O [⟨some 13, none, .q (.build [(.int .i64 0), (.int .i64 0), (.int .i64 0), (.int .i64 0)] []), []⟩, ⟨some 4, none, .e (.new [(.int .i64 0), (.int .i64 0), (.int .i64 0), (.int .i64 0)] 1), []⟩, ⟨none, none, .e (.store 4 (.tmp 4) (.tmp 13)), []⟩]
 (O [⟨some 14, none, .e (.lit [(.int .u8 0), (.int .u8 0), (.int .u8 0), (.int .u8 0), (.int .u8 0), (.int .u8 0)] 1 6 [(0, 1, (.const (.int .u8 1))), (1, 1, (.const (.int .u8 2))), (2, 1, (.const (.int .u8 3))), (3, 1, (.const (.int .u8 4))), (4, 1, (.const (.int .u8 5))), (5, 1, (.const (.int .u8 6)))]), []⟩, V 5 14]
 (.seq (O [N 6 0]
 (.block 0 (.loop (.seq (O [V 15 6, Bn 16 .add 15 1, V 17 0, Ln 18 17, B 19 .lss 16 18, V 20 19, Gd 20 true (V 21 6), Gd 20 true (Bn 22 .lss 21 40), Pk 23 20 22 false]
 (.cond (.tmp 23)
 .skip
 (.exit 0)))
 (.seq (.block 1 (O [V 26 5, V 27 0, V 28 6, X 29 1 27 28, L 30 29, Bk 31 .rem 30 .u8 6, X 32 1 26 31, L 33 32, V 34 0, V 35 6, Bn 36 .add 35 1, X 37 1 34 36, L 38 37, Bk 39 .rem 38 .u8 4, Cv' 40 .i64 39, V 41 0, V 42 6, Bn 43 .add 42 1, X 44 1 41 43, L 45 44, Bk 46 .quo 45 .u8 4, Bk 47 .rem 46 .u8 4, Cv' 48 .i64 47, ⟨some 49, none, .q (.build [(.int .u8 0), (.int .i64 0), (.int .i64 0), (.int .i64 0)] [(0, 1, (.tmp 33)), (1, 1, (.tmp 40)), (2, 1, (.tmp 48))]), []⟩, ⟨some 7, none, .e (.new [(.int .u8 0), (.int .i64 0), (.int .i64 0), (.int .i64 0)] 4), []⟩, ⟨none, none, .e (.store 4 (.tmp 7) (.tmp 49)), []⟩]
 (.seq (O [FA 50 0 7, L 51 50, Bk 52 .neq 51 .u8 1, V 53 52, Gd 53 true (FA 54 0 7), Gd 53 true (L 55 54), Gd 53 true (Bk 56 .neq 55 .u8 2), Pk 57 53 56 false]
 (.cond (.tmp 57)
 (.ops [V 58 0, V 59 6, Bn 60 .add 59 1, X 61 1 58 60, L 62 61, Bk 63 .quo 62 .u8 16, Bk 64 .rem 63 .u8 4, Cv' 65 .i64 64, FA 66 3 7, S 66 65])
 .skip))
 (.ops [V 67 3, LA 68 4 7, ⟨some 69, none, .e (.lit [(.int .u8 0), (.int .i64 0), (.int .i64 0), (.int .i64 0)] 4 1 [(0, 4, (.tmp 68))]), []⟩, Ap 70 4 67 69, V 3 70]))))
 (.ops [V 24 6, Bn 25 .add 24 2, V 6 25]))))))
 (O [V 71 3, ⟨some 72, none, .q (.build [(.int .u8 0), (.int .i64 0), (.int .i64 0), (.int .i64 0)] []), []⟩, ⟨some 73, none, .e (.lit [(.int .u8 0), (.int .i64 0), (.int .i64 0), (.int .i64 0)] 4 1 [(0, 4, (.tmp 72))]), []⟩, Ap 74 4 71 73, V 3 74]
 (O [V 75 3, Z 4 75, ⟨some 76, none, .call 23 [(.tmp 75)], []⟩, V 8 76]
 (.seq (O [V 77 8, Ln 78 77, V 79 3, Ln 80 79, B 81 .neq 78 80]
 (.cond (.tmp 81)
 (O [T 2 false]
 .ret)
 .skip))
 (.seq (O [N 9 0]
 (.block 2 (.loop (.seq (O [V 82 9, V 83 3, Ln 84 83, B 85 .lss 82 84]
 (.cond (.tmp 85)
 .skip
 (.exit 2)))
 (.seq (.block 3 (.seq (O [N 10 0]
 (.block 4 (.loop (.seq (O [V 88 10, Bn 89 .lss 88 4]
 (.cond (.tmp 89)
 .skip
 (.exit 4)))
 (.seq (.block 5 (O [V 92 8, V 93 9, V 94 10, X 95 8 92 93, ⟨some 96, none, .q (.idxP 4 2 (.tmp 95) (.tmp 94)), []⟩, LA 97 2 96, V 98 10, ⟨some 99, none, .q (.idxP 4 1 (.tmp 4) (.tmp 98)), []⟩, L 100 99, ⟨some 101, none, .q (.build [(.int .u8 0), (.int .i64 0)] [(0, 1, (.const (.int .u8 1))), (1, 1, (.tmp 100))]), []⟩, ⟨some 102, none, .q (.eqA [0, 0] true (.tmp 97) (.tmp 101)), []⟩]
 (.cond (.tmp 102)
 (O [T 2 false]
 .ret)
 .skip)))
 (.ops [V 90 10, Bn 91 .add 90 1, V 10 91]))))))
 (O [V 103 3, V 104 9, X 105 4 103 104, LA 106 4 105, ⟨some 11, none, .e (.new [(.int .u8 0), (.int .i64 0), (.int .i64 0), (.int .i64 0)] 4), []⟩, ⟨none, none, .e (.store 4 (.tmp 11) (.tmp 106)), []⟩]
 (O [FA 107 1 11, L 108 107, ⟨some 109, none, .q (.idxP 4 1 (.tmp 4) (.tmp 108)), []⟩, L 110 109, V 12 110]
 (.seq (O [FA 111 0 11, L 112 111]
 (.block 6 (O [Bk 114 .eql 112 .u8 1, V 113 114]
 (.cond (.tmp 113)
 (.ops [FA 115 2 11, L 116 115, V 12 116])
 (O [Bk 118 .eql 112 .u8 2, V 117 118]
 (.cond (.tmp 117)
 (.ops [FA 119 2 11, L 120 119, ⟨some 121, none, .q (.idxP 4 1 (.tmp 4) (.tmp 120)), []⟩, L 122 121, V 12 122])
 (O [Bk 124 .eql 112 .u8 3, V 123 124]
 (.cond (.tmp 123)
 (.ops [FA 125 2 11, L 126 125, ⟨some 127, none, .q (.idxP 4 1 (.tmp 4) (.tmp 126)), []⟩, L 128 127, FA 129 3 11, L 130 129, ⟨some 131, none, .q (.idxP 4 1 (.tmp 4) (.tmp 130)), []⟩, L 132 131, B 133 .add 128 132, V 12 133])
 (O [Bk 135 .eql 112 .u8 4, V 134 135]
 (.cond (.tmp 134)
 (.ops [FA 136 2 11, L 137 136, ⟨some 138, none, .q (.idxP 4 1 (.tmp 4) (.tmp 137)), []⟩, L 139 138, FA 140 3 11, L 141 140, ⟨some 142, none, .q (.idxP 4 1 (.tmp 4) (.tmp 141)), []⟩, L 143 142, B 144 .sub 139 143, V 12 144])
 (O [Bk 146 .eql 112 .u8 5, V 145 146]
 (.cond (.tmp 145)
 (.ops [FA 147 2 11, L 148 147, ⟨some 149, none, .q (.idxP 4 1 (.tmp 4) (.tmp 148)), []⟩, L 150 149, FA 151 3 11, L 152 151, ⟨some 153, none, .q (.idxP 4 1 (.tmp 4) (.tmp 152)), []⟩, L 154 153, B 155 .mul 150 154, V 12 155])
 (O [Bk 157 .eql 112 .u8 6, V 156 157]
 (.cond (.tmp 156)
 (O [N 12 0]
 (O [FA 158 2 11, L 159 158, ⟨some 160, none, .q (.idxP 4 1 (.tmp 4) (.tmp 159)), []⟩, L 161 160, FA 162 3 11, L 163 162, ⟨some 164, none, .q (.idxP 4 1 (.tmp 4) (.tmp 163)), []⟩, L 165 164, B 166 .lss 161 165]
 (.cond (.tmp 166)
 (.ops [N 12 1])
 .skip)))
 .skip))))))))))))))
 (.ops [FA 167 1 11, L 168 167, V 169 12, ⟨some 170, none, .q (.idxP 4 1 (.tmp 4) (.tmp 168)), []⟩, S 170 169]))))))
 (.ops [V 86 9, Bn 87 .add 86 1, V 9 87]))))))
 (O [⟨some 171, none, .call 24 [], []⟩, V 2 171]
 .ret)))))))))), [.tmp 2], 172⟩
end Pm
