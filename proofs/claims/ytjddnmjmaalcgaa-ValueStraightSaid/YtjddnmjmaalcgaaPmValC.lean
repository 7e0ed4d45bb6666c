/- Codes of the program's functions, as a program printed them, and that they are what the program's functions are compiled to.
   No condition: plain facts. -/
import Derived.Test.YtjddnmjmaalcgaaPm5
import Derived.Test.YtjddnmjmaalcgaaProg
import Derived.KernelRfl
namespace Pm
set_option linter.unusedSimpArgs false
set_option linter.unusedVariables false
open Go Am
set_option maxRecDepth 100000
def c_vMeet : AFn :=
⟨(O [⟨some 2, none, .e (.box 2 2 (.tmp 0)), []⟩, ⟨some 3, none, .e (.box 2 2 (.tmp 1)), []⟩, ⟨some 4, none, .e (.new [(.int .u8 0), (.int .i64 0)] 2), []⟩]
 (O [LA 5 2 2, LA 7 2 3, ⟨some 6, none, .call 55 [(.tmp 5)], [.loadA 2 (.tmp 3)]⟩, ⟨some 8, none, .call 55 [(.tmp 7)], []⟩, ⟨none, none, .e (.store 2 (.tmp 2) (.tmp 6)), []⟩, ⟨none, none, .e (.store 2 (.tmp 3) (.tmp 8)), []⟩]
 (.seq (.block 0 (O [FA 10 0 2, L 11 10, Bk 12 .eql 11 .u8 0, V 9 12]
 (.cond (.tmp 9)
 (O [LA 13 2 3, ⟨none, none, .e (.store 2 (.tmp 4) (.tmp 13)), []⟩]
 .ret)
 (.seq (O [FA 15 0 3, L 16 15, Bk 17 .eql 16 .u8 0, V 14 17]
 (.cond (.tmp 14)
 .skip
 (.ops [LA 18 2 2, LA 19 2 3, ⟨some 20, none, .q (.eqA [0, 0] false (.tmp 18) (.tmp 19)), []⟩, V 14 20])))
 (.cond (.tmp 14)
 (O [LA 21 2 2, ⟨none, none, .e (.store 2 (.tmp 4) (.tmp 21)), []⟩]
 .ret)
 .skip)))))
 (O [⟨some 22, none, .q (.build [(.int .u8 0), (.int .i64 0)] [(0, 1, (.const (.int .u8 2)))]), []⟩, ⟨none, none, .e (.store 2 (.tmp 4) (.tmp 22)), []⟩]
 .ret)))), [.cells 4 2], 23⟩
theorem c_vMeet_is : cFunc Proofs.Try.prog Proofs.Try.f32 = some (eraseF c_vMeet) := by kernel_rfl
theorem call_vMeet {args : List Value} {h : Heap} {K : Value → Heap → Prop} (hl : args.length ≤ 23) (k : pwp Proofs.Try.prog c_vMeet.body (BodyK c_vMeet.results K) (enterF args) h) : PCall Proofs.Try.prog 32 args h K :=
  pcall_of (by kernel_rfl) (by kernel_rfl) c_vMeet_is (by kernel_rfl) hl k
def c_vBare : AFn :=
⟨(O [⟨some 1, none, .e (.box 2 2 (.tmp 0)), []⟩, ⟨some 2, none, .e (.new [(.int .u8 0), (.int .i64 0)] 2), []⟩]
 (.seq (O [FA 3 0 1, L 4 3]
 (.block 0 (O [Bk 6 .eql 4 .u8 0, V 5 6]
 (.cond (.tmp 5)
 (O [⟨some 7, none, .q (.build [(.int .u8 0), (.int .i64 0)] []), []⟩, ⟨none, none, .e (.store 2 (.tmp 2) (.tmp 7)), []⟩]
 .ret)
 (O [Bk 9 .eql 4 .u8 1, V 8 9]
 (.cond (.tmp 8)
 (O [LA 10 2 1, ⟨none, none, .e (.store 2 (.tmp 2) (.tmp 10)), []⟩]
 .ret)
 .skip))))))
 (O [⟨some 11, none, .q (.build [(.int .u8 0), (.int .i64 0)] [(0, 1, (.const (.int .u8 2)))]), []⟩, ⟨none, none, .e (.store 2 (.tmp 2) (.tmp 11)), []⟩]
 .ret))), [.cells 2 2], 12⟩
theorem c_vBare_is : cFunc Proofs.Try.prog Proofs.Try.f55 = some (eraseF c_vBare) := by kernel_rfl
theorem call_vBare {args : List Value} {h : Heap} {K : Value → Heap → Prop} (hl : args.length ≤ 12) (k : pwp Proofs.Try.prog c_vBare.body (BodyK c_vBare.results K) (enterF args) h) : PCall Proofs.Try.prog 55 args h K :=
  pcall_of (by kernel_rfl) (by kernel_rfl) c_vBare_is (by kernel_rfl) hl k
def c_vOne : AFn :=
⟨(O [⟨some 2, none, .e (.new [(.int .u8 0), (.int .i64 0)] 2), []⟩]
 (O [V 3 0, ⟨some 4, none, .q (.build [(.int .u8 0), (.int .i64 0)] [(0, 1, (.const (.int .u8 1))), (1, 1, (.tmp 3))]), []⟩, ⟨none, none, .e (.store 2 (.tmp 2) (.tmp 4)), []⟩]
 .ret)), [.cells 2 2], 5⟩
theorem c_vOne_is : cFunc Proofs.Try.prog Proofs.Try.f45 = some (eraseF c_vOne) := by kernel_rfl
theorem call_vOne {args : List Value} {h : Heap} {K : Value → Heap → Prop} (hl : args.length ≤ 5) (k : pwp Proofs.Try.prog c_vOne.body (BodyK c_vOne.results K) (enterF args) h) : PCall Proofs.Try.prog 45 args h K :=
  pcall_of (by kernel_rfl) (by kernel_rfl) c_vOne_is (by kernel_rfl) hl k
def c_vGet : AFn :=
⟨(O [⟨some 2, none, .e (.box 8 2 (.tmp 0)), []⟩, ⟨some 4, none, .e (.new [(.int .u8 0), (.int .i64 0)] 2), []⟩]
 (.seq (O [V 5 1, Bn 6 .lss 5 0, V 7 6, Gd 7 false (V 8 1), Gd 7 false (Bn 9 .geq 8 4), ⟨some 10, none, .q (.pick (.tmp 7) (.const (.bool true)) (.tmp 9)), []⟩]
 (.cond (.tmp 10)
 (O [⟨some 11, none, .q (.build [(.int .u8 0), (.int .i64 0)] []), []⟩, ⟨none, none, .e (.store 2 (.tmp 4) (.tmp 11)), []⟩]
 .ret)
 .skip))
 (O [V 12 1, ⟨some 13, none, .q (.idxP 4 2 (.tmp 2) (.tmp 12)), []⟩, LA 14 2 13, ⟨some 15, none, .call 55 [(.tmp 14)], []⟩, ⟨none, none, .e (.store 2 (.tmp 4) (.tmp 15)), []⟩]
 .ret))), [.cells 4 2], 16⟩
theorem c_vGet_is : cFunc Proofs.Try.prog Proofs.Try.f62 = some (eraseF c_vGet) := by kernel_rfl
theorem call_vGet {args : List Value} {h : Heap} {K : Value → Heap → Prop} (hl : args.length ≤ 16) (k : pwp Proofs.Try.prog c_vGet.body (BodyK c_vGet.results K) (enterF args) h) : PCall Proofs.Try.prog 62 args h K :=
  pcall_of (by kernel_rfl) (by kernel_rfl) c_vGet_is (by kernel_rfl) hl k
def c_vReckon : AFn :=
⟨(O [⟨some 4, none, .e (.box 2 2 (.tmp 1)), []⟩, ⟨some 5, none, .e (.box 2 2 (.tmp 2)), []⟩, ⟨some 6, none, .e (.new [(.int .u8 0), (.int .i64 0)] 2), []⟩]
 (.seq (.block 0 (O [FA 8 0 4, L 9 8, Bk 10 .eql 9 .u8 0, V 11 10, Gd 11 false (FA 12 0 5), Gd 11 false (L 13 12), Gd 11 false (Bk 14 .eql 13 .u8 0), ⟨some 15, none, .q (.pick (.tmp 11) (.const (.bool true)) (.tmp 14)), []⟩, V 7 15]
 (.cond (.tmp 7)
 (O [⟨some 16, none, .q (.build [(.int .u8 0), (.int .i64 0)] []), []⟩, ⟨none, none, .e (.store 2 (.tmp 6) (.tmp 16)), []⟩]
 .ret)
 (O [FA 18 0 4, L 19 18, Bk 20 .eql 19 .u8 2, V 21 20, Gd 21 false (FA 22 0 5), Gd 21 false (L 23 22), Gd 21 false (Bk 24 .eql 23 .u8 2), ⟨some 25, none, .q (.pick (.tmp 21) (.const (.bool true)) (.tmp 24)), []⟩, V 17 25]
 (.cond (.tmp 17)
 (O [⟨some 26, none, .q (.build [(.int .u8 0), (.int .i64 0)] [(0, 1, (.const (.int .u8 2)))]), []⟩, ⟨none, none, .e (.store 2 (.tmp 6) (.tmp 26)), []⟩]
 .ret)
 .skip)))))
 (.seq (O [V 27 0]
 (.block 1 (O [Bk 29 .eql 27 .u8 3, V 28 29]
 (.cond (.tmp 28)
 (O [FA 30 1 4, L 31 30, FA 32 1 5, L 33 32, B 34 .add 31 33, ⟨some 35, none, .call 45 [(.tmp 34)], []⟩, ⟨none, none, .e (.store 2 (.tmp 6) (.tmp 35)), []⟩]
 .ret)
 (O [Bk 37 .eql 27 .u8 4, V 36 37]
 (.cond (.tmp 36)
 (O [FA 38 1 4, L 39 38, FA 40 1 5, L 41 40, B 42 .sub 39 41, ⟨some 43, none, .call 45 [(.tmp 42)], []⟩, ⟨none, none, .e (.store 2 (.tmp 6) (.tmp 43)), []⟩]
 .ret)
 (O [Bk 45 .eql 27 .u8 5, V 44 45]
 (.cond (.tmp 44)
 (O [FA 46 1 4, L 47 46, FA 48 1 5, L 49 48, B 50 .mul 47 49, ⟨some 51, none, .call 45 [(.tmp 50)], []⟩, ⟨none, none, .e (.store 2 (.tmp 6) (.tmp 51)), []⟩]
 .ret)
 .skip))))))))
 (.seq (O [FA 52 1 4, L 53 52, FA 54 1 5, L 55 54, B 56 .lss 53 55]
 (.cond (.tmp 56)
 (O [⟨some 57, none, .call 45 [(.const (.int .i64 1))], []⟩, ⟨none, none, .e (.store 2 (.tmp 6) (.tmp 57)), []⟩]
 .ret)
 .skip))
 (O [⟨some 58, none, .call 45 [(.const (.int .i64 0))], []⟩, ⟨none, none, .e (.store 2 (.tmp 6) (.tmp 58)), []⟩]
 .ret))))), [.cells 6 2], 59⟩
theorem c_vReckon_is : cFunc Proofs.Try.prog Proofs.Try.f63 = some (eraseF c_vReckon) := by kernel_rfl
theorem call_vReckon {args : List Value} {h : Heap} {K : Value → Heap → Prop} (hl : args.length ≤ 59) (k : pwp Proofs.Try.prog c_vReckon.body (BodyK c_vReckon.results K) (enterF args) h) : PCall Proofs.Try.prog 63 args h K :=
  pcall_of (by kernel_rfl) (by kernel_rfl) c_vReckon_is (by kernel_rfl) hl k
def c_vmeet : AFn :=
⟨(O [⟨some 2, none, .e (.box 8 2 (.tmp 0)), []⟩, ⟨some 3, none, .e (.box 8 2 (.tmp 1)), []⟩, ⟨some 4, none, .e (.new [(.int .u8 0), (.int .i64 0), (.int .u8 0), (.int .i64 0), (.int .u8 0), (.int .i64 0), (.int .u8 0), (.int .i64 0)] 2), []⟩]
 (.seq (O [N 6 0]
 (.block 0 (.loop (O [Bn 7 .lss 6 4]
 (.seq (.cond (.tmp 7)
 .skip
 (.exit 0))
 (.seq (.block 1 (O [V 8 6, V 5 8]
 (.ops [V 9 5, V 10 5, ⟨some 11, none, .q (.idxP 4 2 (.tmp 2) (.tmp 10)), []⟩, LA 12 2 11, V 13 5, ⟨some 14, none, .q (.idxP 4 2 (.tmp 3) (.tmp 13)), []⟩, LA 15 2 14, ⟨some 16, none, .call 32 [(.tmp 12), (.tmp 15)], []⟩, ⟨some 17, none, .q (.idxP 4 2 (.tmp 2) (.tmp 9)), []⟩, ⟨none, none, .e (.store 2 (.tmp 17) (.tmp 16)), []⟩])))
 (.ops [Bn 18 .add 6 1, V 6 18])))))))
 (O [LA 19 8 2, ⟨none, none, .e (.store 8 (.tmp 4) (.tmp 19)), []⟩]
 .ret))), [.cells 4 8], 20⟩
theorem c_vmeet_is : cFunc Proofs.Try.prog Proofs.Try.f47 = some (eraseF c_vmeet) := by kernel_rfl
theorem call_vmeet {args : List Value} {h : Heap} {K : Value → Heap → Prop} (hl : args.length ≤ 20) (k : pwp Proofs.Try.prog c_vmeet.body (BodyK c_vmeet.results K) (enterF args) h) : PCall Proofs.Try.prog 47 args h K :=
  pcall_of (by kernel_rfl) (by kernel_rfl) c_vmeet_is (by kernel_rfl) hl k
def c_vDo : AFn :=
⟨(O [⟨some 2, none, .e (.box 4 4 (.tmp 0)), []⟩, ⟨some 3, none, .e (.box 8 2 (.tmp 1)), []⟩, ⟨some 4, none, .e (.new [(.int .u8 0), (.int .i64 0), (.int .u8 0), (.int .i64 0), (.int .u8 0), (.int .i64 0), (.int .u8 0), (.int .i64 0)] 2), []⟩]
 (O [⟨some 9, none, .q (.build [(.int .u8 0), (.int .i64 0)] [(0, 1, (.const (.int .u8 2)))]), []⟩, ⟨some 5, none, .e (.new [(.int .u8 0), (.int .i64 0)] 2), []⟩, ⟨none, none, .e (.store 2 (.tmp 5) (.tmp 9)), []⟩]
 (.seq (O [FA 10 0 2, L 11 10]
 (.block 0 (O [Bk 13 .eql 11 .u8 1, V 12 13]
 (.cond (.tmp 12)
 (.ops [FA 14 2 2, L 15 14, ⟨some 16, none, .call 45 [(.tmp 15)], []⟩, ⟨none, none, .e (.store 2 (.tmp 5) (.tmp 16)), []⟩])
 (O [Bk 18 .eql 11 .u8 2, V 17 18]
 (.cond (.tmp 17)
 (.ops [LA 19 8 3, FA 20 2 2, L 21 20, ⟨some 22, none, .call 62 [(.tmp 19), (.tmp 21)], []⟩, ⟨none, none, .e (.store 2 (.tmp 5) (.tmp 22)), []⟩])
 (.seq (O [Bk 24 .eql 11 .u8 3, V 23 24]
 (.cond (.tmp 23)
 .skip
 (O [Bk 25 .eql 11 .u8 4, V 23 25]
 (.cond (.tmp 23)
 .skip
 (O [Bk 26 .eql 11 .u8 5, V 23 26]
 (.cond (.tmp 23)
 .skip
 (.ops [Bk 27 .eql 11 .u8 6, V 23 27])))))))
 (.cond (.tmp 23)
 (.ops [FA 28 0 2, L 29 28, LA 30 8 3, FA 31 2 2, L 32 31, LA 34 8 3, FA 35 3 2, L 36 35, ⟨some 33, none, .call 62 [(.tmp 30), (.tmp 32)], [.load (.tmp 28), .loadA 8 (.tmp 3), .load (.tmp 35)]⟩, ⟨some 37, none, .call 62 [(.tmp 34), (.tmp 36)], [.load (.tmp 28)]⟩, ⟨some 38, none, .call 63 [(.tmp 29), (.tmp 33), (.tmp 37)], []⟩, ⟨none, none, .e (.store 2 (.tmp 5) (.tmp 38)), []⟩])
 .skip))))))))
 (O [LA 39 4 2, ⟨some 40, none, .call 64 [(.tmp 39)], []⟩, V 6 40]
 (.seq (O [LA 41 8 3, N 42 0]
 (.block 1 (.loop (O [Bn 43 .lss 42 4]
 (.seq (.cond (.tmp 43)
 .skip
 (.exit 1))
 (.seq (.block 2 (O [V 44 42, ⟨some 45, none, .q (.idx (some 2) 4 2 (.tmp 41) (.tmp 42)), []⟩, ⟨some 8, none, .e (.new [(.int .u8 0), (.int .i64 0)] 2), []⟩, V 7 44, ⟨none, none, .e (.store 2 (.tmp 8) (.tmp 45)), []⟩]
 (O [V 46 7, LA 47 2 8, ⟨some 48, none, .call 55 [(.tmp 47)], []⟩, ⟨some 49, none, .q (.idxP 4 2 (.tmp 3) (.tmp 46)), []⟩, ⟨none, none, .e (.store 2 (.tmp 49) (.tmp 48)), []⟩]
 (O [V 50 6, V 51 7, ⟨some 52, none, .call 65 [(.tmp 50), (.tmp 51)], []⟩]
 (.cond (.tmp 52)
 (.ops [V 53 7, LA 54 2 5, ⟨some 55, none, .q (.idxP 4 2 (.tmp 3) (.tmp 53)), []⟩, ⟨none, none, .e (.store 2 (.tmp 55) (.tmp 54)), []⟩])
 .skip)))))
 (.ops [Bn 56 .add 42 1, V 42 56])))))))
 (O [LA 57 8 3, ⟨none, none, .e (.store 8 (.tmp 4) (.tmp 57)), []⟩]
 .ret)))))), [.cells 4 8], 58⟩
theorem c_vDo_is : cFunc Proofs.Try.prog Proofs.Try.f46 = some (eraseF c_vDo) := by kernel_rfl
theorem call_vDo {args : List Value} {h : Heap} {K : Value → Heap → Prop} (hl : args.length ≤ 58) (k : pwp Proofs.Try.prog c_vDo.body (BodyK c_vDo.results K) (enterF args) h) : PCall Proofs.Try.prog 46 args h K :=
  pcall_of (by kernel_rfl) (by kernel_rfl) c_vDo_is (by kernel_rfl) hl k
def c_vOf : AFn :=
⟨(O [E 2]
 (O [V 13 0, ⟨some 14, none, .call 19 [(.tmp 13)], []⟩, V 3 14]
 (O [V 15 0, Ln 16 15, ⟨some 17, none, .e (.make [(.int .u8 0), (.int .i64 0), (.int .u8 0), (.int .i64 0), (.int .u8 0), (.int .i64 0), (.int .u8 0), (.int .i64 0)] 8 (.tmp 16) (.tmp 16)), []⟩, V 4 17]
 (.seq (O [V 18 0, Ln 19 18, Bn 20 .eql 19 0]
 (.cond (.tmp 20)
 (O [V 21 4, V 2 21]
 .ret)
 .skip))
 (O [V 22 0, Ln 23 22, ⟨some 24, none, .e (.make [(.bool false)] 1 (.tmp 23) (.tmp 23)), []⟩, V 5 24]
 (.seq (O [N 25 0]
 (.block 0 (.loop (O [Bn 26 .lss 25 4]
 (.seq (.cond (.tmp 26)
 .skip
 (.exit 0))
 (.seq (.block 1 (O [V 27 25, V 6 27]
 (.ops [V 28 4, V 29 6, ⟨some 31, none, .q (.idxA 8 (.tmp 28) (.const (.int .i64 0))), []⟩, ⟨some 30, none, .call 45 [(.const (.int .i64 0))], []⟩, ⟨some 32, none, .q (.idxP 4 2 (.tmp 31) (.tmp 29)), []⟩, ⟨none, none, .e (.store 2 (.tmp 32) (.tmp 30)), []⟩])))
 (.ops [Bn 33 .add 25 1, V 25 33])))))))
 (O [⟨some 34, none, .e (.lit [(.int .i64 0)] 1 1 [(0, 1, (.const (.int .i64 0)))]), []⟩, V 7 34]
 (.seq (.block 2 (.loop (.seq (O [V 35 7, Ln 36 35, Bn 37 .gtr 36 0]
 (.cond (.tmp 37)
 .skip
 (.exit 2)))
 (.block 3 (O [V 38 7, ⟨some 39, none, .q (.idxA 1 (.tmp 38) (.const (.int .i64 0))), []⟩, L 40 39, V 8 40]
 (O [V 41 7, ⟨some 42, none, .q (.cut 1 (.tmp 41) (some (.const (.int .i64 1))) none), []⟩, V 7 42]
 (O [V 43 0, V 44 8, X 45 4 43 44, LA 46 4 45, V 47 4, V 48 8, X 49 8 47 48, LA 50 8 49, ⟨some 51, none, .call 46 [(.tmp 46), (.tmp 50)], []⟩, ⟨some 9, none, .e (.new [(.int .u8 0), (.int .i64 0), (.int .u8 0), (.int .i64 0), (.int .u8 0), (.int .i64 0), (.int .u8 0), (.int .i64 0)] 2), []⟩, ⟨none, none, .e (.store 8 (.tmp 9) (.tmp 51)), []⟩]
 (O [V 52 3, V 53 8, X 54 1 52 53, L 55 54, Ln 56 55, N 57 0]
 (.block 4 (.loop (O [B 58 .lss 57 56]
 (.seq (.cond (.tmp 58)
 .skip
 (.exit 4))
 (.seq (.block 5 (O [X 59 1 55 57, L 60 59, V 11 60]
 (.seq (O [V 61 11, Bn 62 .lss 61 0, V 63 62, Gd 63 false (V 64 11), Gd 63 false (V 65 0), Gd 63 false (Ln 66 65), Gd 63 false (B 67 .geq 64 66), ⟨some 68, none, .q (.pick (.tmp 63) (.const (.bool true)) (.tmp 67)), []⟩]
 (.cond (.tmp 68)
 (.exit 5)
 .skip))
 (O [V 69 4, V 70 11, X 71 8 69 70, LA 72 8 71, LA 73 8 9, ⟨some 74, none, .call 47 [(.tmp 72), (.tmp 73)], []⟩, ⟨some 12, none, .e (.new [(.int .u8 0), (.int .i64 0), (.int .u8 0), (.int .i64 0), (.int .u8 0), (.int .i64 0), (.int .u8 0), (.int .i64 0)] 2), []⟩, ⟨none, none, .e (.store 8 (.tmp 12) (.tmp 74)), []⟩]
 (O [LA 75 8 12, V 76 4, V 77 11, X 78 8 76 77, LA 79 8 78, ⟨some 80, none, .q (.eqA [0, 0, 0, 0, 0, 0, 0, 0] true (.tmp 75) (.tmp 79)), []⟩, V 81 80, Gd 81 false (V 82 5), Gd 81 false (V 83 11), Gd 81 false (X 84 1 82 83), Gd 81 false (L 85 84), Gd 81 false (Nt 86 85), ⟨some 87, none, .q (.pick (.tmp 81) (.const (.bool true)) (.tmp 86)), []⟩]
 (.cond (.tmp 87)
 (O [V 88 4, V 89 11, V 90 5, V 91 11, LA 92 8 12, X 93 8 88 89, ⟨none, none, .e (.store 8 (.tmp 93) (.tmp 92)), []⟩, X 94 1 90 91, ⟨none, none, .e (.store 1 (.tmp 94) (.const (.bool true))), []⟩]
 (.ops [V 95 7, V 96 11, ⟨some 97, none, .e (.lit [(.int .i64 0)] 1 1 [(0, 1, (.tmp 96))]), []⟩, Ap 98 1 95 97, V 7 98]))
 .skip))))))
 (.ops [Bn 99 .add 57 1, V 57 99]))))))))))))))
 (O [V 100 4, V 2 100]
 .ret))))))))), [.tmp 2], 101⟩
theorem c_vOf_is : cFunc Proofs.Try.prog Proofs.Try.f25 = some (eraseF c_vOf) := by kernel_rfl
theorem call_vOf {args : List Value} {h : Heap} {K : Value → Heap → Prop} (hl : args.length ≤ 101) (k : pwp Proofs.Try.prog c_vOf.body (BodyK c_vOf.results K) (enterF args) h) : PCall Proofs.Try.prog 25 args h K :=
  pcall_of (by kernel_rfl) (by kernel_rfl) c_vOf_is (by kernel_rfl) hl k
def c_rPlain : AFn :=
⟨(O [⟨some 1, none, .e (.box 2 2 (.tmp 0)), []⟩, ⟨some 2, none, .e (.new [(.int .u8 0), (.int .i64 0)] 2), []⟩]
 (.seq (O [FA 3 0 1, L 4 3, Bk 5 .eql 4 .u8 1]
 (.cond (.tmp 5)
 (O [LA 6 2 1, ⟨none, none, .e (.store 2 (.tmp 2) (.tmp 6)), []⟩]
 .ret)
 .skip))
 (.seq (O [FA 7 0 1, L 8 7, Bk 9 .eql 8 .u8 0]
 (.cond (.tmp 9)
 (O [⟨some 10, none, .q (.build [(.int .u8 0), (.int .i64 0)] []), []⟩, ⟨none, none, .e (.store 2 (.tmp 2) (.tmp 10)), []⟩]
 .ret)
 .skip))
 (O [⟨some 11, none, .q (.build [(.int .u8 0), (.int .i64 0)] [(0, 1, (.const (.int .u8 2)))]), []⟩, ⟨none, none, .e (.store 2 (.tmp 2) (.tmp 11)), []⟩]
 .ret)))), [.cells 2 2], 12⟩
theorem c_rPlain_is : cFunc Proofs.Try.prog Proofs.Try.f67 = some (eraseF c_rPlain) := by kernel_rfl
theorem call_rPlain {args : List Value} {h : Heap} {K : Value → Heap → Prop} (hl : args.length ≤ 12) (k : pwp Proofs.Try.prog c_rPlain.body (BodyK c_rPlain.results K) (enterF args) h) : PCall Proofs.Try.prog 67 args h K :=
  pcall_of (by kernel_rfl) (by kernel_rfl) c_rPlain_is (by kernel_rfl) hl k
def c_rMeet : AFn :=
⟨(O [⟨some 2, none, .e (.box 2 2 (.tmp 0)), []⟩, ⟨some 3, none, .e (.box 2 2 (.tmp 1)), []⟩, ⟨some 4, none, .e (.new [(.int .u8 0), (.int .i64 0)] 2), []⟩]
 (O [LA 7 2 2, ⟨some 8, none, .call 67 [(.tmp 7)], []⟩, ⟨some 5, none, .e (.new [(.int .u8 0), (.int .i64 0)] 2), []⟩, ⟨none, none, .e (.store 2 (.tmp 5) (.tmp 8)), []⟩]
 (O [LA 9 2 3, ⟨some 10, none, .call 67 [(.tmp 9)], []⟩, ⟨some 6, none, .e (.new [(.int .u8 0), (.int .i64 0)] 2), []⟩, ⟨none, none, .e (.store 2 (.tmp 6) (.tmp 10)), []⟩]
 (.seq (O [FA 11 0 5, L 12 11, Bk 13 .eql 12 .u8 0]
 (.cond (.tmp 13)
 (O [LA 14 2 6, ⟨none, none, .e (.store 2 (.tmp 4) (.tmp 14)), []⟩]
 .ret)
 .skip))
 (.seq (O [FA 15 0 6, L 16 15, Bk 17 .eql 16 .u8 0, V 18 17, Gd 18 false (LA 19 2 5), Gd 18 false (LA 20 2 6), ⟨some 21, some (18, false), .q (.eqA [0, 0] false (.tmp 19) (.tmp 20)), []⟩, ⟨some 22, none, .q (.pick (.tmp 18) (.const (.bool true)) (.tmp 21)), []⟩]
 (.cond (.tmp 22)
 (O [LA 23 2 5, ⟨none, none, .e (.store 2 (.tmp 4) (.tmp 23)), []⟩]
 .ret)
 .skip))
 (O [⟨some 24, none, .q (.build [(.int .u8 0), (.int .i64 0)] [(0, 1, (.const (.int .u8 2)))]), []⟩, ⟨none, none, .e (.store 2 (.tmp 4) (.tmp 24)), []⟩]
 .ret)))))), [.cells 4 2], 25⟩
theorem c_rMeet_is : cFunc Proofs.Try.prog Proofs.Try.f66 = some (eraseF c_rMeet) := by kernel_rfl
theorem call_rMeet {args : List Value} {h : Heap} {K : Value → Heap → Prop} (hl : args.length ≤ 25) (k : pwp Proofs.Try.prog c_rMeet.body (BodyK c_rMeet.results K) (enterF args) h) : PCall Proofs.Try.prog 66 args h K :=
  pcall_of (by kernel_rfl) (by kernel_rfl) c_rMeet_is (by kernel_rfl) hl k
def c_rReg : AFn :=
⟨(O [⟨some 2, none, .e (.box 8 2 (.tmp 0)), []⟩, ⟨some 4, none, .e (.new [(.int .u8 0), (.int .i64 0)] 2), []⟩]
 (.seq (O [V 5 1, Bn 6 .lss 5 0, V 7 6, Gd 7 false (V 8 1), Gd 7 false (Bn 9 .gtr 8 3), ⟨some 10, none, .q (.pick (.tmp 7) (.const (.bool true)) (.tmp 9)), []⟩]
 (.cond (.tmp 10)
 (O [⟨some 11, none, .q (.build [(.int .u8 0), (.int .i64 0)] []), []⟩, ⟨none, none, .e (.store 2 (.tmp 4) (.tmp 11)), []⟩]
 .ret)
 .skip))
 (O [V 12 1, ⟨some 13, none, .q (.idxP 4 2 (.tmp 2) (.tmp 12)), []⟩, LA 14 2 13, ⟨some 15, none, .call 67 [(.tmp 14)], []⟩, ⟨none, none, .e (.store 2 (.tmp 4) (.tmp 15)), []⟩]
 .ret))), [.cells 4 2], 16⟩
theorem c_rReg_is : cFunc Proofs.Try.prog Proofs.Try.f69 = some (eraseF c_rReg) := by kernel_rfl
theorem call_rReg {args : List Value} {h : Heap} {K : Value → Heap → Prop} (hl : args.length ≤ 16) (k : pwp Proofs.Try.prog c_rReg.body (BodyK c_rReg.results K) (enterF args) h) : PCall Proofs.Try.prog 69 args h K :=
  pcall_of (by kernel_rfl) (by kernel_rfl) c_rReg_is (by kernel_rfl) hl k
def c_rMath : AFn :=
⟨(O [⟨some 4, none, .e (.box 2 2 (.tmp 1)), []⟩, ⟨some 5, none, .e (.box 2 2 (.tmp 2)), []⟩, ⟨some 6, none, .e (.new [(.int .u8 0), (.int .i64 0)] 2), []⟩]
 (.seq (O [FA 8 0 4, L 9 8, Bk 10 .eql 9 .u8 0, V 11 10, Gd 11 false (FA 12 0 5), Gd 11 false (L 13 12), Gd 11 false (Bk 14 .eql 13 .u8 0), ⟨some 15, none, .q (.pick (.tmp 11) (.const (.bool true)) (.tmp 14)), []⟩]
 (.cond (.tmp 15)
 (O [⟨some 16, none, .q (.build [(.int .u8 0), (.int .i64 0)] []), []⟩, ⟨none, none, .e (.store 2 (.tmp 6) (.tmp 16)), []⟩]
 .ret)
 .skip))
 (.seq (O [FA 17 0 4, L 18 17, Bk 19 .neq 18 .u8 1, V 20 19, Gd 20 false (FA 21 0 5), Gd 20 false (L 22 21), Gd 20 false (Bk 23 .neq 22 .u8 1), ⟨some 24, none, .q (.pick (.tmp 20) (.const (.bool true)) (.tmp 23)), []⟩]
 (.cond (.tmp 24)
 (O [⟨some 25, none, .q (.build [(.int .u8 0), (.int .i64 0)] [(0, 1, (.const (.int .u8 2)))]), []⟩, ⟨none, none, .e (.store 2 (.tmp 6) (.tmp 25)), []⟩]
 .ret)
 .skip))
 (O [N 7 0]
 (.seq (.block 0 (O [V 27 0, Bk 28 .eql 27 .u8 3, V 26 28]
 (.cond (.tmp 26)
 (.ops [FA 29 1 4, L 30 29, FA 31 1 5, L 32 31, B 33 .add 30 32, V 7 33])
 (O [V 35 0, Bk 36 .eql 35 .u8 4, V 34 36]
 (.cond (.tmp 34)
 (.ops [FA 37 1 4, L 38 37, FA 39 1 5, L 40 39, B 41 .sub 38 40, V 7 41])
 (O [V 43 0, Bk 44 .eql 43 .u8 5, V 42 44]
 (.cond (.tmp 42)
 (.ops [FA 45 1 4, L 46 45, FA 47 1 5, L 48 47, B 49 .mul 46 48, V 7 49])
 (O [FA 51 1 4, L 52 51, FA 53 1 5, L 54 53, B 55 .lss 52 54, V 50 55]
 (.cond (.tmp 50)
 (.ops [N 7 1])
 .skip)))))))))
 (O [V 56 7, ⟨some 57, none, .q (.build [(.int .u8 0), (.int .i64 0)] [(0, 1, (.const (.int .u8 1))), (1, 1, (.tmp 56))]), []⟩, ⟨none, none, .e (.store 2 (.tmp 6) (.tmp 57)), []⟩]
 .ret)))))), [.cells 6 2], 58⟩
theorem c_rMath_is : cFunc Proofs.Try.prog Proofs.Try.f70 = some (eraseF c_rMath) := by kernel_rfl
theorem call_rMath {args : List Value} {h : Heap} {K : Value → Heap → Prop} (hl : args.length ≤ 58) (k : pwp Proofs.Try.prog c_rMath.body (BodyK c_rMath.results K) (enterF args) h) : PCall Proofs.Try.prog 70 args h K :=
  pcall_of (by kernel_rfl) (by kernel_rfl) c_rMath_is (by kernel_rfl) hl k
def c_rDo : AFn :=
⟨(O [⟨some 2, none, .e (.box 4 4 (.tmp 0)), []⟩, ⟨some 3, none, .e (.box 8 2 (.tmp 1)), []⟩, ⟨some 4, none, .e (.new [(.int .u8 0), (.int .i64 0), (.int .u8 0), (.int .i64 0), (.int .u8 0), (.int .i64 0), (.int .u8 0), (.int .i64 0)] 2), []⟩]
 (O [⟨some 5, none, .e (.new [(.int .u8 0), (.int .i64 0), (.int .u8 0), (.int .i64 0), (.int .u8 0), (.int .i64 0), (.int .u8 0), (.int .i64 0)] 2), []⟩]
 (.seq (O [N 6 0]
 (.block 0 (.loop (.seq (O [V 7 6, Bn 8 .lss 7 4]
 (.cond (.tmp 8)
 .skip
 (.exit 0)))
 (.seq (.block 1 (O [V 11 6, V 12 6, ⟨some 13, none, .q (.idxP 4 2 (.tmp 3) (.tmp 12)), []⟩, LA 14 2 13, ⟨some 15, none, .call 67 [(.tmp 14)], []⟩, ⟨some 16, none, .q (.idxP 4 2 (.tmp 5) (.tmp 11)), []⟩, ⟨none, none, .e (.store 2 (.tmp 16) (.tmp 15)), []⟩]
 (.seq (O [LA 17 4 2, ⟨some 18, none, .call 68 [(.tmp 17)], []⟩, V 19 6, ⟨some 20, none, .call 23 [(.tmp 18), (.tmp 19)], []⟩, Nt 21 20]
 (.cond (.tmp 21)
 (.exit 1)
 .skip))
 (O [FA 22 0 2, L 23 22]
 (.block 2 (O [Bk 28 .eql 23 .u8 1, V 27 28]
 (.cond (.tmp 27)
 (.ops [V 29 6, FA 30 2 2, L 31 30, ⟨some 32, none, .q (.build [(.int .u8 0), (.int .i64 0)] [(0, 1, (.const (.int .u8 1))), (1, 1, (.tmp 31))]), []⟩, ⟨some 33, none, .q (.idxP 4 2 (.tmp 5) (.tmp 29)), []⟩, ⟨none, none, .e (.store 2 (.tmp 33) (.tmp 32)), []⟩])
 (O [Bk 35 .eql 23 .u8 2, V 34 35]
 (.cond (.tmp 34)
 (.ops [V 36 6, LA 37 8 3, FA 38 2 2, L 39 38, ⟨some 40, none, .call 69 [(.tmp 37), (.tmp 39)], []⟩, ⟨some 41, none, .q (.idxP 4 2 (.tmp 5) (.tmp 36)), []⟩, ⟨none, none, .e (.store 2 (.tmp 41) (.tmp 40)), []⟩])
 (.seq (O [Bk 43 .eql 23 .u8 3, V 42 43]
 (.cond (.tmp 42)
 .skip
 (O [Bk 44 .eql 23 .u8 4, V 42 44]
 (.cond (.tmp 42)
 .skip
 (O [Bk 45 .eql 23 .u8 5, V 42 45]
 (.cond (.tmp 42)
 .skip
 (.ops [Bk 46 .eql 23 .u8 6, V 42 46])))))))
 (.cond (.tmp 42)
 (.ops [V 47 6, FA 48 0 2, L 49 48, LA 50 8 3, FA 51 2 2, L 52 51, LA 54 8 3, FA 55 3 2, L 56 55, ⟨some 53, none, .call 69 [(.tmp 50), (.tmp 52)], [.load (.tmp 48), .loadA 8 (.tmp 3), .load (.tmp 55)]⟩, ⟨some 57, none, .call 69 [(.tmp 54), (.tmp 56)], [.load (.tmp 48)]⟩, ⟨some 58, none, .call 70 [(.tmp 49), (.tmp 53), (.tmp 57)], []⟩, ⟨some 59, none, .q (.idxP 4 2 (.tmp 5) (.tmp 47)), []⟩, ⟨none, none, .e (.store 2 (.tmp 59) (.tmp 58)), []⟩])
 (.ops [V 24 6, ⟨some 25, none, .q (.build [(.int .u8 0), (.int .i64 0)] [(0, 1, (.const (.int .u8 2)))]), []⟩, ⟨some 26, none, .q (.idxP 4 2 (.tmp 5) (.tmp 24)), []⟩, ⟨none, none, .e (.store 2 (.tmp 26) (.tmp 25)), []⟩]))))))))))))
 (.ops [V 9 6, Bn 10 .add 9 1, V 6 10]))))))
 (O [LA 60 8 5, ⟨none, none, .e (.store 8 (.tmp 4) (.tmp 60)), []⟩]
 .ret)))), [.cells 4 8], 61⟩
theorem c_rDo_is : cFunc Proofs.Try.prog Proofs.Try.f49 = some (eraseF c_rDo) := by kernel_rfl
theorem call_rDo {args : List Value} {h : Heap} {K : Value → Heap → Prop} (hl : args.length ≤ 61) (k : pwp Proofs.Try.prog c_rDo.body (BodyK c_rDo.results K) (enterF args) h) : PCall Proofs.Try.prog 49 args h K :=
  pcall_of (by kernel_rfl) (by kernel_rfl) c_rDo_is (by kernel_rfl) hl k
def c_rBoth : AFn :=
⟨(O [⟨some 2, none, .e (.box 8 2 (.tmp 0)), []⟩, ⟨some 3, none, .e (.box 8 2 (.tmp 1)), []⟩, ⟨some 4, none, .e (.new [(.int .u8 0), (.int .i64 0), (.int .u8 0), (.int .i64 0), (.int .u8 0), (.int .i64 0), (.int .u8 0), (.int .i64 0)] 2), []⟩]
 (O [⟨some 5, none, .e (.new [(.int .u8 0), (.int .i64 0), (.int .u8 0), (.int .i64 0), (.int .u8 0), (.int .i64 0), (.int .u8 0), (.int .i64 0)] 2), []⟩]
 (.seq (O [N 6 0]
 (.block 0 (.loop (.seq (O [V 7 6, Bn 8 .lss 7 4]
 (.cond (.tmp 8)
 .skip
 (.exit 0)))
 (.seq (.block 1 (.ops [V 11 6, V 12 6, ⟨some 13, none, .q (.idxP 4 2 (.tmp 2) (.tmp 12)), []⟩, LA 14 2 13, V 15 6, ⟨some 16, none, .q (.idxP 4 2 (.tmp 3) (.tmp 15)), []⟩, LA 17 2 16, ⟨some 18, none, .call 66 [(.tmp 14), (.tmp 17)], []⟩, ⟨some 19, none, .q (.idxP 4 2 (.tmp 5) (.tmp 11)), []⟩, ⟨none, none, .e (.store 2 (.tmp 19) (.tmp 18)), []⟩]))
 (.ops [V 9 6, Bn 10 .add 9 1, V 6 10]))))))
 (O [LA 20 8 5, ⟨none, none, .e (.store 8 (.tmp 4) (.tmp 20)), []⟩]
 .ret)))), [.cells 4 8], 21⟩
theorem c_rBoth_is : cFunc Proofs.Try.prog Proofs.Try.f48 = some (eraseF c_rBoth) := by kernel_rfl
theorem call_rBoth {args : List Value} {h : Heap} {K : Value → Heap → Prop} (hl : args.length ≤ 21) (k : pwp Proofs.Try.prog c_rBoth.body (BodyK c_rBoth.results K) (enterF args) h) : PCall Proofs.Try.prog 48 args h K :=
  pcall_of (by kernel_rfl) (by kernel_rfl) c_rBoth_is (by kernel_rfl) hl k
def c_rOf : AFn :=
⟨(O [E 2]
 (O [V 12 0, Ln 13 12, ⟨some 14, none, .e (.make [(.int .u8 0), (.int .i64 0), (.int .u8 0), (.int .i64 0), (.int .u8 0), (.int .i64 0), (.int .u8 0), (.int .i64 0)] 8 (.tmp 13) (.tmp 13)), []⟩, V 3 14]
 (O [V 15 0, ⟨some 16, none, .call 20 [(.tmp 15)], []⟩, V 4 16]
 (O [V 17 4, Z 1 17, ⟨some 18, none, .call 33 [(.tmp 17)], []⟩, V 5 18]
 (.seq (O [T 6 true]
 (.block 0 (.loop (.seq (O [V 19 6]
 (.cond (.tmp 19)
 .skip
 (.exit 0)))
 (.block 1 (O [T 6 false]
 (O [N 7 0]
 (.block 2 (.loop (.seq (O [V 20 7, V 21 0, Ln 22 21, B 23 .lss 20 22]
 (.cond (.tmp 23)
 .skip
 (.exit 2)))
 (.seq (.block 3 (O [⟨some 8, none, .e (.new [(.int .u8 0), (.int .i64 0), (.int .u8 0), (.int .i64 0), (.int .u8 0), (.int .i64 0), (.int .u8 0), (.int .i64 0)] 2), []⟩]
 (.seq (O [N 9 0]
 (.block 4 (.loop (.seq (O [V 26 9, Bn 27 .lss 26 4, V 28 27, Gd 28 true (V 29 7), Gd 28 true (Bn 30 .eql 29 0), Pk 31 28 30 false]
 (.cond (.tmp 31)
 .skip
 (.exit 4)))
 (.seq (.block 5 (.ops [V 34 9, ⟨some 35, none, .q (.build [(.int .u8 0), (.int .i64 0)] [(0, 1, (.const (.int .u8 1)))]), []⟩, ⟨some 36, none, .q (.idxP 4 2 (.tmp 8) (.tmp 34)), []⟩, ⟨none, none, .e (.store 2 (.tmp 36) (.tmp 35)), []⟩]))
 (.ops [V 32 9, Bn 33 .add 32 1, V 9 33]))))))
 (.seq (O [N 10 0]
 (.block 6 (.loop (.seq (O [V 37 10, V 38 0, Ln 39 38, B 40 .lss 37 39]
 (.cond (.tmp 40)
 .skip
 (.exit 6)))
 (.seq (.block 7 (O [N 11 0]
 (.block 8 (.loop (.seq (O [V 43 11, V 44 4, V 45 10, X 46 1 44 45, L 47 46, Ln 48 47, B 49 .lss 43 48, V 50 49, Gd 50 true (V 51 5), Gd 50 true (V 52 10), Gd 50 true (X 53 1 51 52), Gd 50 true (L 54 53), Pk 55 50 54 false]
 (.cond (.tmp 55)
 .skip
 (.exit 8)))
 (.seq (.block 9 (O [V 58 4, V 59 10, X 60 1 58 59, L 61 60, V 62 11, X 63 1 61 62, L 64 63, V 65 7, B 66 .eql 64 65]
 (.cond (.tmp 66)
 (.ops [LA 67 8 8, V 68 0, V 69 10, X 70 4 68 69, LA 71 4 70, V 72 3, V 73 10, X 74 8 72 73, LA 75 8 74, ⟨some 76, none, .call 49 [(.tmp 71), (.tmp 75)], [.loadA 8 (.tmp 8)]⟩, ⟨some 77, none, .call 48 [(.tmp 67), (.tmp 76)], []⟩, ⟨none, none, .e (.store 8 (.tmp 8) (.tmp 77)), []⟩])
 .skip)))
 (.ops [V 56 11, Bn 57 .add 56 1, V 11 57])))))))
 (.ops [V 41 10, Bn 42 .add 41 1, V 10 42]))))))
 (O [V 78 5, V 79 7, X 80 1 78 79, L 81 80, V 82 81, Gd 82 true (LA 83 8 8), Gd 82 true (V 84 3), Gd 82 true (V 85 7), Gd 82 true (X 86 8 84 85), Gd 82 true (LA 87 8 86), ⟨some 88, some (82, true), .q (.eqA [0, 0, 0, 0, 0, 0, 0, 0] true (.tmp 83) (.tmp 87)), []⟩, Pk 89 82 88 false]
 (.cond (.tmp 89)
 (O [V 90 3, V 91 7, LA 92 8 8, X 93 8 90 91, ⟨none, none, .e (.store 8 (.tmp 93) (.tmp 92)), []⟩]
 (.ops [T 6 true]))
 .skip))))))
 (.ops [V 24 7, Bn 25 .add 24 1, V 7 25]))))))))))))
 (O [V 94 3, V 2 94]
 .ret)))))), [.tmp 2], 95⟩
theorem c_rOf_is : cFunc Proofs.Try.prog Proofs.Try.f28 = some (eraseF c_rOf) := by kernel_rfl
theorem call_rOf {args : List Value} {h : Heap} {K : Value → Heap → Prop} (hl : args.length ≤ 95) (k : pwp Proofs.Try.prog c_rOf.body (BodyK c_rOf.results K) (enterF args) h) : PCall Proofs.Try.prog 28 args h K :=
  pcall_of (by kernel_rfl) (by kernel_rfl) c_rOf_is (by kernel_rfl) hl k
def c_rSame14 : AFn :=
⟨(O [T 4 false]
 (.seq (O [V 6 0, Ln 7 6, V 8 1, Ln 9 8, B 10 .neq 7 9]
 (.cond (.tmp 10)
 (O [T 4 false]
 .ret)
 .skip))
 (.seq (O [N 5 0]
 (.block 0 (.loop (.seq (O [V 11 5, V 12 0, Ln 13 12, B 14 .lss 11 13]
 (.cond (.tmp 14)
 .skip
 (.exit 0)))
 (.seq (.block 1 (O [V 17 0, V 18 5, X 19 8 17 18, LA 20 8 19, V 21 1, V 22 5, X 23 8 21 22, LA 24 8 23, ⟨some 25, none, .q (.eqA [0, 0, 0, 0, 0, 0, 0, 0] true (.tmp 20) (.tmp 24)), []⟩]
 (.cond (.tmp 25)
 (O [T 4 false]
 .ret)
 .skip)))
 (.ops [V 15 5, Bn 16 .add 15 1, V 5 16]))))))
 (O [T 4 true]
 .ret)))), [.tmp 4], 26⟩
theorem c_rSame14_is : cFunc Proofs.Try.prog Proofs.Try.f27 = some (eraseF c_rSame14) := by kernel_rfl
theorem call_rSame14 {args : List Value} {h : Heap} {K : Value → Heap → Prop} (hl : args.length ≤ 26) (k : pwp Proofs.Try.prog c_rSame14.body (BodyK c_rSame14.results K) (enterF args) h) : PCall Proofs.Try.prog 27 args h K :=
  pcall_of (by kernel_rfl) (by kernel_rfl) c_rSame14_is (by kernel_rfl) hl k
end Pm
