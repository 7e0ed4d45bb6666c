/- Codes of the program's functions, as a program printed them, and that they are what the program's functions are compiled to.
   No condition: plain facts. -/
import Derived.Test.YtdohgmnflhjgjaaPm5
import Derived.Test.YtdohgmnflhjgjaaProg
import Derived.KernelRfl

namespace Pm
set_option linter.unusedSimpArgs false
set_option linter.unusedVariables false
open Go Am
set_option maxRecDepth 100000
def c_Clone1 : AFn :=
⟨(O [E 2]
 (.seq (O [V 3 0, ⟨some 4, none, .nilT false (.tmp 3), []⟩]
 (.cond (.tmp 4)
 (O [E 2]
 .ret)
 .skip))
 (O [⟨some 5, none, .e (.lit [] 1 0 []), []⟩, V 6 0, Ap 7 1 5 6, V 2 7]
 .ret))), [.tmp 2], 8⟩
theorem c_Clone1_is : cFunc Proofs.Try.prog Proofs.Try.f124 = some (eraseF c_Clone1) := by kernel_rfl
theorem call_Clone1 {args : List Value} {h : Heap} {K : Value → Heap → Prop} (hl : args.length ≤ 8) (k : pwp Proofs.Try.prog c_Clone1.body (BodyK c_Clone1.results K) (enterF args) h) : PCall Proofs.Try.prog 124 args h K :=
  pcall_of (by kernel_rfl) (by kernel_rfl) c_Clone1_is (by kernel_rfl) hl k
def c_Clone4 : AFn :=
⟨(O [E 2]
 (.seq (O [V 3 0, ⟨some 4, none, .nilT false (.tmp 3), []⟩]
 (.cond (.tmp 4)
 (O [E 2]
 .ret)
 .skip))
 (O [⟨some 5, none, .e (.lit [] 4 0 []), []⟩, V 6 0, Ap 7 4 5 6, V 2 7]
 .ret))), [.tmp 2], 8⟩
theorem c_Clone4_is : cFunc Proofs.Try.prog Proofs.Try.f73 = some (eraseF c_Clone4) := by kernel_rfl
theorem call_Clone4 {args : List Value} {h : Heap} {K : Value → Heap → Prop} (hl : args.length ≤ 8) (k : pwp Proofs.Try.prog c_Clone4.body (BodyK c_Clone4.results K) (enterF args) h) : PCall Proofs.Try.prog 73 args h K :=
  pcall_of (by kernel_rfl) (by kernel_rfl) c_Clone4_is (by kernel_rfl) hl k
def c_DelF1 : AFn :=
⟨(O [E 4]
 (O [V 8 0, V 9 1, ⟨some 10, none, .call 141 [(.tmp 8), (.tmp 9)], []⟩, V 5 10]
 (.seq (O [V 11 5, Bn 12 .eql 11 (-1)]
 (.cond (.tmp 12)
 (O [V 13 0, V 4 13]
 .ret)
 .skip))
 (.seq (O [V 14 5, Bn 15 .add 14 1, V 6 15]
 (.block 0 (.loop (.seq (O [V 16 6, V 17 0, Ln 18 17, B 19 .lss 16 18]
 (.cond (.tmp 19)
 .skip
 (.exit 0)))
 (.seq (.block 1 (O [V 22 0, V 23 6, X 24 1 22 23, L 25 24, V 7 25]
 (O [V 26 1, V 27 7, ⟨some 28, none, .callv (.tmp 26) [(.tmp 27)], []⟩, Nt 29 28]
 (.cond (.tmp 29)
 (O [V 30 0, V 31 5, V 32 7, X 33 1 30 31, S 33 32]
 (.ops [V 34 5, Bn 35 .add 34 1, V 5 35]))
 .skip))))
 (.ops [V 20 6, Bn 21 .add 20 1, V 6 21]))))))
 (O [V 36 0, V 37 5, ⟨some 38, none, .q (.cut 1 (.tmp 36) (some (.tmp 37)) none), []⟩, ⟨none, none, .e (.clear [(.int .i64 0)] (.tmp 38)), []⟩]
 (O [V 39 0, V 40 5, ⟨some 41, none, .q (.cut 1 (.tmp 39) none (some (.tmp 40))), []⟩, V 4 41]
 .ret)))))), [.tmp 4], 42⟩
theorem c_DelF1_is : cFunc Proofs.Try.prog Proofs.Try.f123 = some (eraseF c_DelF1) := by kernel_rfl
theorem call_DelF1 {args : List Value} {h : Heap} {K : Value → Heap → Prop} (hl : args.length ≤ 42) (k : pwp Proofs.Try.prog c_DelF1.body (BodyK c_DelF1.results K) (enterF args) h) : PCall Proofs.Try.prog 123 args h K :=
  pcall_of (by kernel_rfl) (by kernel_rfl) c_DelF1_is (by kernel_rfl) hl k
def c_IdxF1 : AFn :=
⟨(O [N 4 0]
 (.seq (O [V 6 0, Ln 7 6, N 8 0]
 (.block 0 (.loop (O [B 9 .lss 8 7]
 (.seq (.cond (.tmp 9)
 .skip
 (.exit 0))
 (.seq (.block 1 (O [V 10 8, V 5 10]
 (O [V 11 1, V 12 0, V 13 5, X 14 1 12 13, L 15 14, ⟨some 16, none, .callv (.tmp 11) [(.tmp 15)], []⟩]
 (.cond (.tmp 16)
 (O [V 17 5, V 4 17]
 .ret)
 .skip))))
 (.ops [Bn 18 .add 8 1, V 8 18])))))))
 (O [N 4 (-1)]
 .ret))), [.tmp 4], 19⟩
theorem c_IdxF1_is : cFunc Proofs.Try.prog Proofs.Try.f141 = some (eraseF c_IdxF1) := by kernel_rfl
theorem call_IdxF1 {args : List Value} {h : Heap} {K : Value → Heap → Prop} (hl : args.length ≤ 19) (k : pwp Proofs.Try.prog c_IdxF1.body (BodyK c_IdxF1.results K) (enterF args) h) : PCall Proofs.Try.prog 141 args h K :=
  pcall_of (by kernel_rfl) (by kernel_rfl) c_IdxF1_is (by kernel_rfl) hl k
def c_Idx1 : AFn :=
⟨(O [N 4 0]
 (.seq (O [V 6 0, Ln 7 6, N 8 0]
 (.block 0 (.loop (O [B 9 .lss 8 7]
 (.seq (.cond (.tmp 9)
 .skip
 (.exit 0))
 (.seq (.block 1 (O [V 10 8, V 5 10]
 (O [V 11 1, V 12 0, V 13 5, X 14 1 12 13, L 15 14, B 16 .eql 11 15]
 (.cond (.tmp 16)
 (O [V 17 5, V 4 17]
 .ret)
 .skip))))
 (.ops [Bn 18 .add 8 1, V 8 18])))))))
 (O [N 4 (-1)]
 .ret))), [.tmp 4], 19⟩
theorem c_Idx1_is : cFunc Proofs.Try.prog Proofs.Try.f146 = some (eraseF c_Idx1) := by kernel_rfl
theorem call_Idx1 {args : List Value} {h : Heap} {K : Value → Heap → Prop} (hl : args.length ≤ 19) (k : pwp Proofs.Try.prog c_Idx1.body (BodyK c_Idx1.results K) (enterF args) h) : PCall Proofs.Try.prog 146 args h K :=
  pcall_of (by kernel_rfl) (by kernel_rfl) c_Idx1_is (by kernel_rfl) hl k
def c_Cont1 : AFn :=
⟨(O [T 4 false]
 (O [V 5 0, V 6 1, ⟨some 7, none, .call 146 [(.tmp 5), (.tmp 6)], []⟩, Bn 8 .geq 7 0, V 4 8]
 .ret)), [.tmp 4], 9⟩
theorem c_Cont1_is : cFunc Proofs.Try.prog Proofs.Try.f142 = some (eraseF c_Cont1) := by kernel_rfl
theorem call_Cont1 {args : List Value} {h : Heap} {K : Value → Heap → Prop} (hl : args.length ≤ 9) (k : pwp Proofs.Try.prog c_Cont1.body (BodyK c_Cont1.results K) (enterF args) h) : PCall Proofs.Try.prog 142 args h K :=
  pcall_of (by kernel_rfl) (by kernel_rfl) c_Cont1_is (by kernel_rfl) hl k
def c_fInside : AFn :=
⟨(O [⟨some 1, none, .e (.box 1 1 (.tmp 0)), []⟩, E 2]
 (O [E 3]
 (.seq (O [L 6 1, Ln 7 6, N 8 0]
 (.block 0 (.loop (O [B 9 .lss 8 7]
 (.seq (.cond (.tmp 9)
 .skip
 (.exit 0))
 (.seq (.block 1 (O [X 10 1 6 8, L 11 10, V 5 11]
 (.ops [V 12 3, V 13 5, ⟨some 14, none, .call 124 [(.tmp 13)], []⟩, ⟨some 15, none, .q (.fn (.func 125) [(.tmp 1)]), []⟩, ⟨some 16, none, .call 123 [(.tmp 14), (.tmp 15)], []⟩, Z 1 16, ⟨some 17, none, .e (.lit [(.slice none 0 0)] 1 1 [(0, 1, (.tmp 16))]), []⟩, Ap 18 1 12 17, V 3 18])))
 (.ops [Bn 19 .add 8 1, V 8 19])))))))
 (O [V 20 3, V 2 20]
 .ret)))), [.tmp 2], 21⟩
theorem c_fInside_is : cFunc Proofs.Try.prog Proofs.Try.f105 = some (eraseF c_fInside) := by kernel_rfl
theorem call_fInside {args : List Value} {h : Heap} {K : Value → Heap → Prop} (hl : args.length ≤ 21) (k : pwp Proofs.Try.prog c_fInside.body (BodyK c_fInside.results K) (enterF args) h) : PCall Proofs.Try.prog 105 args h K :=
  pcall_of (by kernel_rfl) (by kernel_rfl) c_fInside_is (by kernel_rfl) hl k
def c_fInside1 : AFn :=
⟨(O [T 3 false]
 (O [V 4 0, Bn 5 .lss 4 0, V 6 5, Gd 6 false (V 7 0), Gd 6 false (L 8 1), Gd 6 false (Ln 9 8), Gd 6 false (B 10 .geq 7 9), ⟨some 11, none, .q (.pick (.tmp 6) (.const (.bool true)) (.tmp 10)), []⟩, V 3 11]
 .ret)), [.tmp 3], 12⟩
theorem c_fInside1_is : cFunc Proofs.Try.prog Proofs.Try.f125 = some (eraseF c_fInside1) := by kernel_rfl
theorem call_fInside1 {args : List Value} {h : Heap} {K : Value → Heap → Prop} (hl : args.length ≤ 12) (k : pwp Proofs.Try.prog c_fInside1.body (BodyK c_fInside1.results K) (enterF args) h) : PCall Proofs.Try.prog 125 args h K :=
  pcall_of (by kernel_rfl) (by kernel_rfl) c_fInside1_is (by kernel_rfl) hl k
def c_fAt : AFn :=
⟨(O [⟨some 4, none, .q (.val (.const (.int .u64 0))), []⟩]
 (.seq (O [V 5 1, V 6 0, Ln 7 6, B 8 .geq 5 7]
 (.cond (.tmp 8)
 (O [⟨some 4, none, .q (.val (.const (.int .u64 0))), []⟩]
 .ret)
 .skip))
 (O [V 9 0, V 10 1, X 11 1 9 10, L 12 11, V 4 12]
 .ret))), [.tmp 4], 13⟩
theorem c_fAt_is : cFunc Proofs.Try.prog Proofs.Try.f128 = some (eraseF c_fAt) := by kernel_rfl
theorem call_fAt {args : List Value} {h : Heap} {K : Value → Heap → Prop} (hl : args.length ≤ 13) (k : pwp Proofs.Try.prog c_fAt.body (BodyK c_fAt.results K) (enterF args) h) : PCall Proofs.Try.prog 128 args h K :=
  pcall_of (by kernel_rfl) (by kernel_rfl) c_fAt_is (by kernel_rfl) hl k
def c_fAll : AFn :=
⟨(O [⟨some 2, none, .q (.val (.const (.int .u64 0))), []⟩]
 (.seq (O [V 3 0, ⟨some 4, none, .q (.ptrCk (.tmp 3)), []⟩, FA 5 0 4, FA 6 4 5, L 7 6]
 (.cond (.tmp 7)
 (O [⟨some 8, none, .call 54 [(.const (.int .i64 64))], []⟩, V 2 8]
 .ret)
 .skip))
 (O [⟨some 2, none, .q (.val (.const (.int .u64 0))), []⟩]
 .ret))), [.tmp 2], 9⟩
theorem c_fAll_is : cFunc Proofs.Try.prog Proofs.Try.f106 = some (eraseF c_fAll) := by kernel_rfl
theorem call_fAll {args : List Value} {h : Heap} {K : Value → Heap → Prop} (hl : args.length ≤ 9) (k : pwp Proofs.Try.prog c_fAll.body (BodyK c_fAll.results K) (enterF args) h) : PCall Proofs.Try.prog 106 args h K :=
  pcall_of (by kernel_rfl) (by kernel_rfl) c_fAll_is (by kernel_rfl) hl k
def c_fMeet : AFn :=
⟨(O [⟨some 6, none, .q (.val (.const (.int .u64 0))), []⟩]
 (.seq (O [V 7 0, ⟨some 8, none, .q (.ptrCk (.tmp 7)), []⟩, FA 9 0 8, FA 10 4 9, L 11 10]
 (.cond (.tmp 11)
 (O [V 12 1, V 13 2, B 14 .and 12 13, V 6 14]
 .ret)
 .skip))
 (O [V 15 1, V 16 2, B 17 .or 15 16, V 6 17]
 .ret))), [.tmp 6], 18⟩
theorem c_fMeet_is : cFunc Proofs.Try.prog Proofs.Try.f127 = some (eraseF c_fMeet) := by kernel_rfl
theorem call_fMeet {args : List Value} {h : Heap} {K : Value → Heap → Prop} (hl : args.length ≤ 18) (k : pwp Proofs.Try.prog c_fMeet.body (BodyK c_fMeet.results K) (enterF args) h) : PCall Proofs.Try.prog 127 args h K :=
  pcall_of (by kernel_rfl) (by kernel_rfl) c_fMeet_is (by kernel_rfl) hl k
def c_fEdge : AFn :=
⟨(O [T 4 false]
 (.seq (O [V 5 0, ⟨some 6, none, .q (.ptrCk (.tmp 5)), []⟩, FA 7 0 6, FA 8 5 7, L 9 8]
 (.cond (.tmp 9)
 (O [V 10 0, ⟨some 11, none, .q (.ptrCk (.tmp 10)), []⟩, FA 12 0 11, FA 13 0 12, L 14 13, V 15 1, X 16 1 14 15, L 17 16, V 18 0, ⟨some 19, none, .q (.ptrCk (.tmp 18)), []⟩, FA 20 0 19, FA 21 0 20, L 22 21, Ln 23 22, Z 1 17, ⟨some 24, none, .call 142 [(.tmp 17), (.tmp 23)], []⟩, V 4 24]
 .ret)
 .skip))
 (O [V 25 1, Bn 26 .eql 25 0, V 4 26]
 .ret))), [.tmp 4], 27⟩
theorem c_fEdge_is : cFunc Proofs.Try.prog Proofs.Try.f126 = some (eraseF c_fEdge) := by kernel_rfl
theorem call_fEdge {args : List Value} {h : Heap} {K : Value → Heap → Prop} (hl : args.length ≤ 27) (k : pwp Proofs.Try.prog c_fEdge.body (BodyK c_fEdge.results K) (enterF args) h) : PCall Proofs.Try.prog 126 args h K :=
  pcall_of (by kernel_rfl) (by kernel_rfl) c_fEdge_is (by kernel_rfl) hl k
def c_fPush : AFn :=
⟨(O [V 4 0, ⟨some 5, none, .q (.ptrCk (.tmp 4)), []⟩, FA 6 11 5, L 7 6, V 8 1, X 9 1 7 8, L 10 9, Nt 11 10]
 (.cond (.tmp 11)
 (O [V 12 0, ⟨some 13, none, .q (.ptrCk (.tmp 12)), []⟩, FA 14 11 13, L 15 14, V 16 1, X 17 1 15 16, ⟨none, none, .e (.store 1 (.tmp 17) (.const (.bool true))), []⟩]
 (.ops [V 18 0, V 19 0, ⟨some 20, none, .q (.ptrCk (.tmp 19)), []⟩, FA 21 10 20, L 22 21, V 23 1, ⟨some 24, none, .e (.lit [(.int .i64 0)] 1 1 [(0, 1, (.tmp 23))]), []⟩, Ap 25 1 22 24, ⟨some 26, none, .q (.ptrCk (.tmp 18)), []⟩, FA 27 10 26, S 27 25]))
 .skip)), [], 28⟩
theorem c_fPush_is : cFunc Proofs.Try.prog Proofs.Try.f107 = some (eraseF c_fPush) := by kernel_rfl
theorem call_fPush {args : List Value} {h : Heap} {K : Value → Heap → Prop} (hl : args.length ≤ 28) (k : pwp Proofs.Try.prog c_fPush.body (BodyK c_fPush.results K) (enterF args) h) : PCall Proofs.Try.prog 107 args h K :=
  pcall_of (by kernel_rfl) (by kernel_rfl) c_fPush_is (by kernel_rfl) hl k
def c_fLook : AFn :=
⟨(O [V 10 0, ⟨some 11, none, .call 106 [(.tmp 10)], []⟩, V 4 11]
 (.seq (O [V 12 0, V 13 1, ⟨some 14, none, .call 126 [(.tmp 12), (.tmp 13)], []⟩]
 (.cond (.tmp 14)
 (.ops [V 15 0, V 16 4, V 17 0, ⟨some 18, none, .q (.ptrCk (.tmp 17)), []⟩, FA 19 0 18, FA 20 3 19, L 21 20, ⟨some 22, none, .call 127 [(.tmp 15), (.tmp 16), (.tmp 21)], []⟩, V 4 22])
 .skip))
 (.seq (O [V 23 0, ⟨some 24, none, .q (.ptrCk (.tmp 23)), []⟩, FA 25 6 24, L 26 25, V 27 1, X 28 1 26 27, L 29 28, Ln 30 29, N 31 0]
 (.block 0 (.loop (O [B 32 .lss 31 30]
 (.seq (.cond (.tmp 32)
 .skip
 (.exit 0))
 (.seq (.block 1 (O [X 33 1 29 31, L 34 33, V 6 34]
 (.ops [V 35 0, V 36 4, V 37 0, ⟨some 38, none, .q (.ptrCk (.tmp 37)), []⟩, FA 39 9 38, L 40 39, V 41 6, X 42 1 40 41, L 43 42, ⟨some 44, none, .call 127 [(.tmp 35), (.tmp 36), (.tmp 43)], []⟩, V 4 44])))
 (.ops [Bn 45 .add 31 1, V 31 45])))))))
 (O [V 46 0, ⟨some 47, none, .q (.ptrCk (.tmp 46)), []⟩, FA 48 8 47, L 49 48, V 50 1, V 51 4, X 52 1 49 50, S 52 51]
 (O [V 53 4, V 54 0, ⟨some 55, none, .q (.ptrCk (.tmp 54)), []⟩, FA 56 0 55, FA 57 2 56, L 58 57, V 59 1, V 62 0, ⟨some 63, none, .q (.ptrCk (.tmp 62)), []⟩, FA 64 0 63, FA 65 1 64, L 66 65, V 67 1, ⟨some 60, none, .st (.call 128 [(.tmp 58), (.tmp 59)]), [.load (.tmp 65)]⟩, B 61 .andNot 53 60, ⟨some 68, none, .call 128 [(.tmp 66), (.tmp 67)], []⟩, B 69 .or 61 68, V 7 69]
 (.seq (O [V 70 7, V 71 0, ⟨some 72, none, .q (.ptrCk (.tmp 71)), []⟩, FA 73 9 72, L 74 73, V 75 1, X 76 1 74 75, L 77 76, B 78 .eql 70 77]
 (.cond (.tmp 78)
 .ret
 .skip))
 (O [V 79 0, ⟨some 80, none, .q (.ptrCk (.tmp 79)), []⟩, FA 81 9 80, L 82 81, V 83 1, V 84 7, X 85 1 82 83, S 85 84]
 (O [V 86 0, ⟨some 87, none, .q (.ptrCk (.tmp 86)), []⟩, FA 88 7 87, L 89 88, V 90 1, X 91 1 89 90, L 92 91, Ln 93 92, N 94 0]
 (.block 2 (.loop (O [B 95 .lss 94 93]
 (.seq (.cond (.tmp 95)
 .skip
 (.exit 2))
 (.seq (.block 3 (O [X 96 1 92 94, L 97 96, V 9 97]
 (.ops [V 98 0, V 99 9, ⟨some 100, none, .call 107 [(.tmp 98), (.tmp 99)], []⟩])))
 (.ops [Bn 101 .add 94 1, V 94 101])))))))))))))), [], 102⟩
theorem c_fLook_is : cFunc Proofs.Try.prog Proofs.Try.f108 = some (eraseF c_fLook) := by kernel_rfl
theorem call_fLook {args : List Value} {h : Heap} {K : Value → Heap → Prop} (hl : args.length ≤ 102) (k : pwp Proofs.Try.prog c_fLook.body (BodyK c_fLook.results K) (enterF args) h) : PCall Proofs.Try.prog 108 args h K :=
  pcall_of (by kernel_rfl) (by kernel_rfl) c_fLook_is (by kernel_rfl) hl k
def c_fSolve : AFn :=
⟨(O [⟨some 1, none, .e (.box 6 6 (.tmp 0)), []⟩, E 2, E 3]
 (O [Z 6 1, FA 8 0 1, L 9 8, Ln 10 9, V 4 10]
 (.seq (O [V 11 4, Bn 12 .gtr 11 64]
 (.cond (.tmp 12)
 (O [E 2, E 3]
 .ret)
 .skip))
 (O [LA 13 6 1, V 14 4, V 16 4, V 18 4, ⟨some 15, none, .e (.make [(.int .u64 0)] 1 (.tmp 14) (.tmp 14)), []⟩, ⟨some 17, none, .e (.make [(.int .u64 0)] 1 (.tmp 16) (.tmp 16)), []⟩, ⟨some 19, none, .e (.make [(.bool false)] 1 (.tmp 18) (.tmp 18)), []⟩, ⟨some 20, none, .q (.build [(.slice none 0 0), (.slice none 0 0), (.slice none 0 0), (.int .u64 0), (.bool false), (.bool false), (.slice none 0 0), (.slice none 0 0), (.slice none 0 0), (.slice none 0 0), (.slice none 0 0), (.slice none 0 0)] [(0, 6, (.tmp 13)), (8, 1, (.tmp 15)), (9, 1, (.tmp 17)), (11, 1, (.tmp 19))]), []⟩, ⟨some 21, none, .e (.box 12 12 (.tmp 20)), []⟩, V 5 21]
 (O [V 22 5, V 23 5, FA 24 0 1, L 25 24, FA 27 0 1, L 28 27, ⟨some 26, none, .st (.call 105 [(.tmp 25)]), [.load (.tmp 27)]⟩, ⟨some 29, none, .call 47 [(.tmp 28)], []⟩, ⟨some 30, none, .q (.ptrCk (.tmp 22)), []⟩, FA 31 7 30, S 31 26, ⟨some 32, none, .q (.ptrCk (.tmp 23)), []⟩, FA 33 6 32, S 33 29]
 (.seq (O [FA 34 5 1, L 35 34]
 (.cond (.tmp 35)
 (.ops [V 36 5, V 37 5, V 38 5, ⟨some 39, none, .q (.ptrCk (.tmp 38)), []⟩, FA 40 6 39, L 41 40, V 42 5, ⟨some 43, none, .q (.ptrCk (.tmp 42)), []⟩, FA 44 7 43, L 45 44, ⟨some 46, none, .q (.ptrCk (.tmp 36)), []⟩, FA 47 7 46, S 47 41, ⟨some 48, none, .q (.ptrCk (.tmp 37)), []⟩, FA 49 6 48, S 49 45])
 .skip))
 (.seq (O [V 50 4, N 51 0]
 (.block 0 (.loop (O [B 52 .lss 51 50]
 (.seq (.cond (.tmp 52)
 .skip
 (.exit 0))
 (.seq (.block 1 (O [V 53 51, V 6 53]
 (O [V 54 5, ⟨some 55, none, .q (.ptrCk (.tmp 54)), []⟩, FA 56 8 55, L 57 56, V 58 6, V 59 5, ⟨some 60, none, .q (.ptrCk (.tmp 59)), []⟩, FA 61 9 60, L 62 61, V 63 6, V 64 5, V 66 5, ⟨some 65, none, .st (.call 106 [(.tmp 64)]), [.load (.tmp 56), .load (.tmp 61)]⟩, ⟨some 67, none, .st (.call 106 [(.tmp 66)]), [.load (.tmp 56), .load (.tmp 61)]⟩, X 68 1 57 58, S 68 65, X 69 1 62 63, S 69 67]
 (.ops [V 70 5, V 71 6, ⟨some 72, none, .call 107 [(.tmp 70), (.tmp 71)], []⟩]))))
 (.ops [Bn 73 .add 51 1, V 51 73])))))))
 (.seq (.block 2 (.loop (.seq (O [V 74 5, ⟨some 75, none, .q (.ptrCk (.tmp 74)), []⟩, FA 76 10 75, L 77 76, Ln 78 77, Bn 79 .gtr 78 0]
 (.cond (.tmp 79)
 .skip
 (.exit 2)))
 (.block 3 (O [V 80 5, ⟨some 81, none, .q (.ptrCk (.tmp 80)), []⟩, FA 82 10 81, L 83 82, ⟨some 84, none, .q (.idxA 1 (.tmp 83) (.const (.int .i64 0))), []⟩, L 85 84, V 7 85]
 (O [V 86 5, V 87 5, ⟨some 88, none, .q (.ptrCk (.tmp 87)), []⟩, FA 89 10 88, L 90 89, ⟨some 91, none, .q (.cut 1 (.tmp 90) (some (.const (.int .i64 1))) none), []⟩, ⟨some 92, none, .q (.ptrCk (.tmp 86)), []⟩, FA 93 10 92, S 93 91]
 (O [V 94 5, ⟨some 95, none, .q (.ptrCk (.tmp 94)), []⟩, FA 96 11 95, L 97 96, V 98 7, X 99 1 97 98, ⟨none, none, .e (.store 1 (.tmp 99) (.const (.bool false))), []⟩]
 (.ops [V 100 5, V 101 7, ⟨some 102, none, .call 108 [(.tmp 100), (.tmp 101)], []⟩]))))))))
 (.seq (O [FA 103 5 1, L 104 103]
 (.cond (.tmp 104)
 (O [V 105 5, ⟨some 106, none, .q (.ptrCk (.tmp 105)), []⟩, FA 107 9 106, L 108 107, V 109 5, ⟨some 110, none, .q (.ptrCk (.tmp 109)), []⟩, FA 111 8 110, L 112 111, V 2 108, V 3 112]
 .ret)
 .skip))
 (O [V 113 5, ⟨some 114, none, .q (.ptrCk (.tmp 113)), []⟩, FA 115 8 114, L 116 115, V 117 5, ⟨some 118, none, .q (.ptrCk (.tmp 117)), []⟩, FA 119 9 118, L 120 119, V 2 116, V 3 120]
 .ret)))))))))), [.tmp 2, .tmp 3], 121⟩
theorem c_fSolve_is : cFunc Proofs.Try.prog Proofs.Try.f92 = some (eraseF c_fSolve) := by kernel_rfl
theorem call_fSolve {args : List Value} {h : Heap} {K : Value → Heap → Prop} (hl : args.length ≤ 121) (k : pwp Proofs.Try.prog c_fSolve.body (BodyK c_fSolve.results K) (enterF args) h) : PCall Proofs.Try.prog 92 args h K :=
  pcall_of (by kernel_rfl) (by kernel_rfl) c_fSolve_is (by kernel_rfl) hl k
def c_lSolve : AFn :=
⟨(O [E 2, E 3]
 (.seq (O [V 7 0, Ln 8 7, Bn 9 .gtr 8 60]
 (.cond (.tmp 9)
 (O [E 2, E 3]
 .ret)
 .skip))
 (O [V 10 0, ⟨some 11, none, .call 45 [(.tmp 10)], []⟩, ⟨some 12, none, .q (.build [(.slice none 0 0), (.slice none 0 0), (.slice none 0 0), (.int .u64 0), (.bool false), (.bool false)] [(0, 1, (.tmp 11)), (5, 1, (.const (.bool true)))]), []⟩, ⟨some 4, none, .e (.new [(.slice none 0 0), (.slice none 0 0), (.slice none 0 0), (.int .u64 0), (.bool false), (.bool false)] 6), []⟩, ⟨none, none, .e (.store 6 (.tmp 4) (.tmp 12)), []⟩]
 (.seq (O [V 13 0, Ln 14 13, N 15 0]
 (.block 0 (.loop (O [B 16 .lss 15 14]
 (.seq (.cond (.tmp 16)
 .skip
 (.exit 0))
 (.seq (.block 1 (O [X 17 4 13 15, LA 18 4 17, ⟨some 6, none, .e (.new [(.int .u8 0), (.int .i64 0), (.int .i64 0), (.int .i64 0)] 4), []⟩, ⟨none, none, .e (.store 4 (.tmp 6) (.tmp 18)), []⟩]
 (O [FA 19 1 4, L 20 19, LA 21 4 6, ⟨some 22, none, .st (.call 91 [(.tmp 21)]), [.load (.tmp 19)]⟩, ⟨some 23, none, .st (.e (.lit [(.int .u64 0)] 1 1 [(0, 1, (.tmp 22))])), [.load (.tmp 19)]⟩, Ap 24 1 20 23, FA 25 1 4, S 25 24]
 (.ops [FA 26 2 4, L 27 26, LA 28 4 6, ⟨some 29, none, .st (.call 89 [(.tmp 28)]), [.load (.tmp 26)]⟩, ⟨some 30, none, .st (.e (.lit [(.int .u64 0)] 1 1 [(0, 1, (.tmp 29))])), [.load (.tmp 26)]⟩, Ap 31 1 27 30, FA 32 2 4, S 32 31]))))
 (.ops [Bn 33 .add 15 1, V 15 33])))))))
 (O [LA 34 6 4, Z 1 34, ⟨some 35, none, .call 92 [(.tmp 34)], []⟩, ⟨some 36, none, .q (.ext (.tmp 35) 0), []⟩, ⟨some 37, none, .q (.ext (.tmp 35) 1), []⟩, V 2 36, V 3 37]
 .ret))))), [.tmp 2, .tmp 3], 38⟩
theorem c_lSolve_is : cFunc Proofs.Try.prog Proofs.Try.f64 = some (eraseF c_lSolve) := by kernel_rfl
theorem call_lSolve {args : List Value} {h : Heap} {K : Value → Heap → Prop} (hl : args.length ≤ 38) (k : pwp Proofs.Try.prog c_lSolve.body (BodyK c_lSolve.results K) (enterF args) h) : PCall Proofs.Try.prog 64 args h K :=
  pcall_of (by kernel_rfl) (by kernel_rfl) c_lSolve_is (by kernel_rfl) hl k
def c_lAhead : AFn :=
⟨(O [E 2]
 (O [V 6 0, ⟨some 7, none, .call 64 [(.tmp 6)], []⟩, V 5 7, ⟨some 8, none, .q (.ext (.tmp 5) 0), []⟩, ⟨some 9, none, .q (.ext (.tmp 5) 1), []⟩, V 3 8, V 4 9]
 (O [V 10 3, V 2 10]
 .ret))), [.tmp 2], 11⟩
theorem c_lAhead_is : cFunc Proofs.Try.prog Proofs.Try.f25 = some (eraseF c_lAhead) := by kernel_rfl
theorem call_lAhead {args : List Value} {h : Heap} {K : Value → Heap → Prop} (hl : args.length ≤ 11) (k : pwp Proofs.Try.prog c_lAhead.body (BodyK c_lAhead.results K) (enterF args) h) : PCall Proofs.Try.prog 25 args h K :=
  pcall_of (by kernel_rfl) (by kernel_rfl) c_lAhead_is (by kernel_rfl) hl k
def c_lBehind : AFn :=
⟨(O [E 2]
 (O [V 6 0, ⟨some 7, none, .call 64 [(.tmp 6)], []⟩, V 5 7, ⟨some 8, none, .q (.ext (.tmp 5) 0), []⟩, ⟨some 9, none, .q (.ext (.tmp 5) 1), []⟩, V 3 8, V 4 9]
 (O [V 10 4, V 2 10]
 .ret))), [.tmp 2], 11⟩
theorem c_lBehind_is : cFunc Proofs.Try.prog Proofs.Try.f30 = some (eraseF c_lBehind) := by kernel_rfl
theorem call_lBehind {args : List Value} {h : Heap} {K : Value → Heap → Prop} (hl : args.length ≤ 11) (k : pwp Proofs.Try.prog c_lBehind.body (BodyK c_lBehind.results K) (enterF args) h) : PCall Proofs.Try.prog 30 args h K :=
  pcall_of (by kernel_rfl) (by kernel_rfl) c_lBehind_is (by kernel_rfl) hl k
end Pm
/- Codes of the program's functions, as a program printed them, and that they are what the program's functions are compiled to.
   No condition: plain facts. -/
namespace Pm
set_option linter.unusedSimpArgs false
set_option linter.unusedVariables false
open Go Am
set_option maxRecDepth 100000
def c_irUses : AFn :=
⟨(O [⟨some 1, none, .e (.box 4 4 (.tmp 0)), []⟩, ⟨some 2, none, .q (.val (.const (.int .u64 0))), []⟩]
 (O [LA 3 4 1, ⟨some 4, none, .call 104 [(.tmp 3), (.const (.int .u8 3))], []⟩, V 2 4]
 .ret)), [.tmp 2], 5⟩
theorem c_irUses_is : cFunc Proofs.Try.prog Proofs.Try.f91 = some (eraseF c_irUses) := by kernel_rfl
theorem call_irUses {args : List Value} {h : Heap} {K : Value → Heap → Prop} (hl : args.length ≤ 5) (k : pwp Proofs.Try.prog c_irUses.body (BodyK c_irUses.results K) (enterF args) h) : PCall Proofs.Try.prog 91 args h K :=
  pcall_of (by kernel_rfl) (by kernel_rfl) c_irUses_is (by kernel_rfl) hl k
def c_R2Uses : AFn :=
⟨(O [⟨some 1, none, .e (.box 4 4 (.tmp 0)), []⟩, ⟨some 2, none, .q (.val (.const (.int .u64 0))), []⟩]
 (O [LA 3 4 1, ⟨some 4, none, .call 93 [(.tmp 3), (.const (.int .i64 3))], []⟩, V 2 4]
 .ret)), [.tmp 2], 5⟩
theorem c_R2Uses_is : cFunc Proofs.Try.prog Proofs.Try.f70 = some (eraseF c_R2Uses) := by kernel_rfl
theorem call_R2Uses {args : List Value} {h : Heap} {K : Value → Heap → Prop} (hl : args.length ≤ 5) (k : pwp Proofs.Try.prog c_R2Uses.body (BodyK c_R2Uses.results K) (enterF args) h) : PCall Proofs.Try.prog 70 args h K :=
  pcall_of (by kernel_rfl) (by kernel_rfl) c_R2Uses_is (by kernel_rfl) hl k
def c_r15read : AFn :=
⟨(O [T 8 false]
 (O [V 12 0, Ln 13 12, ⟨some 14, none, .e (.make [(.bool false)] 1 (.tmp 13) (.tmp 13)), []⟩, V 9 14]
 (O [V 15 3, ⟨some 16, none, .e (.lit [(.int .i64 0)] 1 1 [(0, 1, (.tmp 15))]), []⟩, V 10 16]
 (.seq (.block 0 (.loop (.seq (O [V 17 10, Ln 18 17, Bn 19 .gtr 18 0]
 (.cond (.tmp 19)
 .skip
 (.exit 0)))
 (.block 1 (O [V 20 10, V 21 10, Ln 22 21, Bn 23 .sub 22 1, X 24 1 20 23, L 25 24, V 11 25]
 (O [V 26 10, V 27 10, Ln 28 27, Bn 29 .sub 28 1, ⟨some 30, none, .q (.cut 1 (.tmp 26) none (some (.tmp 29))), []⟩, V 10 30]
 (.seq (O [V 31 11, Bn 32 .lss 31 0, V 33 32, Gd 33 false (V 34 11), Gd 33 false (V 35 0), Gd 33 false (Ln 36 35), Gd 33 false (B 37 .geq 34 36), ⟨some 38, none, .q (.pick (.tmp 33) (.const (.bool true)) (.tmp 37)), []⟩, V 39 38, Gd 39 false (V 40 9), Gd 39 false (V 41 11), Gd 39 false (X 42 1 40 41), Gd 39 false (L 43 42), ⟨some 44, none, .q (.pick (.tmp 39) (.const (.bool true)) (.tmp 43)), []⟩]
 (.cond (.tmp 44)
 (.exit 1)
 .skip))
 (O [V 45 9, V 46 11, X 47 1 45 46, ⟨none, none, .e (.store 1 (.tmp 47) (.const (.bool true))), []⟩]
 (.seq (O [V 48 0, V 49 11, X 50 4 48 49, LA 51 4 50, ⟨some 52, none, .call 70 [(.tmp 51)], []⟩, V 53 2, ⟨some 54, none, .call 27 [(.tmp 52), (.tmp 53)], []⟩]
 (.cond (.tmp 54)
 (O [T 8 true]
 .ret)
 .skip))
 (O [V 55 0, V 56 11, X 57 4 55 56, LA 58 4 57, ⟨some 59, none, .call 71 [(.tmp 58)], []⟩, V 60 2, ⟨some 61, none, .call 27 [(.tmp 59), (.tmp 60)], []⟩, Nt 62 61]
 (.cond (.tmp 62)
 (.ops [V 63 10, V 64 1, V 65 11, X 66 1 64 65, L 67 66, Ap 68 1 63 67, V 10 68])
 .skip)))))))))))
 (O [T 8 false]
 .ret))))), [.tmp 8], 69⟩
theorem c_r15read_is : cFunc Proofs.Try.prog Proofs.Try.f67 = some (eraseF c_r15read) := by kernel_rfl
theorem call_r15read {args : List Value} {h : Heap} {K : Value → Heap → Prop} (hl : args.length ≤ 69) (k : pwp Proofs.Try.prog c_r15read.body (BodyK c_r15read.results K) (enterF args) h) : PCall Proofs.Try.prog 67 args h K :=
  pcall_of (by kernel_rfl) (by kernel_rfl) c_r15read_is (by kernel_rfl) hl k
def c_r15Ahead : AFn :=
⟨(O [E 2]
 (.seq (O [V 7 0, Ln 8 7, Bn 9 .gtr 8 60]
 (.cond (.tmp 9)
 (O [E 2]
 .ret)
 .skip))
 (O [V 10 0, ⟨some 11, none, .call 66 [(.tmp 10)], []⟩, V 3 11]
 (O [V 12 0, Ln 13 12, ⟨some 14, none, .e (.make [(.int .u64 0)] 1 (.tmp 13) (.tmp 13)), []⟩, V 4 14]
 (.seq (O [N 5 0]
 (.block 0 (.loop (.seq (O [V 15 5, V 16 0, Ln 17 16, B 18 .lss 15 17]
 (.cond (.tmp 18)
 .skip
 (.exit 0)))
 (.seq (.block 1 (O [N 6 0]
 (.block 2 (.loop (.seq (O [V 21 6, Bn 22 .lss 21 64]
 (.cond (.tmp 22)
 .skip
 (.exit 2)))
 (.seq (.block 3 (O [V 25 0, V 26 3, V 27 6, V 28 5, Z 1 26, ⟨some 29, none, .call 67 [(.tmp 25), (.tmp 26), (.tmp 27), (.tmp 28)], []⟩]
 (.cond (.tmp 29)
 (.ops [V 30 4, V 31 5, V 32 4, V 33 5, X 34 1 32 33, L 35 34, V 36 6, ⟨some 37, none, .e (.lit [(.int .i64 0)] 1 1 [(0, 1, (.tmp 36))]), []⟩, Z 1 37, ⟨some 38, none, .call 68 [(.tmp 35), (.tmp 37)], []⟩, X 39 1 30 31, S 39 38])
 .skip)))
 (.ops [V 23 6, Bn 24 .add 23 1, V 6 24])))))))
 (.ops [V 19 5, Bn 20 .add 19 1, V 5 20]))))))
 (O [V 40 4, V 2 40]
 .ret)))))), [.tmp 2], 41⟩
theorem c_r15Ahead_is : cFunc Proofs.Try.prog Proofs.Try.f29 = some (eraseF c_r15Ahead) := by kernel_rfl
theorem call_r15Ahead {args : List Value} {h : Heap} {K : Value → Heap → Prop} (hl : args.length ≤ 41) (k : pwp Proofs.Try.prog c_r15Ahead.body (BodyK c_r15Ahead.results K) (enterF args) h) : PCall Proofs.Try.prog 29 args h K :=
  pcall_of (by kernel_rfl) (by kernel_rfl) c_r15Ahead_is (by kernel_rfl) hl k
def c_r15Behind : AFn :=
⟨(O [E 2]
 (.seq (O [V 8 0, Ln 9 8, Bn 10 .gtr 9 60]
 (.cond (.tmp 10)
 (O [E 2]
 .ret)
 .skip))
 (O [V 11 0, ⟨some 12, none, .call 66 [(.tmp 11)], []⟩, V 3 12]
 (O [V 13 0, Ln 14 13, ⟨some 15, none, .e (.make [(.int .u64 0)] 1 (.tmp 14) (.tmp 14)), []⟩, V 4 15]
 (.seq (O [N 5 0]
 (.block 0 (.loop (.seq (O [V 16 5, V 17 0, Ln 18 17, B 19 .lss 16 18]
 (.cond (.tmp 19)
 .skip
 (.exit 0)))
 (.seq (.block 1 (O [N 6 0]
 (.block 2 (.loop (.seq (O [V 22 6, Bn 23 .lss 22 64]
 (.cond (.tmp 23)
 .skip
 (.exit 2)))
 (.seq (.block 3 (O [N 7 0]
 (.block 4 (.loop (.seq (O [V 26 7, V 27 3, V 28 5, X 29 1 27 28, L 30 29, Ln 31 30, B 32 .lss 26 31]
 (.cond (.tmp 32)
 .skip
 (.exit 4)))
 (.seq (.block 5 (O [V 35 0, V 36 3, V 37 6, V 38 3, V 39 5, X 40 1 38 39, L 41 40, V 42 7, X 43 1 41 42, L 44 43, Z 1 36, ⟨some 45, none, .call 67 [(.tmp 35), (.tmp 36), (.tmp 37), (.tmp 44)], []⟩]
 (.cond (.tmp 45)
 (.ops [V 46 4, V 47 5, V 48 4, V 49 5, X 50 1 48 49, L 51 50, V 52 6, ⟨some 53, none, .e (.lit [(.int .i64 0)] 1 1 [(0, 1, (.tmp 52))]), []⟩, Z 1 53, ⟨some 54, none, .call 68 [(.tmp 51), (.tmp 53)], []⟩, X 55 1 46 47, S 55 54])
 .skip)))
 (.ops [V 33 7, Bn 34 .add 33 1, V 7 34])))))))
 (.ops [V 24 6, Bn 25 .add 24 1, V 6 25])))))))
 (.ops [V 20 5, Bn 21 .add 20 1, V 5 21]))))))
 (O [V 56 4, V 2 56]
 .ret)))))), [.tmp 2], 57⟩
theorem c_r15Behind_is : cFunc Proofs.Try.prog Proofs.Try.f31 = some (eraseF c_r15Behind) := by kernel_rfl
theorem call_r15Behind {args : List Value} {h : Heap} {K : Value → Heap → Prop} (hl : args.length ≤ 57) (k : pwp Proofs.Try.prog c_r15Behind.body (BodyK c_r15Behind.results K) (enterF args) h) : PCall Proofs.Try.prog 31 args h K :=
  pcall_of (by kernel_rfl) (by kernel_rfl) c_r15Behind_is (by kernel_rfl) hl k
def c_irRel : AFn :=
⟨(O [T 2 false]
 (O [V 6 0, ⟨some 7, none, .call 122 [(.tmp 6)], []⟩, V 5 7, ⟨some 8, none, .q (.ext (.tmp 5) 0), []⟩, ⟨some 9, none, .q (.ext (.tmp 5) 1), []⟩, ⟨some 3, none, .e (.new [(.string ⟨#[]⟩), (.int .u8 0), (.int .u8 0), (.int .u8 0), (.bool false), (.bool false), (.bool false)] 7), []⟩, ⟨none, none, .e (.store 7 (.tmp 3) (.tmp 8)), []⟩, V 4 9]
 (O [FA 10 6 3, L 11 10, V 2 11]
 .ret))), [.tmp 2], 12⟩
theorem c_irRel_is : cFunc Proofs.Try.prog Proofs.Try.f109 = some (eraseF c_irRel) := by kernel_rfl
theorem call_irRel {args : List Value} {h : Heap} {K : Value → Heap → Prop} (hl : args.length ≤ 12) (k : pwp Proofs.Try.prog c_irRel.body (BodyK c_irRel.results K) (enterF args) h) : PCall Proofs.Try.prog 109 args h K :=
  pcall_of (by kernel_rfl) (by kernel_rfl) c_irRel_is (by kernel_rfl) hl k
def c_R2Rel : AFn :=
⟨(O [T 2 false]
 (O [V 3 0, Bk 4 .eql 3 .u8 12, V 5 4, Gd 5 false (V 6 0), Gd 5 false (Bk 7 .eql 6 .u8 14), ⟨some 8, none, .q (.pick (.tmp 5) (.const (.bool true)) (.tmp 7)), []⟩, V 9 8, Gd 9 false (V 10 0), Gd 9 false (Bk 11 .eql 10 .u8 16), ⟨some 12, none, .q (.pick (.tmp 9) (.const (.bool true)) (.tmp 11)), []⟩, V 13 12, Gd 13 false (V 14 0), Gd 13 false (Bk 15 .geq 14 .u8 18), Gd 13 false (V 16 15), Gd 16 true (V 17 0), Gd 16 true (Bk 18 .leq 17 .u8 24), Gd 13 false (Pk 19 16 18 false), ⟨some 20, none, .q (.pick (.tmp 13) (.const (.bool true)) (.tmp 19)), []⟩, V 21 20, Gd 21 false (V 22 0), Gd 21 false (Bk 23 .eql 22 .u8 27), ⟨some 24, none, .q (.pick (.tmp 21) (.const (.bool true)) (.tmp 23)), []⟩, V 2 24]
 .ret)), [.tmp 2], 25⟩
theorem c_R2Rel_is : cFunc Proofs.Try.prog Proofs.Try.f39 = some (eraseF c_R2Rel) := by kernel_rfl
theorem call_R2Rel {args : List Value} {h : Heap} {K : Value → Heap → Prop} (hl : args.length ≤ 25) (k : pwp Proofs.Try.prog c_R2Rel.body (BodyK c_R2Rel.results K) (enterF args) h) : PCall Proofs.Try.prog 39 args h K :=
  pcall_of (by kernel_rfl) (by kernel_rfl) c_R2Rel_is (by kernel_rfl) hl k
end Pm
/- Codes of the program's functions, as a program printed them, and that they are what the program's functions are compiled to.
   No condition: plain facts. -/
namespace Pm
set_option linter.unusedSimpArgs false
set_option linter.unusedVariables false
open Go Am
set_option maxRecDepth 100000
def c_known15 : AFn :=
⟨(O [T 0 false]
 (O [⟨some 4, none, .q (.build [(.int .u8 0), (.int .i64 0), (.int .i64 0), (.int .i64 0)] [(0, 1, (.const (.int .u8 1))), (2, 1, (.const (.int .i64 1)))]), []⟩, ⟨some 5, none, .q (.build [(.int .u8 0), (.int .i64 0), (.int .i64 0), (.int .i64 0)] [(0, 1, (.const (.int .u8 9)))]), []⟩, ⟨some 6, none, .e (.lit [(.int .u8 0), (.int .i64 0), (.int .i64 0), (.int .i64 0), (.int .u8 0), (.int .i64 0), (.int .i64 0), (.int .i64 0)] 4 2 [(0, 4, (.tmp 4)), (4, 4, (.tmp 5))]), []⟩, V 1 6]
 (O [V 7 1, Z 4 7, ⟨some 8, none, .call 25 [(.tmp 7)], []⟩, V 2 8]
 (O [V 9 1, Z 4 9, ⟨some 10, none, .call 30 [(.tmp 9)], []⟩, V 3 10]
 (O [V 11 2, Ln 12 11, Bn 13 .eql 12 2, V 14 13, Gd 14 true (V 15 3), Gd 14 true (Ln 16 15), Gd 14 true (Bn 17 .eql 16 2), Pk 18 14 17 false, V 19 18, Gd 19 true (V 20 2), ⟨some 21, some (19, true), .q (.idxA 1 (.tmp 20) (.const (.int .i64 0))), []⟩, Gd 19 true (L 22 21), Gd 19 true (Bk 23 .eql 22 .u64 0), Pk 24 19 23 false, V 25 24, Gd 25 true (V 26 3), ⟨some 27, some (25, true), .q (.idxA 1 (.tmp 26) (.const (.int .i64 0))), []⟩, Gd 25 true (L 28 27), Gd 25 true (Bk 29 .eql 28 .u64 1), Pk 30 25 29 false, V 31 30, Gd 31 true (V 32 2), ⟨some 33, some (31, true), .q (.idxA 1 (.tmp 32) (.const (.int .i64 1))), []⟩, Gd 31 true (L 34 33), Gd 31 true (Bk 35 .eql 34 .u64 1), Pk 36 31 35 false, V 37 36, Gd 37 true (V 38 3), ⟨some 39, some (37, true), .q (.idxA 1 (.tmp 38) (.const (.int .i64 1))), []⟩, Gd 37 true (L 40 39), Gd 37 true (Bk 41 .eql 40 .u64 0), Pk 42 37 41 false, V 0 42]
 .ret))))), [.tmp 0], 43⟩
theorem c_known15_is : cFunc Proofs.Try.prog Proofs.Try.f26 = some (eraseF c_known15) := by kernel_rfl
theorem call_known15 {args : List Value} {h : Heap} {K : Value → Heap → Prop} (hl : args.length ≤ 43) (k : pwp Proofs.Try.prog c_known15.body (BodyK c_known15.results K) (enterF args) h) : PCall Proofs.Try.prog 26 args h K :=
  pcall_of (by kernel_rfl) (by kernel_rfl) c_known15_is (by kernel_rfl) hl k
def c_same15 : AFn :=
⟨(O [T 4 false]
 (.seq (O [V 6 0, Ln 7 6, V 8 1, Ln 9 8, B 10 .neq 7 9]
 (.cond (.tmp 10)
 (O [T 4 false]
 .ret)
 .skip))
 (.seq (O [N 5 0]
 (.block 0 (.loop (.seq (O [V 11 5, V 12 0, Ln 13 12, B 14 .lss 11 13]
 (.cond (.tmp 14)
 .skip
 (.exit 0)))
 (.seq (.block 1 (O [V 17 0, V 18 5, X 19 1 17 18, L 20 19, V 21 1, V 22 5, X 23 1 21 22, L 24 23, B 25 .neq 20 24]
 (.cond (.tmp 25)
 (O [T 4 false]
 .ret)
 .skip)))
 (.ops [V 15 5, Bn 16 .add 15 1, V 5 16]))))))
 (O [T 4 true]
 .ret)))), [.tmp 4], 26⟩
theorem c_same15_is : cFunc Proofs.Try.prog Proofs.Try.f28 = some (eraseF c_same15) := by kernel_rfl
theorem call_same15 {args : List Value} {h : Heap} {K : Value → Heap → Prop} (hl : args.length ≤ 26) (k : pwp Proofs.Try.prog c_same15.body (BodyK c_same15.results K) (enterF args) h) : PCall Proofs.Try.prog 28 args h K :=
  pcall_of (by kernel_rfl) (by kernel_rfl) c_same15_is (by kernel_rfl) hl k
def c_uses15 : AFn :=
⟨(O [⟨some 1, none, .e (.box 4 4 (.tmp 0)), []⟩, ⟨some 2, none, .q (.val (.const (.int .u64 0))), []⟩]
 (O [LA 3 4 1, ⟨some 4, none, .call 70 [(.tmp 3)], []⟩, V 2 4]
 .ret)), [.tmp 2], 5⟩
theorem c_uses15_is : cFunc Proofs.Try.prog Proofs.Try.f35 = some (eraseF c_uses15) := by kernel_rfl
theorem call_uses15 {args : List Value} {h : Heap} {K : Value → Heap → Prop} (hl : args.length ≤ 5) (k : pwp Proofs.Try.prog c_uses15.body (BodyK c_uses15.results K) (enterF args) h) : PCall Proofs.Try.prog 35 args h K :=
  pcall_of (by kernel_rfl) (by kernel_rfl) c_uses15_is (by kernel_rfl) hl k
def c_sets15 : AFn :=
⟨(O [⟨some 1, none, .e (.box 4 4 (.tmp 0)), []⟩, ⟨some 2, none, .q (.val (.const (.int .u64 0))), []⟩]
 (O [LA 3 4 1, ⟨some 4, none, .call 71 [(.tmp 3)], []⟩, V 2 4]
 .ret)), [.tmp 2], 5⟩
theorem c_sets15_is : cFunc Proofs.Try.prog Proofs.Try.f36 = some (eraseF c_sets15) := by kernel_rfl
theorem call_sets15 {args : List Value} {h : Heap} {K : Value → Heap → Prop} (hl : args.length ≤ 5) (k : pwp Proofs.Try.prog c_sets15.body (BodyK c_sets15.results K) (enterF args) h) : PCall Proofs.Try.prog 36 args h K :=
  pcall_of (by kernel_rfl) (by kernel_rfl) c_sets15_is (by kernel_rfl) hl k
def c_LiveNone : AFn :=
⟨(O [T 4 false]
 (O [E 5]
 (.seq (O [N 6 0]
 (.block 0 (.loop (.seq (O [V 13 6, V 14 0, Ln 15 14, B 16 .lss 13 15, V 17 16, Gd 17 true (V 18 6), Gd 17 true (Bn 19 .lss 18 40), Pk 20 17 19 false]
 (.cond (.tmp 20)
 .skip
 (.exit 0)))
 (.seq (.block 1 (.ops [V 23 5, ⟨some 24, none, .q (.build [(.int .u8 0), (.int .i64 0), (.int .i64 0), (.int .i64 0)] []), []⟩, V 25 0, V 26 6, X 27 1 25 26, L 28 27, Bk 29 .quo 28 .u8 4, Bk 30 .rem 29 .u8 4, Cv' 31 .i64 30, ⟨some 32, none, .q (.build [(.int .u8 0), (.int .i64 0), (.int .i64 0), (.int .i64 0)] [(0, 1, (.const (.int .u8 1))), (1, 1, (.tmp 31))]), []⟩, V 33 0, V 34 6, X 35 1 33 34, L 36 35, Bk 37 .quo 36 .u8 4, Bk 38 .rem 37 .u8 4, Cv' 39 .i64 38, ⟨some 40, none, .q (.build [(.int .u8 0), (.int .i64 0), (.int .i64 0), (.int .i64 0)] [(0, 1, (.const (.int .u8 7))), (1, 1, (.tmp 39))]), []⟩, ⟨some 41, none, .q (.build [(.int .u8 0), (.int .i64 0), (.int .i64 0), (.int .i64 0)] [(0, 1, (.const (.int .u8 13)))]), []⟩, V 43 0, V 44 6, X 45 1 43 44, L 46 45, Bk 47 .rem 46 .u8 4, ⟨some 42, none, .e (.lit [(.int .u8 0), (.int .i64 0), (.int .i64 0), (.int .i64 0), (.int .u8 0), (.int .i64 0), (.int .i64 0), (.int .i64 0), (.int .u8 0), (.int .i64 0), (.int .i64 0), (.int .i64 0), (.int .u8 0), (.int .i64 0), (.int .i64 0), (.int .i64 0)] 4 4 [(0, 4, (.tmp 24)), (4, 4, (.tmp 32)), (8, 4, (.tmp 40)), (12, 4, (.tmp 41))]), []⟩, X 48 4 42 47, LA 49 4 48, ⟨some 50, none, .e (.lit [(.int .u8 0), (.int .i64 0), (.int .i64 0), (.int .i64 0)] 4 1 [(0, 4, (.tmp 49))]), []⟩, Ap 51 4 23 50, V 5 51]))
 (.ops [V 21 6, Bn 22 .add 21 1, V 6 22]))))))
 (O [V 52 5, Z 4 52, ⟨some 53, none, .call 25 [(.tmp 52)], []⟩, V 7 53]
 (.seq (O [N 8 0]
 (.block 2 (.loop (.seq (O [V 54 8, V 55 7, Ln 56 55, B 57 .lss 54 56]
 (.cond (.tmp 57)
 .skip
 (.exit 2)))
 (.seq (.block 3 (O [V 60 7, V 61 8, X 62 1 60 61, L 63 62, Bk 64 .neq 63 .u64 0]
 (.cond (.tmp 64)
 (O [T 4 false]
 .ret)
 .skip)))
 (.ops [V 58 8, Bn 59 .add 58 1, V 8 59]))))))
 (O [V 65 1, Bk 66 .rem 65 .u8 4, Cv' 67 .i64 66, V 9 67]
 (O [T 10 false]
 (.seq (O [N 11 0]
 (.block 4 (.loop (.seq (O [V 68 11, V 69 5, Ln 70 69, B 71 .lss 68 70]
 (.cond (.tmp 71)
 .skip
 (.exit 4)))
 (.seq (.block 5 (.ops [V 74 10, V 75 74, Gd 75 false (V 76 5), Gd 75 false (V 77 11), Gd 75 false (X 78 4 76 77), Gd 75 false (FA 79 0 78), Gd 75 false (L 80 79), Gd 75 false (Bk 81 .eql 80 .u8 1), Gd 75 false (V 82 81), Gd 82 false (V 83 5), Gd 82 false (V 84 11), Gd 82 false (X 85 4 83 84), Gd 82 false (FA 86 0 85), Gd 82 false (L 87 86), Gd 82 false (Bk 88 .eql 87 .u8 7), ⟨some 89, some (75, false), .q (.pick (.tmp 82) (.const (.bool true)) (.tmp 88)), []⟩, Gd 75 false (V 90 89), Gd 90 true (V 91 5), Gd 90 true (V 92 11), Gd 90 true (X 93 4 91 92), Gd 90 true (FA 94 1 93), Gd 90 true (L 95 94), Gd 90 true (V 96 9), Gd 90 true (B 97 .eql 95 96), Gd 75 false (Pk 98 90 97 false), ⟨some 99, none, .q (.pick (.tmp 75) (.const (.bool true)) (.tmp 98)), []⟩, V 10 99]))
 (.ops [V 72 11, Bn 73 .add 72 1, V 11 73]))))))
 (O [V 100 5, V 101 9, ⟨some 102, none, .q (.build [(.int .u8 0), (.int .i64 0), (.int .i64 0), (.int .i64 0)] [(0, 1, (.const (.int .u8 9))), (1, 1, (.tmp 101))]), []⟩, ⟨some 103, none, .e (.lit [(.int .u8 0), (.int .i64 0), (.int .i64 0), (.int .i64 0)] 4 1 [(0, 4, (.tmp 102))]), []⟩, Ap 104 4 100 103, V 5 104]
 (O [V 105 5, Z 4 105, ⟨some 106, none, .call 25 [(.tmp 105)], []⟩, V 12 106]
 (O [⟨some 107, none, .call 26 [], []⟩, V 108 107, Gd 108 true (V 109 7), Gd 108 true (Ln 110 109), Gd 108 true (V 111 5), Gd 108 true (Ln 112 111), Gd 108 true (Bn 113 .sub 112 1), Gd 108 true (B 114 .eql 110 113), Pk 115 108 114 false, V 116 115, Gd 116 true (V 117 12), Gd 116 true (Ln 118 117), Gd 116 true (V 119 5), Gd 116 true (Ln 120 119), Gd 116 true (B 121 .eql 118 120), Pk 122 116 121 false, V 123 122, Gd 123 true (V 124 12), ⟨some 125, some (123, true), .q (.idxA 1 (.tmp 124) (.const (.int .i64 0))), []⟩, Gd 123 true (L 126 125), Gd 123 true (V 127 9), ⟨some 128, some (123, true), .call 27 [(.tmp 126), (.tmp 127)], []⟩, Gd 123 true (V 129 10), Gd 123 true (Nt 130 129), ⟨some 131, some (123, true), .q (.eqB false (.tmp 128) (.tmp 130)), []⟩, Pk 132 123 131 false, V 4 132]
 .ret))))))))))), [.tmp 4], 133⟩
theorem c_LiveNone_is : cFunc Proofs.Try.prog Proofs.Try.f5 = some (eraseF c_LiveNone) := by kernel_rfl
theorem call_LiveNone {args : List Value} {h : Heap} {K : Value → Heap → Prop} (hl : args.length ≤ 133) (k : pwp Proofs.Try.prog c_LiveNone.body (BodyK c_LiveNone.results K) (enterF args) h) : PCall Proofs.Try.prog 5 args h K :=
  pcall_of (by kernel_rfl) (by kernel_rfl) c_LiveNone_is (by kernel_rfl) hl k
def c_LiveSteps : AFn :=
⟨(O [T 2 false]
 (O [V 10 0, ⟨some 11, none, .call 19 [(.tmp 10)], []⟩, F 12 6 11, ⟨some 13, none, .q (.idxA 1 (.tmp 12) (.const (.int .i64 0))), []⟩, L 14 13, V 3 14]
 (O [V 15 3, Z 4 15, ⟨some 16, none, .call 25 [(.tmp 15)], []⟩, V 4 16]
 (O [V 17 3, Z 4 17, ⟨some 18, none, .call 30 [(.tmp 17)], []⟩, V 5 18]
 (.seq (O [V 19 4, Ln 20 19, V 21 3, Ln 22 21, B 23 .neq 20 22, V 24 23, Gd 24 false (V 25 5), Gd 24 false (Ln 26 25), Gd 24 false (V 27 3), Gd 24 false (Ln 28 27), Gd 24 false (B 29 .neq 26 28), ⟨some 30, none, .q (.pick (.tmp 24) (.const (.bool true)) (.tmp 29)), []⟩]
 (.cond (.tmp 30)
 (O [T 2 false]
 .ret)
 .skip))
 (.seq (O [N 6 0]
 (.block 0 (.loop (.seq (O [V 31 6, V 32 3, Ln 33 32, B 34 .lss 31 33]
 (.cond (.tmp 34)
 .skip
 (.exit 0)))
 (.seq (.block 1 (O [N 7 0]
 (.block 2 (.loop (.seq (O [V 37 7, Bn 38 .lss 37 4]
 (.cond (.tmp 38)
 .skip
 (.exit 2)))
 (.seq (.block 3 (O [V 41 3, V 42 6, X 43 4 41 42, LA 44 4 43, ⟨some 45, none, .call 35 [(.tmp 44)], []⟩, V 46 7, ⟨some 47, none, .call 27 [(.tmp 45), (.tmp 46)], []⟩, V 8 47]
 (O [V 48 3, V 49 6, X 50 4 48 49, LA 51 4 50, ⟨some 52, none, .call 36 [(.tmp 51)], []⟩, V 53 7, ⟨some 54, none, .call 27 [(.tmp 52), (.tmp 53)], []⟩, V 9 54]
 (O [V 55 4, V 56 6, X 57 1 55 56, L 58 57, V 59 7, ⟨some 60, none, .call 27 [(.tmp 58), (.tmp 59)], []⟩, V 61 8, V 62 61, Gd 62 false (V 63 5), Gd 62 false (V 64 6), Gd 62 false (X 65 1 63 64), Gd 62 false (L 66 65), Gd 62 false (V 67 7), ⟨some 68, some (62, false), .call 27 [(.tmp 66), (.tmp 67)], []⟩, Gd 62 false (V 69 68), Gd 69 true (V 70 9), Gd 69 true (Nt 71 70), Gd 62 false (Pk 72 69 71 false), ⟨some 73, none, .q (.pick (.tmp 62) (.const (.bool true)) (.tmp 72)), []⟩, ⟨some 74, none, .q (.eqB true (.tmp 60) (.tmp 73)), []⟩]
 (.cond (.tmp 74)
 (O [T 2 false]
 .ret)
 .skip)))))
 (.ops [V 39 7, Bn 40 .add 39 1, V 7 40])))))))
 (.ops [V 35 6, Bn 36 .add 35 1, V 6 36]))))))
 (O [⟨some 75, none, .call 26 [], []⟩, V 2 75]
 .ret))))))), [.tmp 2], 76⟩
theorem c_LiveSteps_is : cFunc Proofs.Try.prog Proofs.Try.f8 = some (eraseF c_LiveSteps) := by kernel_rfl
theorem call_LiveSteps {args : List Value} {h : Heap} {K : Value → Heap → Prop} (hl : args.length ≤ 76) (k : pwp Proofs.Try.prog c_LiveSteps.body (BodyK c_LiveSteps.results K) (enterF args) h) : PCall Proofs.Try.prog 8 args h K :=
  pcall_of (by kernel_rfl) (by kernel_rfl) c_LiveSteps_is (by kernel_rfl) hl k
def c_LiveTells : AFn :=
⟨(O [T 6 false]
 (.seq (O [V 9 0, Ln 10 9, Bn 11 .gtr 10 65, V 12 11, ⟨some 13, some (12, false), .call 26 [], []⟩, Gd 12 false (Nt 14 13), ⟨some 15, none, .q (.pick (.tmp 12) (.const (.bool true)) (.tmp 14)), []⟩]
 (.cond (.tmp 15)
 (O [⟨some 16, none, .call 26 [], []⟩, V 6 16]
 .ret)
 .skip))
 (O [V 17 1, ⟨some 18, none, .call 19 [(.tmp 17)], []⟩, ⟨some 7, none, .e (.new [(.int .i64 0), (.int .i64 0), (.int .i64 0), (.slice none 0 0), (.int .i64 0), (.int .i64 0), (.slice none 0 0)] 7), []⟩, ⟨none, none, .e (.store 7 (.tmp 7) (.tmp 18)), []⟩]
 (O [FA 19 6 7, L 20 19, V 21 2, Cv' 22 .i64 21, FA 23 6 7, L 24 23, Ln 25 24, B 26 .rem 22 25, X 27 1 20 26, L 28 27, V 8 28]
 (O [V 29 0, ⟨some 30, none, .call 25 [(.tmp 29)], []⟩, V 31 0, ⟨some 32, none, .call 29 [(.tmp 31)], []⟩, Z 1 30, Z 1 32, ⟨some 33, none, .call 28 [(.tmp 30), (.tmp 32)], []⟩, V 34 33, Gd 34 true (V 35 0), ⟨some 36, some (34, true), .call 30 [(.tmp 35)], []⟩, Gd 34 true (V 37 0), ⟨some 38, some (34, true), .call 31 [(.tmp 37)], []⟩, ⟨some 39, some (34, true), .call 28 [(.tmp 36), (.tmp 38)], []⟩, Pk 40 34 39 false, V 41 40, Gd 41 true (V 42 8), ⟨some 43, some (41, true), .call 25 [(.tmp 42)], []⟩, Gd 41 true (V 44 8), ⟨some 45, some (41, true), .call 29 [(.tmp 44)], []⟩, ⟨some 46, some (41, true), .call 28 [(.tmp 43), (.tmp 45)], []⟩, Pk 47 41 46 false, V 48 47, Gd 48 true (V 49 8), ⟨some 50, some (48, true), .call 30 [(.tmp 49)], []⟩, Gd 48 true (V 51 8), ⟨some 52, some (48, true), .call 31 [(.tmp 51)], []⟩, ⟨some 53, some (48, true), .call 28 [(.tmp 50), (.tmp 52)], []⟩, Pk 54 48 53 false, V 6 54]
 .ret))))), [.tmp 6], 55⟩
theorem c_LiveTells_is : cFunc Proofs.Try.prog Proofs.Try.f6 = some (eraseF c_LiveTells) := by kernel_rfl
theorem call_LiveTells {args : List Value} {h : Heap} {K : Value → Heap → Prop} (hl : args.length ≤ 55) (k : pwp Proofs.Try.prog c_LiveTells.body (BodyK c_LiveTells.results K) (enterF args) h) : PCall Proofs.Try.prog 6 args h K :=
  pcall_of (by kernel_rfl) (by kernel_rfl) c_LiveTells_is (by kernel_rfl) hl k
end Pm
