/- Codes of the program's functions, as a program printed them, and that they are what the program's functions are compiled to.
   No condition: plain facts. -/

import Derived.KernelRfl
import Derived.Test.YtmdnkninbkcmkaaZHPm5
import Derived.Test.YtmdnkninbkcmkaaProg
namespace Pm
set_option linter.unusedSimpArgs false
set_option linter.unusedVariables false
open Go Am
set_option maxRecDepth 100000
def c_RSame01 : AFn :=
⟨(O [T 4 false]
 (.seq (O [V 6 0, Ln 7 6, V 8 1, Ln 9 8, B 10 .neq 7 9]
 (.cond (.tmp 10)
 (O [T 4 false]
 .ret)
 .skip))
 (.seq (O [N 5 0]
 (.block 0 (.loop (.seq (O [V 11 5, V 12 0, Ln 13 12, B 14 .lss 11 13]
 (.cond (.tmp 14)
 .skip
 (.exit 0)))
 (.seq (.block 1 (O [V 17 0, V 18 5, X 19 1 17 18, L 20 19, V 21 1, V 22 5, X 23 1 21 22, L 24 23, B 25 .neq 20 24]
 (.cond (.tmp 25)
 (O [T 4 false]
 .ret)
 .skip)))
 (.ops [V 15 5, Bn 16 .add 15 1, V 5 16]))))))
 (O [T 4 true]
 .ret)))), [.tmp 4], 26⟩
theorem call_RSame01 {args : List Value} {h : Heap} {K : Value → Heap → Prop} (hl : args.length ≤ 26) (k : pwp Proofs.Try.prog c_RSame01.body (BodyK c_RSame01.results K) (enterF args) h) : PCall Proofs.Try.prog 23 args h K :=
  pcall_of (fn := Proofs.Try.f23) (by kernel_rfl) (by kernel_rfl) (by kernel_rfl) (by kernel_rfl) hl k
def c_RSame10 : AFn :=
⟨(O [T 4 false]
 (.seq (O [V 6 0, Ln 7 6, V 8 1, Ln 9 8, B 10 .neq 7 9]
 (.cond (.tmp 10)
 (O [T 4 false]
 .ret)
 .skip))
 (.seq (O [N 5 0]
 (.block 0 (.loop (.seq (O [V 11 5, V 12 0, Ln 13 12, B 14 .lss 11 13]
 (.cond (.tmp 14)
 .skip
 (.exit 0)))
 (.seq (.block 1 (O [V 17 0, V 18 5, X 19 1 17 18, L 20 19, V 21 1, V 22 5, X 23 1 21 22, L 24 23, Z 1 20, Z 1 24, ⟨some 25, none, .call 23 [(.tmp 20), (.tmp 24)], []⟩, Nt 26 25]
 (.cond (.tmp 26)
 (O [T 4 false]
 .ret)
 .skip)))
 (.ops [V 15 5, Bn 16 .add 15 1, V 5 16]))))))
 (O [T 4 true]
 .ret)))), [.tmp 4], 27⟩
theorem call_RSame10 {args : List Value} {h : Heap} {K : Value → Heap → Prop} (hl : args.length ≤ 27) (k : pwp Proofs.Try.prog c_RSame10.body (BodyK c_RSame10.results K) (enterF args) h) : PCall Proofs.Try.prog 35 args h K :=
  pcall_of (fn := Proofs.Try.f35) (by kernel_rfl) (by kernel_rfl) (by kernel_rfl) (by kernel_rfl) hl k
def c_bools : AFn :=
⟨(O [T 4 false]
 (.seq (O [V 6 0, Ln 7 6, V 8 1, Ln 9 8, B 10 .neq 7 9]
 (.cond (.tmp 10)
 (O [T 4 false]
 .ret)
 .skip))
 (.seq (O [N 5 0]
 (.block 0 (.loop (.seq (O [V 11 5, V 12 0, Ln 13 12, B 14 .lss 11 13]
 (.cond (.tmp 14)
 .skip
 (.exit 0)))
 (.seq (.block 1 (O [V 17 0, V 18 5, X 19 1 17 18, L 20 19, V 21 1, V 22 5, X 23 1 21 22, L 24 23, ⟨some 25, none, .q (.eqB true (.tmp 20) (.tmp 24)), []⟩]
 (.cond (.tmp 25)
 (O [T 4 false]
 .ret)
 .skip)))
 (.ops [V 15 5, Bn 16 .add 15 1, V 5 16]))))))
 (O [T 4 true]
 .ret)))), [.tmp 4], 26⟩
theorem call_bools {args : List Value} {h : Heap} {K : Value → Heap → Prop} (hl : args.length ≤ 26) (k : pwp Proofs.Try.prog c_bools.body (BodyK c_bools.results K) (enterF args) h) : PCall Proofs.Try.prog 37 args h K :=
  pcall_of (fn := Proofs.Try.f37) (by kernel_rfl) (by kernel_rfl) (by kernel_rfl) (by kernel_rfl) hl k
def c_sets : AFn :=
⟨(O [T 4 false]
 (.seq (O [V 6 0, Ln 7 6, V 8 1, Ln 9 8, B 10 .neq 7 9]
 (.cond (.tmp 10)
 (O [T 4 false]
 .ret)
 .skip))
 (.seq (O [N 5 0]
 (.block 0 (.loop (.seq (O [V 11 5, V 12 0, Ln 13 12, B 14 .lss 11 13]
 (.cond (.tmp 14)
 .skip
 (.exit 0)))
 (.seq (.block 1 (O [V 17 0, V 18 5, X 19 1 17 18, L 20 19, V 21 1, V 22 5, X 23 1 21 22, L 24 23, B 25 .neq 20 24]
 (.cond (.tmp 25)
 (O [T 4 false]
 .ret)
 .skip)))
 (.ops [V 15 5, Bn 16 .add 15 1, V 5 16]))))))
 (O [T 4 true]
 .ret)))), [.tmp 4], 26⟩
theorem call_sets {args : List Value} {h : Heap} {K : Value → Heap → Prop} (hl : args.length ≤ 26) (k : pwp Proofs.Try.prog c_sets.body (BodyK c_sets.results K) (enterF args) h) : PCall Proofs.Try.prog 39 args h K :=
  pcall_of (fn := Proofs.Try.f39) (by kernel_rfl) (by kernel_rfl) (by kernel_rfl) (by kernel_rfl) hl k
def c_RPreds : AFn :=
⟨(O [E 2]
 (O [E 3]
 (.seq (O [N 4 0]
 (.block 0 (.loop (.seq (O [V 7 4, V 8 0, Ln 9 8, B 10 .lss 7 9]
 (.cond (.tmp 10)
 .skip
 (.exit 0)))
 (.seq (.block 1 (O [E 5]
 (.seq (O [N 6 0]
 (.block 2 (.loop (.seq (O [V 13 6, V 14 0, Ln 15 14, B 16 .lss 13 15]
 (.cond (.tmp 16)
 .skip
 (.exit 2)))
 (.seq (.block 3 (O [V 19 0, V 20 6, X 21 1 19 20, L 22 21, V 23 4, Z 1 22, ⟨some 24, none, .call 62 [(.tmp 22), (.tmp 23)], []⟩]
 (.cond (.tmp 24)
 (.ops [V 25 5, V 26 6, ⟨some 27, none, .e (.lit [(.int .i64 0)] 1 1 [(0, 1, (.tmp 26))]), []⟩, Ap 28 1 25 27, V 5 28])
 .skip)))
 (.ops [V 17 6, Bn 18 .add 17 1, V 6 18]))))))
 (.ops [V 29 3, V 30 5, Z 1 30, ⟨some 31, none, .e (.lit [(.slice none 0 0)] 1 1 [(0, 1, (.tmp 30))]), []⟩, Ap 32 1 29 31, V 3 32]))))
 (.ops [V 11 4, Bn 12 .add 11 1, V 4 12]))))))
 (O [V 33 3, V 2 33]
 .ret)))), [.tmp 2], 34⟩
theorem call_RPreds {args : List Value} {h : Heap} {K : Value → Heap → Prop} (hl : args.length ≤ 34) (k : pwp Proofs.Try.prog c_RPreds.body (BodyK c_RPreds.results K) (enterF args) h) : PCall Proofs.Try.prog 36 args h K :=
  pcall_of (fn := Proofs.Try.f36) (by kernel_rfl) (by kernel_rfl) (by kernel_rfl) (by kernel_rfl) hl k
def c_without : AFn :=
⟨(O [E 4]
 (O [V 10 0, Ln 11 10, ⟨some 12, none, .e (.make [(.bool false)] 1 (.tmp 11) (.tmp 11)), []⟩, V 5 12]
 (.seq (O [V 13 0, Ln 14 13, Bn 15 .gtr 14 0, V 16 15, Gd 16 true (V 17 1), Gd 16 true (Bn 18 .neq 17 0), Pk 19 16 18 false]
 (.cond (.tmp 19)
 (.ops [V 20 5, ⟨some 21, none, .q (.idxA 1 (.tmp 20) (.const (.int .i64 0))), []⟩, ⟨none, none, .e (.store 1 (.tmp 21) (.const (.bool true))), []⟩])
 .skip))
 (.seq (O [T 6 true]
 (.block 0 (.loop (.seq (O [V 22 6]
 (.cond (.tmp 22)
 .skip
 (.exit 0)))
 (.block 1 (O [T 6 false]
 (O [N 7 0]
 (.block 2 (.loop (.seq (O [V 23 7, V 24 0, Ln 25 24, B 26 .lss 23 25]
 (.cond (.tmp 26)
 .skip
 (.exit 2)))
 (.seq (.block 3 (O [N 8 0]
 (.block 4 (.loop (.seq (O [V 29 8, V 30 0, V 31 7, X 32 1 30 31, L 33 32, Ln 34 33, B 35 .lss 29 34, V 36 35, Gd 36 true (V 37 5), Gd 36 true (V 38 7), Gd 36 true (X 39 1 37 38), Gd 36 true (L 40 39), Pk 41 36 40 false]
 (.cond (.tmp 41)
 .skip
 (.exit 4)))
 (.seq (.block 5 (O [V 44 0, V 45 7, X 46 1 44 45, L 47 46, V 48 8, X 49 1 47 48, L 50 49, V 9 50]
 (O [V 51 9, Bn 52 .geq 51 0, V 53 52, Gd 53 true (V 54 9), Gd 53 true (V 55 0), Gd 53 true (Ln 56 55), Gd 53 true (B 57 .lss 54 56), Pk 58 53 57 false, V 59 58, Gd 59 true (V 60 9), Gd 59 true (V 61 1), Gd 59 true (B 62 .neq 60 61), Pk 63 59 62 false, V 64 63, Gd 64 true (V 65 5), Gd 64 true (V 66 9), Gd 64 true (X 67 1 65 66), Gd 64 true (L 68 67), Gd 64 true (Nt 69 68), Pk 70 64 69 false]
 (.cond (.tmp 70)
 (O [V 71 5, V 72 9, X 73 1 71 72, ⟨none, none, .e (.store 1 (.tmp 73) (.const (.bool true))), []⟩]
 (.ops [T 6 true]))
 .skip))))
 (.ops [V 42 8, Bn 43 .add 42 1, V 8 43])))))))
 (.ops [V 27 7, Bn 28 .add 27 1, V 7 28]))))))))))))
 (O [V 74 5, V 4 74]
 .ret))))), [.tmp 4], 75⟩
theorem call_without {args : List Value} {h : Heap} {K : Value → Heap → Prop} (hl : args.length ≤ 75) (k : pwp Proofs.Try.prog c_without.body (BodyK c_without.results K) (enterF args) h) : PCall Proofs.Try.prog 63 args h K :=
  pcall_of (fn := Proofs.Try.f63) (by kernel_rfl) (by kernel_rfl) (by kernel_rfl) (by kernel_rfl) hl k
def c_RReach : AFn :=
⟨(O [E 2]
 (O [V 3 0, ⟨some 4, none, .call 63 [(.tmp 3), (.const (.int .i64 (-1)))], []⟩, V 2 4]
 .ret)), [.tmp 2], 5⟩
theorem call_RReach {args : List Value} {h : Heap} {K : Value → Heap → Prop} (hl : args.length ≤ 5) (k : pwp Proofs.Try.prog c_RReach.body (BodyK c_RReach.results K) (enterF args) h) : PCall Proofs.Try.prog 38 args h K :=
  pcall_of (fn := Proofs.Try.f38) (by kernel_rfl) (by kernel_rfl) (by kernel_rfl) (by kernel_rfl) hl k
def c_RHas : AFn :=
⟨(O [T 4 false]
 (O [V 5 1, Bn 6 .geq 5 0, V 7 6, Gd 7 true (V 8 1), Gd 7 true (Bn 9 .lss 8 64), Pk 10 7 9 false, V 11 10, Gd 11 true (V 12 0), Gd 11 true (V 13 1), ⟨some 14, some (11, true), .call 52 [(.tmp 13)], []⟩, Gd 11 true (B 15 .quo 12 14), Gd 11 true (Bk 16 .rem 15 .u64 2), Gd 11 true (Bk 17 .eql 16 .u64 1), Pk 18 11 17 false, V 4 18]
 .ret)), [.tmp 4], 19⟩
theorem call_RHas {args : List Value} {h : Heap} {K : Value → Heap → Prop} (hl : args.length ≤ 19) (k : pwp Proofs.Try.prog c_RHas.body (BodyK c_RHas.results K) (enterF args) h) : PCall Proofs.Try.prog 20 args h K :=
  pcall_of (fn := Proofs.Try.f20) (by kernel_rfl) (by kernel_rfl) (by kernel_rfl) (by kernel_rfl) hl k
def c_RWith : AFn :=
⟨(O [⟨some 4, none, .q (.val (.const (.int .u64 0))), []⟩]
 (.seq (O [N 5 0]
 (.block 0 (.loop (.seq (O [V 6 5, V 7 1, Ln 8 7, B 9 .lss 6 8]
 (.cond (.tmp 9)
 .skip
 (.exit 0)))
 (.seq (.block 1 (O [V 12 1, V 13 5, X 14 1 12 13, L 15 14, Bn 16 .geq 15 0, V 17 16, Gd 17 true (V 18 1), Gd 17 true (V 19 5), Gd 17 true (X 20 1 18 19), Gd 17 true (L 21 20), Gd 17 true (Bn 22 .lss 21 64), Pk 23 17 22 false, V 24 23, Gd 24 true (V 25 0), Gd 24 true (V 26 1), Gd 24 true (V 27 5), Gd 24 true (X 28 1 26 27), Gd 24 true (L 29 28), ⟨some 30, some (24, true), .call 20 [(.tmp 25), (.tmp 29)], []⟩, Gd 24 true (Nt 31 30), Pk 32 24 31 false]
 (.cond (.tmp 32)
 (.ops [V 33 0, V 34 1, V 35 5, X 36 1 34 35, L 37 36, ⟨some 38, none, .call 52 [(.tmp 37)], []⟩, B 39 .add 33 38, V 0 39])
 .skip)))
 (.ops [V 10 5, Bn 11 .add 10 1, V 5 11]))))))
 (O [V 40 0, V 4 40]
 .ret))), [.tmp 4], 41⟩
theorem call_RWith {args : List Value} {h : Heap} {K : Value → Heap → Prop} (hl : args.length ≤ 41) (k : pwp Proofs.Try.prog c_RWith.body (BodyK c_RWith.results K) (enterF args) h) : PCall Proofs.Try.prog 64 args h K :=
  pcall_of (fn := Proofs.Try.f64) (by kernel_rfl) (by kernel_rfl) (by kernel_rfl) (by kernel_rfl) hl k
def c_RDoms : AFn :=
⟨(O [E 2]
 (.seq (O [V 8 0, Ln 9 8, Bn 10 .gtr 9 64]
 (.cond (.tmp 10)
 (O [E 2]
 .ret)
 .skip))
 (O [V 11 0, ⟨some 12, none, .call 38 [(.tmp 11)], []⟩, V 3 12]
 (O [V 13 0, Ln 14 13, ⟨some 15, none, .e (.make [(.int .u64 0)] 1 (.tmp 14) (.tmp 14)), []⟩, V 4 15]
 (.seq (O [N 5 0]
 (.block 0 (.loop (.seq (O [V 16 5, V 17 0, Ln 18 17, B 19 .lss 16 18]
 (.cond (.tmp 19)
 .skip
 (.exit 0)))
 (.seq (.block 1 (O [V 22 0, V 23 5, ⟨some 24, none, .call 63 [(.tmp 22), (.tmp 23)], []⟩, V 6 24]
 (O [N 7 0]
 (.block 2 (.loop (.seq (O [V 25 7, V 26 0, Ln 27 26, B 28 .lss 25 27]
 (.cond (.tmp 28)
 .skip
 (.exit 2)))
 (.seq (.block 3 (O [V 31 3, V 32 7, X 33 1 31 32, L 34 33, V 35 34, Gd 35 true (V 36 6), Gd 35 true (V 37 7), Gd 35 true (X 38 1 36 37), Gd 35 true (L 39 38), Gd 35 true (Nt 40 39), Pk 41 35 40 false]
 (.cond (.tmp 41)
 (.ops [V 42 4, V 43 7, V 44 4, V 45 7, X 46 1 44 45, L 47 46, V 48 5, ⟨some 49, none, .e (.lit [(.int .i64 0)] 1 1 [(0, 1, (.tmp 48))]), []⟩, Z 1 49, ⟨some 50, none, .call 64 [(.tmp 47), (.tmp 49)], []⟩, X 51 1 42 43, S 51 50])
 .skip)))
 (.ops [V 29 7, Bn 30 .add 29 1, V 7 30]))))))))
 (.ops [V 20 5, Bn 21 .add 20 1, V 5 21]))))))
 (O [V 52 4, V 2 52]
 .ret)))))), [.tmp 2], 53⟩
theorem call_RDoms {args : List Value} {h : Heap} {K : Value → Heap → Prop} (hl : args.length ≤ 53) (k : pwp Proofs.Try.prog c_RDoms.body (BodyK c_RDoms.results K) (enterF args) h) : PCall Proofs.Try.prog 40 args h K :=
  pcall_of (fn := Proofs.Try.f40) (by kernel_rfl) (by kernel_rfl) (by kernel_rfl) (by kernel_rfl) hl k
def c_tells10 : AFn :=
⟨(O [T 2 false]
 (O [V 3 0, ⟨some 4, none, .call 34 [(.tmp 3)], []⟩, V 5 0, ⟨some 6, none, .call 36 [(.tmp 5)], []⟩, Z 1 4, Z 1 6, ⟨some 7, none, .call 35 [(.tmp 4), (.tmp 6)], []⟩, V 8 7, Gd 8 true (V 9 0), ⟨some 10, some (8, true), .call 33 [(.tmp 9)], []⟩, Gd 8 true (V 11 0), ⟨some 12, some (8, true), .call 38 [(.tmp 11)], []⟩, ⟨some 13, some (8, true), .call 37 [(.tmp 10), (.tmp 12)], []⟩, Pk 14 8 13 false, V 15 14, Gd 15 true (V 16 0), ⟨some 17, some (15, true), .call 12 [(.tmp 16)], []⟩, Gd 15 true (V 18 0), ⟨some 19, some (15, true), .call 40 [(.tmp 18)], []⟩, ⟨some 20, some (15, true), .call 39 [(.tmp 17), (.tmp 19)], []⟩, Pk 21 15 20 false, V 2 21]
 .ret)), [.tmp 2], 22⟩
theorem call_tells10 {args : List Value} {h : Heap} {K : Value → Heap → Prop} (hl : args.length ≤ 22) (k : pwp Proofs.Try.prog c_tells10.body (BodyK c_tells10.results K) (enterF args) h) : PCall Proofs.Try.prog 10 args h K :=
  pcall_of (fn := Proofs.Try.f10) (by kernel_rfl) (by kernel_rfl) (by kernel_rfl) (by kernel_rfl) hl k
def c_CfgGraphs : AFn :=
⟨(O [T 8 false]
 (O [N 9 0]
 (.seq (O [N 10 0]
 (.block 0 (.loop (.seq (O [V 12 10, V 13 0, Ln 14 13, B 15 .lss 12 14]
 (.cond (.tmp 15)
 .skip
 (.exit 0)))
 (.seq (.block 1 (.ops [V 18 9, V 19 0, V 20 10, X 21 1 19 20, L 22 21, Ln 23 22, ⟨some 24, none, .q (.bin .add (.const (.int .i64 1)) (.tmp 23)), []⟩, B 25 .add 18 24, V 9 25]))
 (.ops [V 16 10, Bn 17 .add 16 1, V 10 17]))))))
 (.seq (O [V 26 9, Bn 27 .gtr 26 100, V 28 27, ⟨some 29, some (28, false), .call 9 [], []⟩, Gd 28 false (Nt 30 29), ⟨some 31, none, .q (.pick (.tmp 28) (.const (.bool true)) (.tmp 30)), []⟩]
 (.cond (.tmp 31)
 (O [⟨some 32, none, .call 9 [], []⟩, V 8 32]
 .ret)
 .skip))
 (O [V 33 0, ⟨some 34, none, .call 10 [(.tmp 33)], []⟩, V 35 34, Gd 35 true (V 36 1), Gd 35 true (V 37 2), ⟨some 38, some (35, true), .call 11 [(.tmp 36), (.tmp 37)], []⟩, ⟨some 39, some (35, true), .call 10 [(.tmp 38)], []⟩, Pk 40 35 39 false, V 11 40]
 (O [V 41 11, V 42 41, Gd 42 true (V 43 3), Gd 42 true (Cv' 44 .i64 43), ⟨some 45, some (42, true), .q (.bin .add (.const (.int .i64 65)) (.tmp 44)), []⟩, ⟨some 46, some (42, true), .e (.make [(.slice none 0 0)] 1 (.tmp 45) (.tmp 45)), []⟩, ⟨some 47, some (42, true), .call 12 [(.tmp 46)], []⟩, Gd 42 true (Ln 48 47), Gd 42 true (Bn 49 .eql 48 0), Pk 50 42 49 false, V 8 50]
 .ret)))))), [.tmp 8], 51⟩
theorem call_CfgGraphs {args : List Value} {h : Heap} {K : Value → Heap → Prop} (hl : args.length ≤ 51) (k : pwp Proofs.Try.prog c_CfgGraphs.body (BodyK c_CfgGraphs.results K) (enterF args) h) : PCall Proofs.Try.prog 3 args h K :=
  pcall_of (fn := Proofs.Try.f3) (by kernel_rfl) (by kernel_rfl) (by kernel_rfl) (by kernel_rfl) hl k
end Pm
/- Codes of the program's functions, as a program printed them, and that they are what the program's functions are compiled to.
   No condition: plain facts. -/
namespace Pm
set_option linter.unusedSimpArgs false
set_option linter.unusedVariables false
open Go Am
set_option maxRecDepth 100000
@[irreducible] def len8tab : ByteArray := ⟨#[0, 1, 2, 2, 3, 3, 3, 3, 4, 4, 4, 4, 4, 4, 4, 4, 5, 5, 5, 5, 5, 5, 5, 5, 5, 5, 5, 5, 5, 5, 5, 5, 6, 6, 6, 6, 6, 6, 6, 6, 6, 6, 6, 6, 6, 6, 6, 6, 6, 6, 6, 6, 6, 6, 6, 6, 6, 6, 6, 6, 6, 6, 6, 6, 7, 7, 7, 7, 7, 7, 7, 7, 7, 7, 7, 7, 7, 7, 7, 7, 7, 7, 7, 7, 7, 7, 7, 7, 7, 7, 7, 7, 7, 7, 7, 7, 7, 7, 7, 7, 7, 7, 7, 7, 7, 7, 7, 7, 7, 7, 7, 7, 7, 7, 7, 7, 7, 7, 7, 7, 7, 7, 7, 7, 7, 7, 7, 7, 8, 8, 8, 8, 8, 8, 8, 8, 8, 8, 8, 8, 8, 8, 8, 8, 8, 8, 8, 8, 8, 8, 8, 8, 8, 8, 8, 8, 8, 8, 8, 8, 8, 8, 8, 8, 8, 8, 8, 8, 8, 8, 8, 8, 8, 8, 8, 8, 8, 8, 8, 8, 8, 8, 8, 8, 8, 8, 8, 8, 8, 8, 8, 8, 8, 8, 8, 8, 8, 8, 8, 8, 8, 8, 8, 8, 8, 8, 8, 8, 8, 8, 8, 8, 8, 8, 8, 8, 8, 8, 8, 8, 8, 8, 8, 8, 8, 8, 8, 8, 8, 8, 8, 8, 8, 8, 8, 8, 8, 8, 8, 8, 8, 8, 8, 8, 8, 8, 8, 8, 8, 8, 8, 8, 8, 8, 8, 8]⟩
def c_Len64 : AFn :=
⟨(O [N 2 0]
 (.seq (O [V 3 0, Bk 4 .geq 3 .u64 4294967296]
 (.cond (.tmp 4)
 (O [V 5 0, Bk 6 .shr 5 .u64 32, V 0 6]
 (.ops [N 2 32]))
 .skip))
 (.seq (O [V 7 0, Bk 8 .geq 7 .u64 65536]
 (.cond (.tmp 8)
 (O [V 9 0, Bk 10 .shr 9 .u64 16, V 0 10]
 (.ops [V 11 2, Bn 12 .add 11 16, V 2 12]))
 .skip))
 (.seq (O [V 13 0, Bk 14 .geq 13 .u64 256]
 (.cond (.tmp 14)
 (O [V 15 0, Bk 16 .shr 15 .u64 8, V 0 16]
 (.ops [V 17 2, Bn 18 .add 17 8, V 2 18]))
 .skip))
 (O [V 19 2, V 20 0, Cv' 21 .u8 20, ⟨some 22, none, .q (.idxS (.const (.string len8tab)) (.tmp 21)), []⟩, Cv' 23 .i64 22, B 24 .add 19 23, V 2 24]
 .ret))))), [.tmp 2], 25⟩
def c_Succs : AFn :=
⟨(O [E 2]
 (O [V 7 0, Ln 8 7, ⟨some 9, none, .e (.make [(.slice none 0 0)] 1 (.tmp 8) (.tmp 8)), []⟩, V 3 9]
 (.seq (O [V 10 0, Ln 11 10, N 12 0]
 (.block 0 (.loop (O [B 13 .lss 12 11]
 (.seq (.cond (.tmp 13)
 .skip
 (.exit 0))
 (.seq (.block 1 (O [V 14 12, X 15 4 10 12, LA 16 4 15, ⟨some 5, none, .e (.new [(.int .u8 0), (.int .i64 0), (.int .i64 0), (.int .i64 0)] 4), []⟩, V 4 14, ⟨none, none, .e (.store 4 (.tmp 5) (.tmp 16)), []⟩]
 (O [V 17 4, Bn 18 .add 17 1, ⟨some 19, none, .e (.lit [(.int .i64 0)] 1 1 [(0, 1, (.tmp 18))]), []⟩, V 6 19]
 (.seq (O [FA 20 0 5, L 21 20]
 (.block 2 (O [Bk 23 .eql 21 .u8 10, V 22 23]
 (.cond (.tmp 22)
 (.ops [V 24 6, FA 25 1 5, L 26 25, ⟨some 27, none, .q (.idxA 1 (.tmp 24) (.const (.int .i64 0))), []⟩, S 27 26])
 (O [Bk 29 .eql 21 .u8 11, V 28 29]
 (.cond (.tmp 28)
 (.ops [V 30 6, FA 31 2 5, L 32 31, ⟨some 33, none, .e (.lit [(.int .i64 0)] 1 1 [(0, 1, (.tmp 32))]), []⟩, Ap 34 1 30 33, V 6 34])
 .skip))))))
 (O [V 35 6, ⟨some 36, none, .call 60 [(.tmp 35)], []⟩]
 (.ops [V 37 3, V 38 4, V 39 6, ⟨some 40, none, .call 61 [(.tmp 39)], []⟩, Z 1 40, X 41 1 37 38, S 41 40]))))))
 (.ops [Bn 42 .add 12 1, V 12 42])))))))
 (O [V 43 3, V 2 43]
 .ret)))), [.tmp 2], 44⟩
end Pm
/- Codes of the program's functions, as a program printed them, and that they are what the program's functions are compiled to.
   No condition: plain facts. -/
namespace Pm
set_option linter.unusedSimpArgs false
set_option linter.unusedVariables false
open Go Am
set_option maxRecDepth 100000
end Pm
